/- The walks of PathVisits, of the program and of the reference. Conditions: each theorem's own premises. -/
import Derived.Test.YtalbokejljjflaaPathG
namespace Go.Proofs.Ytalbokejljjflaa
open Go.RowKit Go.Maps
/-- The greatest number of visits, or -1. -/
def visitsI (l : List UInt8) : Int := if creas l then (mostP (places l) : Int) else -1
theorem most_step {m : Nat} {qs : List (Int × Int)} {p : Int × Int} (h : IsMost m qs) : IsMost (max m (qs.count p + 1)) (qs ++ [p]) := by
  obtain ⟨h1, h2⟩ := h
  have hc : ∀ q, (qs ++ [p]).count q = qs.count q + if p = q then 1 else 0 := fun q => by
    rw [List.count_append, List.count_singleton]
    congr 1
    simp
  refine ⟨fun q => ?_, ?_⟩
  · rw [hc]
    have := h1 q
    split
    · rename_i e
      subst e
      omega
    · omega
  · right
    by_cases e : m ≤ qs.count p + 1
    · exact ⟨p, by rw [hc, if_pos rfl]; omega⟩
    · rcases h2 with h2 | ⟨q, hq⟩
      · omega
      · refine ⟨q, ?_⟩
        rw [hc, hq, if_neg]
        · omega
        · rintro rfl
          omega
theorem placeV_inj {p q : Int × Int} (h : placeV p = placeV q) : p = q := by
  obtain ⟨a, b⟩ := p
  obtain ⟨c, d⟩ := q
  unfold placeV at h
  simp at h
  simp [h]
/-- What the map of places counts. -/
def Visited (ps : List (Int × Int)) (k : Nat) (c : Value → Int) : Prop := ∀ p : Int × Int, c (placeV p) = ((ps.take k).count p : Int)
theorem Counts.bump3 {K t : TypeId} {w : World} {b n : Nat} {c : Value → Int} (h : Counts K w b n c) (L : WideMaps.KeyLaw Try.prog K) (ht : Try.prog.underlying t = some (.map K 3)) {v : Value} {kl : Lit} (hk : keyOf Try.prog K v = some kl) (hn : n < maxLen) (y x : Int) (hy : c v = y) (hx : (Lit.int .i64 x).wf = true) :
    ∃ (st : Nat) (u1 u2 : World) (c2 : Value → Int), (Instr.mapEntry t (.map (some b)) v).run Try.prog w = .ok (.tuple #[.int .i64 y, .int .i64 (st : Int)]) u1 ∧ (Instr.lookup t (.map (some b)) v false).run Try.prog u1 = .ok (.int .i64 y) u1 ∧
      (Instr.entryStore t (.map (some b)) (.int .i64 (st : Int)) (.int .i64 x)).run Try.prog u1 = .ok () u2 ∧ Counts K u2 b (n + 1) c2 ∧ w.grownBy u2 (some b) ∧ c2 v = x ∧ ∀ u, u ≠ v → c2 u = c u := by
  obtain ⟨st, u1, u2, r1, r2, r3, r4, r5⟩ := h.bump2 L ht hk hn y x hy hx
  exact ⟨st, u1, u2, _, r1, r2, r3, r4, r5, if_pos rfl, fun u hu => if_neg hu⟩
theorem visited_step {ps : List (Int × Int)} {k cn : Nat} {c c2 : Value → Int} {p : Int × Int} (hp : ps[k]? = some p) (h : Visited ps k c) (hcn : cn = (ps.take k).count p) (h1 : c2 (placeV p) = (cn : Int) + 1) (h2 : ∀ u, u ≠ placeV p → c2 u = c u) : Visited ps (k + 1) c2 := by
  intro q
  obtain ⟨hk, e⟩ := List.getElem?_eq_some_iff.1 hp
  rw [List.take_succ_eq_append_getElem hk, e, List.count_append, List.count_singleton]
  by_cases hq : p = q
  · subst hq
    rw [h1, hcn]
    simp
  · rw [h2 _ fun h => hq (placeV_inj h).symm, h q]
    simp [hq]
theorem take_succ_at {ps : List (Int × Int)} {k : Nat} {p : Int × Int} (hp : ps[k]? = some p) : ps.take (k + 1) = ps.take k ++ [p] := by
  obtain ⟨hk, e⟩ := List.getElem?_eq_some_iff.1 hp
  rw [List.take_succ_eq_append_getElem hk, e]
theorem wf_thousand {x : Int} (h1 : -1000 ≤ x) (h2 : x ≤ 1000) : (Lit.int .i64 x).wf = true := by
  have e1 : IntKind.i64.min = -9223372036854775808 := rfl
  have e2 : IntKind.i64.max = 9223372036854775807 := rfl
  simp only [Lit.wf, Bool.and_eq_true, decide_eq_true_eq]
  omega
set_option maxRecDepth 100000 in
set_option maxHeartbeats 4000000 in
theorem implPathVisits (s : ByteArray) (w : World) (hs : s.size ≤ maxLen) :
    Calls Try.prog 12 #[.string s] w fun e w' => e = .returned (.int .i64 (visitsI (bl s))) ∧ Below w.heap.size w w' := by
  cases hok : creas (bl s) with
  | false =>
    have HO : Hid (visitsI (bl s) = -1) := by show _ = _; unfold visitsI; rw [hok]; rfl
    rw [HO.out]
    have HOK := Lib.hid hok
    clear hok
    go_enter Try.func12, Try.ntmps12
    go_wp2_with fail
    refine (implPathPlaces_no s _ hs HOK.out).mono ?_
    intro e w1 h1
    obtain ⟨A1, rfl, hb1⟩ := h1.form
    clear h1
    go_wp2_with fail
    go_ret
    exact ⟨rfl, hb1⟩
  | true =>
    have HOK := Lib.hid hok
    have HO : Hid (visitsI (bl s) = (mostP (places (bl s)) : Int)) := by show _ = _; unfold visitsI; rw [hok]; rfl
    rw [HO.out]
    clear hok HO
    obtain ⟨N, ps, hps, hpl, hN2, hN65, hbd, C1⟩ := implPlaces s HOK.out
    rw [← hps]
    have HP := Lib.hid hpl
    have HC := Lib.hid C1
    have HBD := Lib.hid hbd
    clear hps hpl C1 hbd
    have hmm := @run_makeMap Try.prog
    go_enter Try.func12, Try.ntmps12
    go_wp2_with fail
    refine (HC.out _).mono ?_
    rintro e w1 ⟨g, cap, rfl, hg, hgl, hR, hb1⟩
    have hz1 := hb1.size
    have HR := Lib.hid hR
    clear hR
    go_wp2_with fail
    go_loopw [6, 19] (fun o i wr => ∃ k m : Nat, k ≤ N ∧ m ≤ k ∧ i = .int .i64 k ∧ o = .int .i64 m ∧ (∃ c : Value → Int, Hid (Counts 25 wr w1.heap.size k c) ∧ Hid (Visited ps k c)) ∧ Hid (IsMost m (ps.take k)) ∧ Below w1.heap.size w1 wr) (fun _ i _ => N - (intOf i).toNat)
    case atStart =>
      refine ⟨0, 0, Nat.zero_le _, Nat.le_refl _, rfl, rfl, ⟨fun _ => 0, Counts.made 25 w1, ?_⟩, ?_, ?_⟩
      · show Visited _ _ _
        intro p
        rw [List.take_zero]
        rfl
      · show IsMost _ _
        exact ⟨fun p => by rw [List.take_zero]; exact Nat.le_refl _, .inl rfl⟩
      · exact (Below.refl _ _).alloc (Nat.le_refl _) _
    case round =>
      obtain ⟨k, m, hk, hmk, rfl, rfl, ⟨c, HCo, HVi⟩, HMo, hbel⟩ := hrel
      have hzr := hbel.size
      have hBl := HCo.out.lt
      by_cases hlt : k < N
      · obtain ⟨p, hp⟩ : ∃ p, ps[k]? = some p := ⟨_, List.getElem?_eq_getElem (by rw [HP.out]; omega)⟩
        obtain ⟨a1, a2⟩ := HR.out k p hp
        have b1 := (hbel.cell (p := ⟨g, k * 2, none⟩) hgl).trans a1
        have b2 := (hbel.cell (p := ⟨g, k * 2 + 1, none⟩) hgl).trans a2
        have HA := Lib.hid hp
        have k2 : (0 : Int) ≤ (k : Int) := by omega
        have k3 : (k : Int) < (N : Int) := by omega
        obtain ⟨x1, x2, x3, x4⟩ := HBD.out k p hp
        obtain ⟨kl, hkl⟩ := keyPlace p.1 p.2 (wf_small x1 x2) (wf_small x3 x4)
        obtain ⟨cn, hcn⟩ : ∃ cn, cn = (ps.take k).count p := ⟨_, rfl⟩
        have hcnk : cn ≤ k := by
          rw [hcn]
          have h1 := List.count_le_length (a := p) (l := ps.take k)
          have h2 := List.length_take_le k ps
          omega
        have hcv : c (.agg #[.int .i64 p.1, .int .i64 p.2]) = (cn : Int) := by
          rw [hcn]
          exact HVi.out p
        have hcd : Counts 25 (wr.alloc (.cells #[.int .i64 p.1, .int .i64 p.2] 25)).drew w1.heap.size k c := HCo.out.keep (Below.heap_alloc wr _ _ hBl)
        obtain ⟨st, u1, u2, c2, r1, r2, r3, r4, r5, y1, y2⟩ := hcd.bump3 placeLaw Try.underlying45 hkl (by unfold maxLen; omega) (cn : Int) ((cn : Int) + 1) hcv (wf_thousand (by omega) (by omega))
        have r0 := hcd.look placeLaw Try.underlying45 hkl
        rw [hcv] at r0
        have f1 : IntKind.i64.wrap ((cn : Int) + 1) = (cn : Int) + 1 := by rw [IntKind.wrap_i64]; omega
        have hzu : wr.heap.size + 1 ≤ u2.heap.size := by have := r5.size; simpa using this
        have hblk : u2.heap[wr.heap.size]? = (wr.alloc (.cells #[.int .i64 p.1, .int .i64 p.2] 25)).heap[wr.heap.size]? := r5.block wr.heap.size (by simp) (by intro e; injection e; omega)
        have q1 : u2.cell? ⟨wr.heap.size, 0, none⟩ = some (.int .i64 p.1) := (World.cell?_of_block (a := ⟨wr.heap.size, 0, none⟩) hblk).trans (World.cell?_alloc_mark wr _ _ (0, 0) 0)
        have q2 : u2.cell? ⟨wr.heap.size, 1, none⟩ = some (.int .i64 p.2) := (World.cell?_of_block (a := ⟨wr.heap.size, 1, none⟩) hblk).trans (World.cell?_alloc_mark wr _ _ (0, 0) 1)
        have hbel2 : Below w1.heap.size w1 u2 := below_grown_at ((hbel.alloc hzr _).drew) r5 (by simp; omega) (Nat.le_refl _)
        have HKEY : Hid (∃ kl, keyOf Try.prog 25 (.agg #[.int .i64 p.1, .int .i64 p.2]) = some kl) := ⟨kl, hkl⟩
        have HR4 := Lib.hid r4
        have HCV : Hid (c2 (.agg #[.int .i64 p.1, .int .i64 p.2]) = (cn : Int) + 1) := y1
        have HV2 : Hid (Visited ps (k + 1) c2) := visited_step HA.out HVi.out hcn y1 y2
        have HM2 : Hid (IsMost (max m (cn + 1)) (ps.take (k + 1))) := by
          show IsMost _ _
          rw [take_succ_at HA.out, hcn]
          exact most_step HMo.out
        clear a1 a2 hp r4 r5 hcd hcv hcn hblk y1 y2
        go_wp2
        go_region
        all_goals
          go_wp2_with (first | (at_lookup; refine wpList_counts_look rfl _ _ rfl HR4.out placeLaw Try.underlying45 rfl _ rfl HKEY.out _ HCV.out ?_) | go_in)
          all_goals
            go_roundw
            case rel =>
              refine ⟨k + 1, max m (cn + 1), by omega, by omega, by go_num, ?_, ⟨_, HR4.out, HV2⟩, HM2, hbel2⟩
              first
              | rfl
              | (congr 1; omega)
              | (simp; omega)
            case measure => simp [intOf]; omega
      · obtain rfl : k = N := by omega
        have HF : Hid (mostP ps = m) := by
          show _ = _
          have h := HMo.out
          rw [← HP.out, List.take_length] at h
          exact (mostP_is ps).uniq h
        go_wp2
        go_ret
        exact ⟨by rw [HF.out]; rfl, hb1.trans (hbel.mono hz1)⟩
/-- No place among the first i is in the list more than m times. -/
def MostTo (ps : List (Int × Int)) (i m : Nat) : Prop := (∀ (j : Nat) (q : Int × Int), j < i → ps[j]? = some q → ps.count q ≤ m) ∧ (m = 0 ∨ ∃ q, ps.count q = m)
theorem mostTo_end {ps : List (Int × Int)} {m : Nat} (h : MostTo ps ps.length m) : mostP ps = m := by
  obtain ⟨h1, h2⟩ := h
  refine (mostP_is ps).uniq ⟨fun p => ?_, h2⟩
  by_cases hp : p ∈ ps
  · obtain ⟨j, hj⟩ := List.mem_iff_getElem?.1 hp
    exact h1 j p (List.getElem?_eq_some_iff.1 hj).1 hj
  · rw [List.count_eq_zero.2 hp]
    exact Nat.zero_le _
theorem mostTo_step {ps : List (Int × Int)} {i m : Nat} {q : Int × Int} (hq : ps[i]? = some q) (h : MostTo ps i m) : MostTo ps (i + 1) (max m (ps.count q)) := by
  obtain ⟨h1, h2⟩ := h
  refine ⟨fun j p hj hp => ?_, ?_⟩
  · by_cases e : j < i
    · have := h1 j p e hp
      omega
    · have : j = i := by omega
      subst this
      rw [hq] at hp
      obtain rfl := Option.some.inj hp
      omega
  · by_cases e : m ≤ ps.count q
    · right; exact ⟨q, by omega⟩
    · rcases h2 with h2 | ⟨p, hp⟩
      · omega
      · right; exact ⟨p, by omega⟩
end Go.Proofs.Ytalbokejljjflaa
