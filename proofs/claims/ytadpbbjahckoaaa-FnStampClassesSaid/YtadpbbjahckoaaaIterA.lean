/- The program's iterator over possible stacks, stacksOf. Conditions: each theorem's own premises. -/
import Derived.Test.YtadpbbjahckoaaaIter
namespace Go.Proofs.Ytadpbbjahckoaaa
set_option maxRecDepth 100000
open Go.RowKit
attribute [local go_sem] Oper.semAt_some
def insertAt (l : List Int) (k : Nat) (x : Int) : List Int := l.take k ++ [x] ++ l.drop k
/-- The possible ones of the stacks with the last stamp put in at one of the first k places. -/
def putTo (n : Nat) (l : List Int) (k : Nat) : List (List Int) := ((List.range k).map fun i => insertAt l i ((n : Int) - 1)).filter possL
def stacksL : Nat → List (List Int)
  | 0 => [[0]]
  | 1 => [[0]]
  | n + 2 => (stacksL (n + 1)).flatMap fun l => putTo (n + 2) l (n + 2)
theorem putTo_step (n : Nat) (l : List Int) (k : Nat) : putTo n l (k + 1) = putTo n l k ++ if possL (insertAt l k ((n : Int) - 1)) then [insertAt l k ((n : Int) - 1)] else [] := by
  unfold putTo
  rw [List.range_succ, List.map_append, List.filter_append, List.map_singleton, List.filter_cons, List.filter_nil]
theorem stacksOf (n : Int) (w : World) : Calls Try.prog 39 #[.int .i64 n] w fun e w' => e = .returned (.func (.func 55) #[] #[.pointer (some ⟨w.heap.size, 0, none⟩)]) ∧ w.alloc (.cells #[.int .i64 n] 3) = w' := by
  go_enter Try.func39, Try.ntmps39
  go_wp2_with fail
  go_ret
  exact ⟨rfl, rfl⟩
set_option maxRecDepth 100000 in
set_option maxHeartbeats 4000000 in
theorem stacksOf1_one (n : Nat) (hn : n ≤ 1) (w : World) (B : Nat) (hB : w.cell? ⟨B, 0, none⟩ = some (.int .i64 n)) : SeqStk Try.prog 55 #[.pointer (some ⟨B, 0, none⟩)] [[0]] (fun k => k = B) w := by
  intro l q0 J W hW hq hqk hJ hY h0
  have hBl : B < w.heap.size := World.block_lt_of_cell? w _ hB
  have hcB : W.cell? ⟨B, 0, none⟩ = some (.int .i64 n) := (hW.cell (p := ⟨B, 0, none⟩) hBl).trans hB
  have hn' : (n : Int) ≤ 1 := by omega
  have hcB2 : ∀ o, (W.alloc o).cell? ⟨B, 0, none⟩ = some (.int .i64 n) := fun o => (World.cell?_of_block (a := ⟨B, 0, none⟩) (Below.heap_alloc W o B (by have := hW.size; omega))).trans hcB
  obtain ⟨fn, tmps, assign, body, hy, hR⟩ := hY [] q0 ⟨W.heap.size + 1, 1, [0]⟩ ((W.alloc (.cells #[.func (.yield l) #[] #[]] 32)).alloc (.cells #[.int .i64 0] 3)) (hJ.alloc _ (hJ.alloc _ h0)) rfl rfl rfl
    ⟨by simp, fun i hi => by
      have hi0 : i = 0 := by simpa using hi
      subst hi0
      constructor
      · have := World.cell?_alloc_mark (W.alloc (.cells #[.func (.yield l) #[] #[]] 32)) #[.int .i64 0] 3 (0, 0) 0
        rwa [World.size_alloc] at this
      · have := World.frozen?_alloc_mark (W.alloc (.cells #[.func (.yield l) #[] #[]] 32)) #[.int .i64 0] 3 0 0 0
        rwa [World.size_alloc] at this⟩ (by show W.heap.size ≤ W.heap.size + 1; omega) (by show W.heap.size + 1 ≠ q0; omega) (by simp; omega) (by simp; omega)
  have hv : RD.v ⟨W.heap.size + 1, 1, [0]⟩ = .slice (some ⟨W.heap.size + 1, 0, none⟩) 1 1 := rfl
  rw [hv] at hy
  clear hY hcB hB hW hJ h0 hv
  refine callsIn_of_wp Try.func55 rfl trivial ?_ rfl
  simp only [Try.ntmps55, List.size_toArray, List.length_cons, List.length_nil, Nat.reduceAdd, Nat.reduceSub, Array.replicate_succ, Array.replicate_zero, List.push_toArray, List.append_toArray, List.nil_append, List.cons_append]
  gi_wp2
  refine ⟨rfl, hR.mono ?_⟩
  rintro e W3 ⟨rfl, q', hJ3, _⟩
  gi_wp2
  refine bodyPost_ret (results_none rfl _ _ _) rfl ?_
  exact ⟨⟨_, rfl⟩, _, q', rfl, hJ3⟩
theorem add_at2 (g k j : Nat) : (⟨g, k, none⟩ : Addr).add j = ⟨g, k + j, none⟩ := by
  unfold Addr.add
  by_cases h0 : j = 0
  · subst h0; rfl
  · simp [h0]
theorem rowI_take {w : World} {g : Nat} {xs : List Int} (h : RowI w g xs) (k : Nat) : RowI w g (xs.take k) := ⟨h.1, fun i x hx => h.2 i x (by
  rw [List.getElem?_take] at hx
  split at hx
  · exact hx
  · cases hx)⟩
theorem rowI_drop_cells {w : World} {g : Nat} {xs : List Int} (h : RowI w g xs) (k : Nat) : ∀ j u, ((xs.drop k).map (Value.int .i64))[j]? = some u → w.cell? ((⟨g, k, none⟩ : Addr).add j) = some u := by
  intro j u hu
  rw [List.getElem?_map, List.getElem?_drop] at hu
  cases e : xs[k + j]? with
  | none => rw [e] at hu; cases hu
  | some x =>
    rw [e] at hu
    have hu' : Value.int .i64 x = u := Option.some.inj hu
    rw [← hu', add_at2]
    exact h.2 _ x e
theorem putTo_prefix (n : Nat) (l : List Int) {k m : Nat} (h : k ≤ m) : putTo n l k <+: putTo n l m := by
  obtain ⟨d, rfl⟩ := Nat.le.dest h
  clear h
  induction d with
  | zero => exact List.prefix_refl _
  | succ d ih =>
    rw [Nat.add_succ, putTo_step]
    exact ih.trans (List.prefix_append _ _)
theorem prefix_next {α : Type} {a L : List α} {s : α} (h : a ++ [s] <+: L) : a = L.take a.length ∧ L[a.length]? = some s := by
  obtain ⟨t, rfl⟩ := h
  rw [List.append_assoc]
  refine ⟨by rw [List.take_left'  rfl], ?_⟩
  rw [List.getElem?_append_right (Nat.le_refl _), Nat.sub_self]
  rfl
/-- What has come out when some lists have come in, and the first k places of the next one are done. -/
def outTo (n : Nat) (ls : List (List Int)) (l : List Int) (k : Nat) : List (List Int) := ls.flatMap (fun l => putTo n l n) ++ putTo n l k
theorem outTo_prefix {n p k : Nat} {Ks : List (List Int)} {l : List Int} (h : Ks[p]? = some l) (hk : k ≤ n) : outTo n (Ks.take p) l k <+: Ks.flatMap fun l => putTo n l n := by
  obtain ⟨h1, h2⟩ := List.getElem?_eq_some_iff.1 h
  have e : Ks = Ks.take p ++ l :: Ks.drop (p + 1) := by
    conv => lhs; rw [← List.take_append_drop p Ks, List.drop_eq_getElem_cons h1, h2]
  unfold outTo
  conv => rhs; rw [e]
  rw [List.flatMap_append, List.flatMap_cons]
  obtain ⟨t, ht⟩ := putTo_prefix n l hk
  exact ⟨t ++ (Ks.drop (p + 1)).flatMap (fun l => putTo n l n), by rw [← ht, List.append_assoc, List.append_assoc]⟩
theorem outTo_full {n p : Nat} {Ks : List (List Int)} {l : List Int} (h : Ks[p]? = some l) : outTo n (Ks.take p) l n = (Ks.take (p + 1)).flatMap fun l => putTo n l n := by
  obtain ⟨h1, h2⟩ := List.getElem?_eq_some_iff.1 h
  unfold outTo
  rw [List.take_succ_eq_append_getElem h1, h2, List.flatMap_append, List.flatMap_singleton]
theorem outTo_yes {n k : Nat} {ls : List (List Int)} {l : List Int} (h : possL (insertAt l k ((n : Int) - 1)) = true) : outTo n ls l (k + 1) = outTo n ls l k ++ [insertAt l k ((n : Int) - 1)] := by
  unfold outTo
  rw [putTo_step, if_pos h, List.append_assoc]
theorem outTo_no {n k : Nat} {ls : List (List Int)} {l : List Int} (h : possL (insertAt l k ((n : Int) - 1)) = false) : outTo n ls l (k + 1) = outTo n ls l k := by
  unfold outTo
  rw [putTo_step, if_neg (by rw [h]; decide), List.append_nil]
/-- What lies in memory when the iterator is under way. -/
structure Ctx (n l B Y : Nat) (A : World) (q : Nat) : Prop where
  num : A.cell? ⟨B, 0, none⟩ = some (.int .i64 n)
  fn : A.cell? ⟨Y, 0, none⟩ = some (.func (.yield l) #[] #[])
  q1 : q ≠ Y
  q2 : q ≠ B
theorem Ctx.below {n l B Y q : Nat} {A C : World} (h : Ctx n l B Y A q) (hb : Below A.heap.size A C) : Ctx n l B Y C q :=
  ⟨(hb.cell (p := ⟨B, 0, none⟩) (World.block_lt_of_cell? A _ h.num)).trans h.num, (hb.cell (p := ⟨Y, 0, none⟩) (World.block_lt_of_cell? A _ h.fn)).trans h.fn, h.q1, h.q2⟩
theorem Ctx.stays {n l B Y q : Nat} {A C : World} {row : Option Nat} (h : Ctx n l B Y A q) (hg : A.grownBy C row) (hr : ∀ r, row = some r → ∃ o : Obj, A.heap[r]? = some o ∧ o.isCells = false) : Ctx n l B Y C q :=
  ⟨cell_kept h.num hg hr, cell_kept h.fn hg hr, h.q1, h.q2⟩
set_option maxRecDepth 100000 in
set_option maxHeartbeats 8000000 in
theorem stacksOf1_more (n : Nat) (h2 : 2 ≤ n) (h7 : n ≤ 7) (Ks : List (List Int)) (hKs : ∀ l ∈ Ks, l.length + 1 = n)
    (hrec : ∀ (w : World) (B : Nat), w.cell? ⟨B, 0, none⟩ = some (.int .i64 ((n : Int) - 1)) → SeqStk Try.prog 55 #[.pointer (some ⟨B, 0, none⟩)] Ks (fun k => k = B) w)
    (w : World) (B : Nat) (hB : w.cell? ⟨B, 0, none⟩ = some (.int .i64 n)) : SeqStk Try.prog 55 #[.pointer (some ⟨B, 0, none⟩)] (Ks.flatMap fun l => putTo n l n) (fun k => k = B) w := by
  intro l q0 J W hW hq hqk hJ hY h0
  have hBl : B < w.heap.size := World.block_lt_of_cell? w _ hB
  have hcB : W.cell? ⟨B, 0, none⟩ = some (.int .i64 n) := (hW.cell (p := ⟨B, 0, none⟩) hBl).trans hB
  have hBW : B < W.heap.size := by have := hW.size; omega
  have hn' : ¬ (n : Int) ≤ 1 := by omega
  have hcB2 : ∀ o, (W.alloc o).cell? ⟨B, 0, none⟩ = some (.int .i64 n) := fun o => (World.cell?_of_block (a := ⟨B, 0, none⟩) (Below.heap_alloc W o B hBW)).trans hcB
  refine callsIn_of_wp_marks Try.func55 rfl trivial ?_ rfl
  simp only [Try.ntmps55, List.size_toArray, List.length_cons, List.length_nil, Nat.reduceAdd, Nat.reduceSub, Array.replicate_succ, Array.replicate_zero, List.push_toArray, List.append_toArray, List.nil_append, List.cons_append]
  gi_wp2
  refine ⟨trivial, rfl, (callsIn_wide.2 (stacksOf ((n : Int) - 1) _)).mono ?_⟩
  rintro e w1 ⟨rfl, rfl⟩
  gi_wp2
  obtain ⟨V, hV⟩ : ∃ V, V = (W.alloc (.cells #[.func (.yield l) #[] #[]] 32)).alloc (.cells #[.int .i64 ((n : Int) - 1)] 3) := ⟨_, rfl⟩
  have hVz : V.heap.size = W.heap.size + 2 := by rw [hV]; simp
  have hVb : Below W.heap.size W V := by rw [hV]; exact ((Below.refl _ W).alloc (Nat.le_refl _) _).alloc (by simp) _
  have hVn : V.cell? ⟨W.heap.size + 1, 0, none⟩ = some (.int .i64 ((n : Int) - 1)) := by
    rw [hV]
    have := World.cell?_alloc_mark (W.alloc (.cells #[.func (.yield l) #[] #[]] 32)) #[.int .i64 ((n : Int) - 1)] 3 (0, 0) 0
    rwa [World.size_alloc] at this
  have hVf : V.cell? ⟨W.heap.size, 0, none⟩ = some (.func (.yield l) #[] #[]) := by
    rw [hV]
    exact (World.cell?_of_block (a := ⟨W.heap.size, 0, none⟩) (Below.heap_alloc _ _ _ (by simp))).trans (World.cell?_alloc_mark W #[.func (.yield l) #[] #[]] 32 (0, 0) 0)
  have hVB : V.cell? ⟨B, 0, none⟩ = some (.int .i64 n) := (hVb.cell (p := ⟨B, 0, none⟩) hBW).trans hcB
  have hVJ : J [] q0 V := by rw [hV]; exact hJ.alloc _ (hJ.alloc _ h0)
  rw [← hV]
  refine range_stk (gf := 55) (lb := #[.pointer (some ⟨W.heap.size + 1, 0, none⟩)]) rfl (enters_of Try.func55 (by kernel_rfl) rfl) (hrec V (W.heap.size + 1) hVn) (Below.refl _ _) rfl q0 (by omega) (by omega)
    (fun pre q A => ∃ outs : List RD, J outs q A ∧ outs.map RD.xs = (pre.map RD.xs).flatMap (fun l => putTo n l n) ∧ Ctx n l B W.heap.size A q)
    (fun pre q A C row ⟨outs, h1, h2, h3⟩ hg hr => ⟨outs, hJ outs q A C row h1 hg (fun r e => ⟨by have := (hr r e).1; omega, (hr r e).2⟩), h2, h3.stays hg (fun r e => (hr r e).2)⟩)
    ⟨[], hVJ, rfl, hVB, hVf, by omega, hqk⟩
    (fun x => { tmps := #[.func (.yield l) #[] #[], .pointer (some ⟨B, 0, none⟩), .pointer (some ⟨W.heap.size, 0, none⟩), x.v, undef, undef, .int .i64 n, .bool false, undef, undef, undef, .int .i64 n, .int .i64 ((n : Int) - 1), .func (.func 55) #[] #[.pointer (some ⟨W.heap.size + 1, 0, none⟩)], x.v, undef, undef, undef, undef, undef, undef, undef, undef, undef, undef, undef, undef, undef, undef, undef, undef, undef, undef, undef, undef, undef, undef, undef, undef, undef, undef, undef, undef, undef, undef], defers := [] }) ?assign ?body ?done
  case assign =>
    intro l' x A K hK
    gi_wp2
    exact hK
  case body =>
    rintro l' pre q x A ⟨outs, hJo, hos, hctx⟩ hpre hx hcap hrow hxg hxq hqA hVA
    obtain ⟨xg, xc, xs⟩ := x
    have hm : xs.length + 1 = n := hKs xs (List.mem_of_getElem? hx)
    have hx : Ks[pre.length]? = some xs := hx
    obtain ⟨m, hml⟩ : ∃ m, m = xs.length := ⟨_, rfl⟩
    have hcap : xc = xs.length := hcap
    have hxv : RD.v ⟨xg, xc, xs⟩ = .slice (some ⟨xg, 0, none⟩) m m := by unfold RD.v; rw [hcap, hml]
    rw [hxv]
    have hrow : RowI A xg xs := (show BufI A xg xs from hrow).row
    have hxg : V.heap.size ≤ xg := hxg
    have hxq : xg ≠ q := hxq
    have hmn : m + 1 = n := by omega
    obtain ⟨i0, hi0, hz0, hz1, hz2⟩ := info_parts infoI
    have HI := Lib.hid hi0; have HZ0 := Lib.hid hz0; have HZ1 := Lib.hid hz1; have HZ2 := Lib.hid hz2
    have HML := Lib.hid hml.symm
    have HROW := Lib.hid hrow
    have HOS : Hid (outs.map RD.xs = outTo n (pre.map RD.xs) xs 0) := by show _ = _; rw [hos]; unfold outTo putTo; simp
    have HJO := Lib.hid hJo
    have HCX := Lib.hid hctx
    have HPRE := Lib.hid hpre
    have HX := Lib.hid hx
    have HY := Lib.hid hY
    have HJ := Lib.hid hJ
    have hxA := hrow.1
    clear hi0 hz0 hz1 hz2 hrow hos hJo hctx hpre hx hY hJ hml hm hcap hxv hKs hrec hW hcB hcB2 hVn hVf hVB hVJ hV hn'
    gi_wp2
    gi_loopw [4] (fun i wr => ∃ (k q' : Nat) (os : List RD), k ≤ n ∧ i = .int .i64 k ∧ Hid (J os q' wr) ∧ Hid (os.map RD.xs = outTo n (pre.map RD.xs) xs k) ∧ Hid (Ctx n l B W.heap.size wr q') ∧ (q' = q ∨ A.heap.size ≤ q') ∧ q' < wr.heap.size ∧ Hid (KeptBut (fun k => V.heap.size ≤ k ∨ k = W.heap.size + 1) q A wr)) (fun i _ => n - (intOf i).toNat)
    case atStart => exact ⟨0, q, outs, Nat.zero_le _, rfl, HJO, HOS, HCX, .inl rfl, hqA, Lib.hid (KeptBut.refl _ _ _)⟩
    case round =>
      obtain ⟨k, q', os, hk, rfl, HJ1, HO1, HC1, hq', hqr, HK1⟩ := hrel
      have hAr : A.heap.size ≤ wr.heap.size := HK1.out.1
      by_cases hlt : k < n
      · have hrx : RowI wr xg xs := HROW.out.keep (HK1.out.2 xg (.inl hxg) hxA hxq)
        have HCB : Hid (∀ w', Below wr.heap.size wr w' → w'.cell? ⟨B, 0, none⟩ = some (.int .i64 n) ∧ w'.cell? ⟨W.heap.size, 0, none⟩ = some (.func (.yield l) #[] #[]) ∧ RowI w' xg xs) :=
          Lib.hid fun w' hb => ⟨(HC1.out.below hb).num, (HC1.out.below hb).fn, hrx.below hb (by omega)⟩
        obtain ⟨cn0, cf0, cr0⟩ := HCB.out wr (Below.refl _ _)
        have k0 : (0 : Int) ≤ (k : Int) := by omega
        have k1 : (k : Int) ≤ (m : Int) := by omega
        have k2 : (k : Int) < (n : Int) := by omega
        clear cf0 cr0 hrx
        have HT1 : Hid (((xs.take k).map (Value.int .i64)).length = k * 1) := by show _ = _; rw [List.length_map, List.length_take, HML.out, Nat.min_eq_left (by omega), Nat.mul_one]
        have HT2 : Hid (((xs.drop k).map (Value.int .i64)).length = (m - k) * 1) := by show _ = _; rw [List.length_map, List.length_drop, HML.out, Nat.mul_one]
        by_cases hkm : k < m
        · have k3 : (k : Int) < (m : Int) := by omega
          gi_wp2_with (first
            | (gi_at_make; refine wpListIn_make_own _ rfl _ _ 22 rfl wr.heap.size 3 i0 (.int .i64 0) 1 Try.underlying22 HI.out HZ0.out HZ1.out .i64 .i64 n n rfl rfl rfl (by rw [HZ2.out]; omega) (by unfold maxLen; omega) (Nat.le_refl _) ?_; intro w2 hown2 hgr2; have hb2 : Below wr.heap.size wr w2 := (Below.refl _ wr).grown hgr2 (Nat.le_refl _) (by intro k hk; cases hk); have hz2 := hb2.size; clear hgr2)
            | (gi_at_builtin; refine wpListIn_append_fits _ rfl _ _ 22 rfl wr.heap.size 3 i0 1 Try.underlying22 HI.out HZ1.out wr.heap.size 0 n [] rfl hown2 ⟨xg, 0, none⟩ k m ((xs.take k).map (Value.int .i64)) rfl HT1.out (rowI_cells (rowI_take (HCB.out w2 hb2).2.2 k)) (ints_oneCell .i64 _) (by omega) ?_; intro w3 hown3 hgr3; rw [Nat.zero_add] at hown3 ⊢; have hb3 : Below wr.heap.size wr w3 := hb2.grown hgr3 hz2 (by intro k hk; cases hk; exact Nat.le_refl _); have hz3 := hb3.size; have cn3 := (HCB.out w3 hb3).1; clear hown2 hgr3)
            | (gi_at_builtin; refine wpListIn_append_fits _ rfl _ _ 22 rfl wr.heap.size 3 i0 1 Try.underlying22 HI.out HZ1.out wr.heap.size k n _ rfl (hown3.alloc _) ⟨w3.heap.size, 0, none⟩ 1 1 [.int .i64 ((n : Int) - 1)] rfl rfl (cell_one_new _ _ _) (ints_oneCell .i64 [(n : Int) - 1]) (by omega) ?_; intro w4 hown4 hgr4; have hb4 : Below wr.heap.size wr w4 := (hb3.alloc hz3 _).grown hgr4 (by simp; omega) (by intro k hk; cases hk; exact Nat.le_refl _); have hz4 := hb4.size; clear hown3 hgr4)
            | (gi_at_builtin; refine wpListIn_append_fits _ rfl _ _ 22 rfl wr.heap.size 3 i0 1 Try.underlying22 HI.out HZ1.out wr.heap.size (k + 1) n _ rfl hown4 ⟨xg, k, none⟩ (m - k) (m - k) ((xs.drop k).map (Value.int .i64)) rfl HT2.out (rowI_drop_cells (HCB.out w4 hb4).2.2 k) (ints_oneCell .i64 _) (by omega) ?_; intro w5 hown5 hgr5; rw [show k + 1 + (m - k) = n from by omega] at hown5 ⊢; have hb5 : Below wr.heap.size wr w5 := hb4.grown hgr5 hz4 (by intro k hk; cases hk; exact Nat.le_refl _); have hz5 := hb5.size; have cf5 := (HCB.out w5 hb5).2.1; clear hown4 hgr5))
          have hr5 : BufI w5 wr.heap.size (insertAt xs k ((n : Int) - 1)) := BufI.of_own (by simpa [insertAt] using hown5)
          have hn5 : (insertAt xs k ((n : Int) - 1)).length = n := (RowI.of_own (xs := insertAt xs k ((n : Int) - 1)) (by simpa [insertAt] using hown5)).2
          obtain ⟨T, hT⟩ : ∃ T, T = insertAt xs k ((n : Int) - 1) := ⟨_, rfl⟩
          rw [← hT] at hr5 hn5
          have HT := Lib.hid hT
          have HR5 := Lib.hid hr5
          have HN5 := Lib.hid hn5
          clear hown5 hT hr5 hn5
          refine ⟨trivial, rfl, ((callsIn_wide.2 (implStampPossible wr.heap.size n n T w5 HN5.out (by omega) HR5.out.row)).inRound l').mono ?_⟩
          rintro e w6 ⟨rfl, hb6⟩
          have hb6' : Below wr.heap.size wr w6 := hb5.trans (hb6.mono hz5)
          have hz6 := hb6'.size
          have HJ6 : Hid (J os q' w6) := Lib.hid (HJ.out os q' wr w6 none HJ1.out (grown_of_below hb6' none) (by intro r e; cases e))
          have HC6 := Lib.hid (HC1.out.below hb6')
          have HK6 : Hid (KeptBut (fun k => V.heap.size ≤ k ∨ k = W.heap.size + 1) q A w6) := Lib.hid ⟨Nat.le_trans hAr hz6, fun b h1 h2 h3 => (hb6'.block b (by omega)).trans (HK1.out.2 b h1 h2 h3)⟩
          have HR6 := Lib.hid (HR5.out.below hb6 HR5.out.1)
          cases hp : possL T with
          | false =>
            have HO6 : Hid (os.map RD.xs = outTo n (pre.map RD.xs) xs (k + 1)) := by show _ = _; rw [outTo_no (by rw [← HT.out]; exact hp)]; exact HO1.out
            clear hp hb6 hb6' cf5
            gi_wp2
            refine ⟨fun _ h => (by cases h), ?_⟩
            gi_wp2
            go_roundw
            case rel => exact ⟨k + 1, q', os, by omega, by go_num, HJ6, HO6, HC6, hq', by omega, HK6⟩
            case measure => simp [intOf]; omega
          | true =>
            have HO6 : Hid (outTo n (pre.map RD.xs) xs (k + 1) = os.map RD.xs ++ [T]) := by show _ = _; rw [outTo_yes (by rw [← HT.out]; exact hp), HO1.out, ← HT.out]
            have hpf : os.map RD.xs ++ [T] <+: Ks.flatMap fun l => putTo n l n := by
              rw [← HO6.out, HPRE.out]
              exact outTo_prefix HX.out (by omega)
            obtain ⟨hp1, hp2⟩ := prefix_next hpf
            rw [List.length_map] at hp1 hp2
            obtain ⟨fn, tmps, assign, body, hy, hR⟩ := HY.out os q' ⟨wr.heap.size, n, T⟩ w6 HJ6.out hp1 hp2 HN5.out.symm HR6.out (by show W.heap.size ≤ wr.heap.size; omega) (by show wr.heap.size ≠ q'; omega) (by omega) (by omega)
            have hv : RD.v ⟨wr.heap.size, n, T⟩ = .slice (some ⟨wr.heap.size, 0, none⟩) n n := by unfold RD.v; rw [HN5.out]
            rw [hv] at hy
            have cf6 := HC6.out.fn
            have HRR := Lib.hid hR
            clear hp hb6 hb6' cf5 hpf hp1 hp2 hv hR
            gi_wp2
            refine ⟨rfl, HRR.out.mono ?_⟩
            rintro e w7 ⟨rfl, q2, hJ7, hq2, hq2l, hz7, hk7⟩
            have HJ7 : Hid (J (os ++ [⟨wr.heap.size, n, T⟩]) q2 w7) := Lib.hid hJ7
            have HO7 : Hid ((os ++ [(⟨wr.heap.size, n, T⟩ : RD)]).map RD.xs = outTo n (pre.map RD.xs) xs (k + 1)) := by show _ = _; rw [HO6.out, List.map_append]; rfl
            have hc6 := HC6.out
            have HC7 : Hid (Ctx n l B W.heap.size w7 q2) := Lib.hid ⟨(World.cell?_of_block (a := ⟨B, 0, none⟩) (hk7 B (.inr rfl) (by omega) (fun e => hc6.q2 e.symm))).trans hc6.num, (World.cell?_of_block (a := ⟨W.heap.size, 0, none⟩) (hk7 W.heap.size (.inl (Nat.le_refl _)) (by omega) (fun e => hc6.q1 e.symm))).trans hc6.fn, by have := hc6.q1; omega, by have := hc6.q2; omega⟩
            have HK7 : Hid (KeptBut (fun k => V.heap.size ≤ k ∨ k = W.heap.size + 1) q A w7) := Lib.hid ⟨by omega, fun b h1 h2 h3 => (hk7 b (.inl (by omega)) (by omega) (by omega)).trans (HK6.out.2 b h1 h2 h3)⟩
            clear hJ7 hk7 hc6 cf6 hy
            gi_wp2
            go_roundw
            case rel => exact ⟨k + 1, q2, os ++ [⟨wr.heap.size, n, T⟩], by omega, by go_num, HJ7, HO7, HC7, by omega, hq2l, HK7⟩
            case measure => simp [intOf]; omega
        · obtain rfl : m = k := by omega
          have HDR : Hid (xs.drop m = []) := by show _ = _; rw [List.drop_of_length_le (by rw [HML.out]; exact Nat.le_refl _)]
          gi_wp2_with (first
            | (gi_at_make; refine wpListIn_make_own _ rfl _ _ 22 rfl wr.heap.size 3 i0 (.int .i64 0) 1 Try.underlying22 HI.out HZ0.out HZ1.out .i64 .i64 n n rfl rfl rfl (by rw [HZ2.out]; omega) (by unfold maxLen; omega) (Nat.le_refl _) ?_; intro w2 hown2 hgr2; have hb2 : Below wr.heap.size wr w2 := (Below.refl _ wr).grown hgr2 (Nat.le_refl _) (by intro k hk; cases hk); have hz2 := hb2.size; clear hgr2)
            | (gi_at_builtin; refine wpListIn_append_fits _ rfl _ _ 22 rfl wr.heap.size 3 i0 1 Try.underlying22 HI.out HZ1.out wr.heap.size 0 n [] rfl hown2 ⟨xg, 0, none⟩ m m ((xs.take m).map (Value.int .i64)) rfl HT1.out (rowI_cells (rowI_take (HCB.out w2 hb2).2.2 m)) (ints_oneCell .i64 _) (by omega) ?_; intro w3 hown3 hgr3; rw [Nat.zero_add] at hown3 ⊢; have hb3 : Below wr.heap.size wr w3 := hb2.grown hgr3 hz2 (by intro k hk; cases hk; exact Nat.le_refl _); have hz3 := hb3.size; have cn3 := (HCB.out w3 hb3).1; clear hown2 hgr3)
            | (gi_at_builtin; refine wpListIn_append_fits _ rfl _ _ 22 rfl wr.heap.size 3 i0 1 Try.underlying22 HI.out HZ1.out wr.heap.size m n _ rfl (hown3.alloc _) ⟨w3.heap.size, 0, none⟩ 1 1 [.int .i64 ((n : Int) - 1)] rfl rfl (cell_one_new _ _ _) (ints_oneCell .i64 [(n : Int) - 1]) (by omega) ?_; intro w4 hown4 hgr4; rw [hmn] at hown4 ⊢; have hb4 : Below wr.heap.size wr w4 := (hb3.alloc hz3 _).grown hgr4 (by simp; omega) (by intro k hk; cases hk; exact Nat.le_refl _); have hz4 := hb4.size; clear hown3 hgr4)
            | (gi_at_builtin; refine wpListIn_append_fits _ rfl _ _ 22 rfl wr.heap.size 3 i0 1 Try.underlying22 HI.out HZ1.out wr.heap.size n n _ rfl hown4 ⟨xg, 0, none⟩ 0 0 [] rfl rfl (fun j u hu => by simp at hu) (by simp) (by omega) ?_; intro w5 hown5 hgr5; rw [Nat.add_zero] at hown5 ⊢; have hb5 : Below wr.heap.size wr w5 := hb4.grown hgr5 hz4 (by intro k hk; cases hk; exact Nat.le_refl _); have hz5 := hb5.size; have cf5 := (HCB.out w5 hb5).2.1; clear hown4 hgr5))
          have hr5 : BufI w5 wr.heap.size (insertAt xs m ((n : Int) - 1)) := BufI.of_own (by have hd := HDR.out; simpa [insertAt, hd] using hown5)
          have hn5 : (insertAt xs m ((n : Int) - 1)).length = n := (RowI.of_own (xs := insertAt xs m ((n : Int) - 1)) (by have hd := HDR.out; simpa [insertAt, hd] using hown5)).2
          obtain ⟨T, hT⟩ : ∃ T, T = insertAt xs m ((n : Int) - 1) := ⟨_, rfl⟩
          rw [← hT] at hr5 hn5
          have HT := Lib.hid hT
          have HR5 := Lib.hid hr5
          have HN5 := Lib.hid hn5
          clear hown5 hT hr5 hn5
          refine ⟨trivial, rfl, ((callsIn_wide.2 (implStampPossible wr.heap.size n n T w5 HN5.out (by omega) HR5.out.row)).inRound l').mono ?_⟩
          rintro e w6 ⟨rfl, hb6⟩
          have hb6' : Below wr.heap.size wr w6 := hb5.trans (hb6.mono hz5)
          have hz6 := hb6'.size
          have HJ6 : Hid (J os q' w6) := Lib.hid (HJ.out os q' wr w6 none HJ1.out (grown_of_below hb6' none) (by intro r e; cases e))
          have HC6 := Lib.hid (HC1.out.below hb6')
          have HK6 : Hid (KeptBut (fun k => V.heap.size ≤ k ∨ k = W.heap.size + 1) q A w6) := Lib.hid ⟨Nat.le_trans hAr hz6, fun b h1 h2 h3 => (hb6'.block b (by omega)).trans (HK1.out.2 b h1 h2 h3)⟩
          have HR6 := Lib.hid (HR5.out.below hb6 HR5.out.1)
          cases hp : possL T with
          | false =>
            have HO6 : Hid (os.map RD.xs = outTo n (pre.map RD.xs) xs (m + 1)) := by show _ = _; rw [outTo_no (by rw [← HT.out]; exact hp)]; exact HO1.out
            clear hp hb6 hb6' cf5
            gi_wp2
            refine ⟨fun _ h => (by cases h), ?_⟩
            gi_wp2
            go_roundw
            case rel => exact ⟨m + 1, q', os, by omega, by go_num, HJ6, HO6, HC6, hq', by omega, HK6⟩
            case measure => simp [intOf]; omega
          | true =>
            have HO6 : Hid (outTo n (pre.map RD.xs) xs (m + 1) = os.map RD.xs ++ [T]) := by show _ = _; rw [outTo_yes (by rw [← HT.out]; exact hp), HO1.out, ← HT.out]
            have hpf : os.map RD.xs ++ [T] <+: Ks.flatMap fun l => putTo n l n := by
              rw [← HO6.out, HPRE.out]
              exact outTo_prefix HX.out (by omega)
            obtain ⟨hp1, hp2⟩ := prefix_next hpf
            rw [List.length_map] at hp1 hp2
            obtain ⟨fn, tmps, assign, body, hy, hR⟩ := HY.out os q' ⟨wr.heap.size, n, T⟩ w6 HJ6.out hp1 hp2 HN5.out.symm HR6.out (by show W.heap.size ≤ wr.heap.size; omega) (by show wr.heap.size ≠ q'; omega) (by omega) (by omega)
            have hv : RD.v ⟨wr.heap.size, n, T⟩ = .slice (some ⟨wr.heap.size, 0, none⟩) n n := by unfold RD.v; rw [HN5.out]
            rw [hv] at hy
            have cf6 := HC6.out.fn
            have HRR := Lib.hid hR
            clear hp hb6 hb6' cf5 hpf hp1 hp2 hv hR
            gi_wp2
            refine ⟨rfl, HRR.out.mono ?_⟩
            rintro e w7 ⟨rfl, q2, hJ7, hq2, hq2l, hz7, hk7⟩
            have HJ7 : Hid (J (os ++ [⟨wr.heap.size, n, T⟩]) q2 w7) := Lib.hid hJ7
            have HO7 : Hid ((os ++ [(⟨wr.heap.size, n, T⟩ : RD)]).map RD.xs = outTo n (pre.map RD.xs) xs (m + 1)) := by show _ = _; rw [HO6.out, List.map_append]; rfl
            have hc6 := HC6.out
            have HC7 : Hid (Ctx n l B W.heap.size w7 q2) := Lib.hid ⟨(World.cell?_of_block (a := ⟨B, 0, none⟩) (hk7 B (.inr rfl) (by omega) (fun e => hc6.q2 e.symm))).trans hc6.num, (World.cell?_of_block (a := ⟨W.heap.size, 0, none⟩) (hk7 W.heap.size (.inl (Nat.le_refl _)) (by omega) (fun e => hc6.q1 e.symm))).trans hc6.fn, by have := hc6.q1; omega, by have := hc6.q2; omega⟩
            have HK7 : Hid (KeptBut (fun k => V.heap.size ≤ k ∨ k = W.heap.size + 1) q A w7) := Lib.hid ⟨by omega, fun b h1 h2 h3 => (hk7 b (.inl (by omega)) (by omega) (by omega)).trans (HK6.out.2 b h1 h2 h3)⟩
            clear hJ7 hk7 hc6 cf6 hy
            gi_wp2
            go_roundw
            case rel => exact ⟨m + 1, q2, os ++ [⟨wr.heap.size, n, T⟩], by omega, by go_num, HJ7, HO7, HC7, by omega, hq2l, HK7⟩
            case measure => simp [intOf]; omega
      · obtain rfl : k = n := by omega
        have HO6 : Hid (os.map RD.xs = ((pre ++ [(⟨xg, xc, xs⟩ : RD)]).map RD.xs).flatMap (fun l => putTo k l k)) := by
          show _ = _
          rw [HO1.out, List.map_append, List.flatMap_append]
          unfold outTo
          simp
        have cn0 := HC1.out.num
        gi_wp2
        exact ⟨q', ⟨os, HJ1.out, HO6.out, HC1.out⟩, hq', hqr, HK1.out⟩
  case done =>
    rintro D q rs A hD hrs ⟨outs, hJo, hos, _⟩ hK
    gi_wp2
    refine ⟨by simp, .inl ⟨_, _, rfl, run_takeDeferred hK, ?_⟩⟩
    exact ⟨_, results_none rfl _ _ _, ⟨_, rfl⟩, outs, q, by rw [hos, hrs], hJ.putObj _ hJo (by omega) hK rfl⟩
end Go.Proofs.Ytadpbbjahckoaaa
