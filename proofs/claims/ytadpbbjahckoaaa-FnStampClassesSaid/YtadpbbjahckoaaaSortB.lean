/- The walks of the library's slices.AppendSeq and slices.Collect over the iterator of possible stacks. Conditions: each theorem's own premises. -/
import Derived.Test.YtadpbbjahckoaaaSortA
import Derived.Test.YtadpbbjahckoaaaIterB
import Derived.Deep.AppendLies
namespace Go.Proofs.Ytadpbbjahckoaaa
set_option maxRecDepth 100000
open Go.RowKit
attribute [local go_sem] Oper.semAt_some
theorem wpListIn_append_lies {F : Fence} {n : Nat} {P : Program} (w : World) {ops : Array Oper} {rest : List Oper} {o : Oper} {a : Act} {Q : Exit → Act → World → Prop}
    (hg : o.guard = none) (s x : Operand) (t : TypeId) (hop : o.op = Op.call { callee := Callee.builtin Builtin.append, args := #[s, x], argTypes := #[t, t] })
    (base : Nat) (e : TypeId) (i : TypeInfo) (z : Value) (size bytes : Nat) (h1 : P.underlying t = some (.slice e)) (h2 : P.info? e = some i) (h3 : i.zero = some z) (h4 : i.size = size) (h5 : i.bytes = bytes) (h6 : z.cells.size = size) (h7 : 0 < size)
    (v : Value) (k : Nat) (xs : List Value) (hs : a.eval s = v) (hown : w.ownsRow base e size v k xs) (ad : Addr) (m c : Nat) (news : List Value) (hx : a.eval x = .slice (some ad) m c) (hn : news.length = m * size)
    (hc : ∀ j u, news[j]? = some u → w.cell? (ad.add j) = some u) (h1c : ∀ u ∈ news, u.oneCell' = true) (hm : 0 < m) (b1 : k + m ≤ maxLen) (b2 : (k + m) * bytes ≤ 140737488355328) (b3 : base ≤ w.heap.size)
    (hK : ∀ g cap w', w'.ownsRow base e size (.slice (some ⟨g, 0, none⟩) (k + m) cap) (k + m) (xs ++ news) → w.grownBy w' v.ownBlock → (v.ownBlock = some g ∨ g = w.heap.size) → g < w'.heap.size → wpListIn F n P ops Q rest (a.put o.dst (.slice (some ⟨g, 0, none⟩) (k + m) cap)) w') :
    wpListIn F n P ops Q (o :: rest) a w := by
  refine wpListIn_plain hg fun K hK' => ?_
  obtain ⟨g, cap, w', hrun, r1, r2, r3, r4⟩ := run_append_lies (P := P) w t o.type base e i z size bytes h1 h2 h3 h4 h5 h6 h7 v k xs hown ad m c news hn hc h1c hm b1 b2 b3 w.heap.size rfl
  unfold Oper.wpIn
  refine ⟨?_, ?_⟩
  · simp [Oper.about, hop, resolve, Target.leads, Sem.run_pure]
  · rw [Oper.semAt_plain F _ _ (by rw [hop]; intro c hc'; cases hc')]
    simp [execOp, hop, resolve, invoke, builtin, hs, hx, hrun, Result.andThen]
    exact hK' _ _ (hK g cap w' r1 r2 r3 r4)
/-- What lies in memory while an iterator's rows are collected: b is the box of the slice, q the slice's own block. -/
structure Coll (w : World) (b : Nat) (pre : List RD) (q : Nat) (A : World) : Prop where
  box : ∃ v, A.cell? ⟨b, 0, none⟩ = some v ∧ A.ownsRow (b + 1) 22 1 v pre.length (pre.map RD.v) ∧ (v = .slice none 0 0 ∧ pre = [] ∧ q = b ∨ ∃ cap, v = .slice (some ⟨q, 0, none⟩) pre.length cap)
  free : A.frozen? ⟨b, 0, none⟩ = false
  rows : ∀ r ∈ pre, BufI A r.g r.xs ∧ r.g ≠ q ∧ b < r.g ∧ r.cap = r.xs.length
  bel : Below b w A
theorem RowI.stays {A C : World} {g : Nat} {xs : List Int} {row : Option Nat} (h : RowI A g xs) (hg : A.grownBy C row) (hr : ∀ r, row = some r → ∃ o : Obj, A.heap[r]? = some o ∧ o.isCells = false) : RowI C g xs :=
  ⟨Nat.lt_of_lt_of_le h.1 hg.size, fun i x hx => cell_kept (h.2 i x hx) hg hr⟩
theorem BufI.stays {A C : World} {g : Nat} {xs : List Int} {row : Option Nat} (h : BufI A g xs) (hg : A.grownBy C row) (hr : ∀ r, row = some r → ∃ o : Obj, A.heap[r]? = some o ∧ o.isCells = false) : BufI C g xs :=
  ⟨Nat.lt_of_lt_of_le h.1 hg.size, fun i hi => ⟨cell_kept (h.2 i hi).1 hg hr, (frozen_kept (h.2 i hi).1 hg hr).trans (h.2 i hi).2⟩⟩
theorem own_stays {A C : World} {base n size : Nat} {e : TypeId} {v : Value} {xs : List Value} {row : Option Nat} (h : A.ownsRow base e size v n xs) (hg : A.grownBy C row) (hr : ∀ r, row = some r → ∃ o : Obj, A.heap[r]? = some o ∧ o.isCells = false) : C.ownsRow base e size v n xs := by
  refine h.kept hg ?_
  rcases h.2 with ⟨rfl, _⟩ | ⟨g, cap, cur, rfl, _, hb, _⟩
  · exact .inl rfl
  · refine .inr fun e => ?_
    obtain ⟨o, h1, h2⟩ := hr g e.symm
    rw [hb] at h1
    rw [← Option.some.inj h1] at h2
    cases h2
theorem Coll.stays {w : World} {b : Nat} {pre : List RD} {q : Nat} {A C : World} {row : Option Nat} (h : Coll w b pre q A) (hg : A.grownBy C row) (hr : ∀ r, row = some r → b ≤ r ∧ ∃ o : Obj, A.heap[r]? = some o ∧ o.isCells = false) (hb : b ≤ A.heap.size) : Coll w b pre q C where
  box := by
    obtain ⟨v, h1, h2, h3⟩ := h.box
    exact ⟨v, cell_kept h1 hg (fun r e => (hr r e).2), own_stays h2 hg (fun r e => (hr r e).2), h3⟩
  free := by
    obtain ⟨v, h1, _⟩ := h.box
    exact (frozen_kept h1 hg (fun r e => (hr r e).2)).trans h.free
  rows := fun r hrr => by
    obtain ⟨h1, h2⟩ := h.rows r hrr
    exact ⟨h1.stays hg (fun r e => (hr r e).2), h2⟩
  bel := h.bel.grown hg hb (fun k e => (hr k e).1)
/-- The lists that have been collected: a slice of the call's own, the rows in blocks of their own. -/
def Collected (w : World) (Ks : List (List Int)) (e : Ending) (w' : World) : Prop :=
  ∃ (rs : List RD) (G k cap : Nat), rs.map RD.xs = Ks ∧ rs.length = k ∧ e = .returned (.slice (some ⟨G, 0, none⟩) k cap) ∧ w'.ownsRow w.heap.size 22 1 (.slice (some ⟨G, 0, none⟩) k cap) k (rs.map RD.v) ∧
    (∀ r ∈ rs, BufI w' r.g r.xs ∧ r.g ≠ G ∧ w.heap.size ≤ r.g ∧ r.cap = r.xs.length) ∧ Below w.heap.size w w'
theorem ownsRow_base {w : World} {b b' n size : Nat} {e : TypeId} {v : Value} {xs : List Value} (h : w.ownsRow b e size v n xs) (hb : b' ≤ b) : w.ownsRow b' e size v n xs := by
  refine ⟨h.1, ?_⟩
  rcases h.2 with h1 | ⟨g, cap, cur, h1, h2, h3⟩
  · exact .inl h1
  · exact .inr ⟨g, cap, cur, h1, Nat.le_trans hb h2, h3⟩
set_option maxRecDepth 100000 in
set_option maxHeartbeats 4000000 in
theorem appendSeq (gf : Nat) (lb : Array Value) (Ks : List (List Int)) (keep : Nat → Prop) (w : World) (eg : ∀ args w, (callFunc gf args).run Try.prog w = .ok (.enter gf args) w) (hseq : SeqStk Try.prog gf lb Ks keep w) (hkeep : ∀ k, keep k → k < w.heap.size) (hlen : Ks.length ≤ 1000) (hne : Ks ≠ []) :
    Calls Try.prog 73 #[.slice none 0 0, .func (.func gf) #[] lb] w (Collected w Ks) := by
  obtain ⟨j0, hi0, hz0, hz1, hz2⟩ := info_parts infoRow
  have HJ := Lib.hid hi0; have HY0 := Lib.hid hz0; have HY1 := Lib.hid hz1; have HY2 := Lib.hid hz2
  clear hi0 hz0 hz1 hz2
  refine (callsIn_wide (n := 0)).1 ?_
  refine callsIn_of_wp_marks Try.func73 rfl trivial ?_ rfl
  simp only [Try.ntmps73, List.size_toArray, List.length_cons, List.length_nil, Nat.reduceAdd, Nat.reduceSub, Array.replicate_succ, Array.replicate_zero, List.push_toArray, List.append_toArray, List.nil_append, List.cons_append]
  gi_wp2
  obtain ⟨V, hV⟩ : ∃ V, V = w.alloc (.cells #[.slice none 0 0] 43) := ⟨_, rfl⟩
  have hVz : V.heap.size = w.heap.size + 1 := by rw [hV]; simp
  have hVb : Below w.heap.size w V := by rw [hV]; exact (Below.refl _ w).alloc (Nat.le_refl _) _
  have hVc : V.cell? ⟨w.heap.size, 0, none⟩ = some (.slice none 0 0) := by rw [hV]; exact World.cell?_alloc_mark w #[.slice none 0 0] 43 (0, 0) 0
  have hVf : V.frozen? ⟨w.heap.size, 0, none⟩ = false := by rw [hV]; exact World.frozen?_alloc_mark w #[.slice none 0 0] 43 0 0 0
  rw [← hV]
  clear hV
  refine range_stk (gf := gf) (lb := lb) rfl eg hseq hVb rfl w.heap.size (by omega) (fun h => by have := hkeep _ h; omega)
    (fun pre q A => Coll w w.heap.size pre q A ∧ V.heap.size ≤ A.heap.size)
    (fun pre q A C row ⟨h1, h2⟩ hg hr => ⟨h1.stays hg (fun r e => ⟨by have := (hr r e).1; omega, (hr r e).2⟩) (by omega), Nat.le_trans h2 hg.size⟩)
    ⟨⟨⟨_, hVc, World.ownsRow_nil _ _ _ _, .inl ⟨rfl, rfl, rfl⟩⟩, hVf, fun r hr => (by cases hr), hVb⟩, Nat.le_refl _⟩
    (fun x => { tmps := #[.slice none 0 0, .func (.func gf) #[] lb, .pointer (some ⟨w.heap.size, 0, none⟩), undef, .slice none 0 0, x.v, .func (.func gf) #[] lb, x.v, undef, undef, undef, undef, undef], defers := [] }) ?assign ?body ?done
  case assign =>
    intro l' x A K hK
    gi_wp2
    first | exact hK | simpa using hK
  case body =>
    rintro l' pre q x A ⟨⟨⟨v, hc, hown, hv⟩, hf, hrows, hbel⟩, hVA⟩ hpre hx hcap hrow hxg hxq hqA _
    have hlt : pre.length < Ks.length := (List.getElem?_eq_some_iff.1 hx).1
    have HR := Lib.hid hrows
    have HX := Lib.hid hrow
    have HV := Lib.hid hv
    have hxg' : w.heap.size < x.g := by omega
    have HXQ := Lib.hid hxq
    have HCP := Lib.hid hcap
    clear hrows hrow hv hx hpre hxq hcap
    have hxv : x.v = .slice (some ⟨x.g, 0, none⟩) x.xs.length x.cap := rfl
    rw [hxv]
    clear hxv
    have hcA : ∀ o, (A.alloc o).cell? ⟨w.heap.size, 0, none⟩ = some v := fun o => (World.cell?_of_block (a := ⟨w.heap.size, 0, none⟩) (Below.heap_alloc A o w.heap.size (by omega))).trans hc
    have HBX : Hid (∀ o w6, (A.alloc o).grownBy w6 v.ownBlock → w6.cell? ⟨w.heap.size, 0, none⟩ = some v ∧ w6.frozen? ⟨w.heap.size, 0, none⟩ = false) := by
      show ∀ _ _, _
      intro o w6 hg
      have hb := hg.block w.heap.size (by simp; omega) (fun e => by have := (hown.lt _ e.symm).1; omega)
      have hb2 := hb.trans (Below.heap_alloc A o w.heap.size (by omega))
      exact ⟨(World.cell?_of_block (a := ⟨w.heap.size, 0, none⟩) hb2).trans hc, (World.frozen?_of_block (a := ⟨w.heap.size, 0, none⟩) hb2).trans hf⟩
    gi_wp2_with (gi_at_builtin; refine wpListIn_append_lies _ rfl _ _ 43 rfl (w.heap.size + 1) 22 j0 (.slice none 0 0) 1 24 Try.underlying43 HJ.out HY0.out HY1.out HY2.out rfl (by decide) v pre.length _ rfl (hown.alloc _) ⟨A.heap.size, 0, none⟩ 1 1 [.slice (some ⟨x.g, 0, none⟩) x.xs.length x.cap] rfl rfl (cell_one_new _ _ _) (by simp [Value.oneCell']) (by omega) (by unfold maxLen; omega) (by omega) (by simp; omega) ?_; intro g6 cap6 w6 hown6 hgr6 hat6 hlt6; obtain ⟨cb6, cf6⟩ := HBX.out _ _ hgr6)
    have hv := HV.out
    have hb0 : w.heap.size + 1 ≤ g6 := (hown6.lt g6 rfl).1
    have hg6 : (v.ownBlock = none ∨ v.ownBlock = some q) ∧ (g6 = q ∨ A.heap.size ≤ g6) := by
      rw [World.size_alloc] at hat6
      rcases hv with ⟨rfl, _, _⟩ | ⟨cap, rfl⟩
      · refine ⟨.inl rfl, ?_⟩
        rcases hat6 with h | h
        · cases h
        · exact .inr (by omega)
      · refine ⟨.inr rfl, ?_⟩
        rcases hat6 with h | h
        · exact .inl (Option.some.inj h).symm
        · exact .inr (by omega)
    have hk : ∀ k, k < A.heap.size → k ≠ q → w6.heap[k]? = A.heap[k]? := fun k h1 h2 => (hgr6.block k (by simp; omega) (fun e => by
      rcases hg6.1 with h | h
      · rw [h] at e; cases e
      · rw [h] at e; exact h2 (Option.some.inj e))).trans (Below.heap_alloc A _ k h1)
    have hz6 : A.heap.size + 1 ≤ w6.heap.size := by have := hgr6.size; simpa using this
    have hs6 : ∀ (k : Nat) (u : Value), k ≠ w.heap.size → (w6.setCell ⟨w.heap.size, 0, none⟩ u).heap[k]? = w6.heap[k]? := fun k u h => Below.heap_setCell w6 ⟨w.heap.size, 0, none⟩ u k h
    refine ⟨g6, ⟨⟨⟨_, World.cell?_setCell_same _ _ _ cb6, ?_, .inr ⟨cap6, ?_⟩⟩, by rw [World.frozen?_setCell]; exact cf6, ?_, ?_⟩, ?_⟩, hg6.2, ?_, ?_, ?_⟩
    · rw [List.map_append, List.length_append]
      exact ownsRow_of_blk hown6 (hs6 g6 _ (by omega))
    · rw [List.length_append]; rfl
    · intro r hr
      rcases List.mem_append.1 hr with hr | hr
      · obtain ⟨h1, h2, h3, h4⟩ := HR.out r hr
        have h5 := h1.1
        exact ⟨h1.keep ((hs6 r.g _ (by omega)).trans (hk r.g h5 h2)), by have := hg6.2; omega, h3, h4⟩
      · rw [List.mem_singleton] at hr
        subst hr
        have h5 := HX.out.1
        exact ⟨HX.out.keep ((hs6 r.g _ (by omega)).trans (hk r.g h5 HXQ.out)), by have := hg6.2; have := HXQ.out; omega, hxg', HCP.out⟩
    · have h1 : Below w.heap.size w w6 := (hbel.alloc (by omega) _).grown hgr6 (by simp; omega) (fun k e => by have := (hown.lt _ e).1; omega)
      exact h1.setCell (p := ⟨w.heap.size, 0, none⟩) (Nat.le_refl _) _
    · have : (w6.setCell ⟨w.heap.size, 0, none⟩ (.slice (some ⟨g6, 0, none⟩) (pre.length + 1) cap6)).heap.size = w6.heap.size := by simp [World.setCell]
      omega
    · have : (w6.setCell ⟨w.heap.size, 0, none⟩ (.slice (some ⟨g6, 0, none⟩) (pre.length + 1) cap6)).heap.size = w6.heap.size := by simp [World.setCell]
      omega
    · have : (w6.setCell ⟨w.heap.size, 0, none⟩ (.slice (some ⟨g6, 0, none⟩) (pre.length + 1) cap6)).heap.size = w6.heap.size := by simp [World.setCell]
      omega
    · intro k hS h1 h2
      refine (hs6 k _ ?_).trans (hk k h1 h2)
      rcases hS with hS | hS
      · omega
      · have := hkeep k hS
        omega
  case done =>
    rintro D q rs A hD hrs ⟨⟨⟨v, hc, hown, hv⟩, hf, hrows, hbel⟩, hVA⟩ hK
    have hrn : rs ≠ [] := by
      intro e
      rw [e] at hrs
      exact hne hrs.symm
    have hlen : rs.length = Ks.length := by rw [← hrs, List.length_map]
    obtain ⟨cap, rfl⟩ : ∃ cap, v = .slice (some ⟨q, 0, none⟩) rs.length cap := by
      rcases hv with ⟨_, h, _⟩ | h
      · exact absurd h hrn
      · exact h
    obtain ⟨N, hN⟩ : ∃ N, N = rs.length := ⟨_, rfl⟩
    rw [← hN] at hc hown
    have hqA := (hown.lt q rfl).2
    have HO := Lib.hid hown
    have HR := Lib.hid hrows
    have HB := Lib.hid hbel
    have HN := Lib.hid hN
    clear hown hrows hbel hv hf hN hlen
    gi_wp2
    refine ⟨by simp, .inl ⟨_, _, rfl, run_takeDeferred hK, ?_⟩⟩
    refine ⟨_, results_tmp rfl _ _ _, rs, q, N, cap, hrs, HN.out.symm, rfl, ?_, ?_, putObj_below HB.out (by omega) HB.out.size⟩
    · exact ownsRow_base (own_stays HO.out (grownBy_putObj' A D (.deferred none)) (fun r e => by cases e; exact ⟨_, hK, rfl⟩)) (by omega)
    · intro r hr
      obtain ⟨h1, h2, h3, h4⟩ := HR.out r hr
      exact ⟨h1.stays (grownBy_putObj' A D (.deferred none)) (fun r e => by cases e; exact ⟨_, hK, rfl⟩), h2, by omega, h4⟩
end Go.Proofs.Ytadpbbjahckoaaa
