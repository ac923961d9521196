/- The walks of the program's StampRank, and of the reference's l3Before and StampRank. Conditions: each theorem's own premises. -/
import Derived.Test.YtadpbbjahckoaaaSortC
namespace Go.Proofs.Ytadpbbjahckoaaa
set_option maxRecDepth 100000
open Go.RowKit
attribute [local go_sem] Oper.semAt_some
theorem below_stepR {a b c : World} (h : Below a.heap.size a b) (k : Below b.heap.size b c) : Below a.heap.size a c := h.trans (k.mono h.size)
/-- How many of these lists come ahead of l. -/
def aheadN (l : List Int) (xss : List (List Int)) : Nat := (xss.filter fun s => decide (cmpL s l < 0)).length
theorem aheadN_snoc (l s : List Int) (xss : List (List Int)) : aheadN l (xss ++ [s]) = aheadN l xss + if cmpL s l < 0 then 1 else 0 := by
  unfold aheadN
  rw [List.filter_append, List.length_append, List.filter_cons, List.filter_nil]
  by_cases h : cmpL s l < 0
  · rw [if_pos (decide_eq_true h), if_pos h]; rfl
  · rw [if_neg (by rw [decide_eq_true_eq]; exact h), if_neg h]; rfl
theorem aheadN_le (l : List Int) (xss : List (List Int)) : aheadN l xss ≤ xss.length := List.length_filter_le _ _
def rankN (l : List Int) : Nat := aheadN l (stacksS l.length)
def rankI (l : List Int) : Int := if possL l = true then (rankN l : Int) else -1
theorem aheadN_perm {l : List Int} {a b : List (List Int)} (h : a.Perm b) : aheadN l a = aheadN l b := (h.filter _).length_eq
set_option maxRecDepth 100000 in
set_option maxHeartbeats 4000000 in
theorem implStampRank (gl n c : Nat) (l : List Int) (w : World) (hn : l.length = n) (hn2 : n ≤ 1000) (hr : RowI w gl l) :
    Calls Try.prog 15 #[.slice (some ⟨gl, 0, none⟩) n c] w fun e w' => e = .returned (.int .i64 (rankI l)) ∧ Below w.heap.size w w' := by
  have hgl := hr.1
  have C1 := fun w (h : RowI w gl l) => implStampPossible gl n c l w hn hn2 h
  have hbv : (w.alloc (.cells #[.slice (some ⟨gl, 0, none⟩) n c] 22)).cell? ⟨w.heap.size, 0, none⟩ = some (.slice (some ⟨gl, 0, none⟩) n c) := World.cell?_alloc_mark w #[.slice (some ⟨gl, 0, none⟩) n c] 22 (0, 0) 0
  have HRA := Lib.hid (hr.below ((Below.refl _ w).alloc (Nat.le_refl _) (.cells #[.slice (some ⟨gl, 0, none⟩) n c] 22)) hgl)
  have HBA := Lib.hid ((Below.refl w.heap.size w).alloc (Nat.le_refl _) (.cells #[.slice (some ⟨gl, 0, none⟩) n c] 22))
  have hAz : (w.alloc (.cells #[.slice (some ⟨gl, 0, none⟩) n c] 22)).heap.size = w.heap.size + 1 := by simp
  obtain ⟨A0, hA0⟩ : ∃ A, A = w.alloc (.cells #[.slice (some ⟨gl, 0, none⟩) n c] 22) := ⟨_, rfl⟩
  have HBV := Lib.hid hbv
  rw [← hA0] at HBV HRA HBA hAz
  have hHid := Lib.hid hA0
  refine (callsIn_wide (n := 0)).1 ?_
  refine callsIn_of_wp_marks Try.func15 rfl trivial ?_ rfl
  simp only [Try.ntmps15, List.size_toArray, List.length_cons, List.length_nil, Nat.reduceAdd, Nat.reduceSub, Array.replicate_succ, Array.replicate_zero, List.push_toArray, List.append_toArray, List.nil_append, List.cons_append]
  cases hok : possL l with
  | false =>
    have HR : Hid (rankI l = -1) := by show _ = _; unfold rankI; rw [if_neg (by rw [hok]; decide)]
    rw [hok] at C1
    have HC1 := Lib.hid C1
    clear C1 hok hn hr hbv hA0
    gi_wp2
    rw [← hHid.out]
    refine ⟨trivial, rfl, (callsIn_wide.2 (HC1.out A0 HRA.out)).mono ?_⟩
    rintro e w1 ⟨rfl, hb1⟩
    have HB1 := Lib.hid (HBA.out.trans (hb1.mono HBA.out.size))
    clear hb1
    gi_wp2
    exact ⟨_, results_tmp rfl _ _ _, (by show Ending.returned (.int .i64 (-1)) = _; exact ret_int HR.out.symm), HB1.out⟩
  | true =>
    obtain ⟨hrg, _⟩ := (poss_iff l).1 hok
    unfold rangeN at hrg
    rw [decide_eq_true_eq, hn] at hrg
    obtain ⟨h1, h7⟩ := hrg
    have HR : Hid (rankI l = (aheadN l (stacksL n) : Int)) := by
      show _ = _
      unfold rankI rankN
      rw [if_pos hok, hn, aheadN_perm (perms h1)]
    rw [hok] at C1
    have HC1 := Lib.hid C1
    have HN := Lib.hid hn
    have hlen := stacksL_many h7
    have HSL := Lib.hid (stacksL_length n h1)
    clear C1 hok hn hr hbv hA0
    gi_wp2
    rw [← hHid.out]
    refine ⟨trivial, rfl, (callsIn_wide.2 (HC1.out A0 HRA.out)).mono ?_⟩
    rintro e w2 ⟨rfl, hb2⟩
    have hB2 : Below w.heap.size w w2 := HBA.out.trans (hb2.mono HBA.out.size)
    have hz2 : w.heap.size + 1 ≤ w2.heap.size := by have := hb2.size; omega
    have hc2 : w2.cell? ⟨w.heap.size, 0, none⟩ = some (.slice (some ⟨gl, 0, none⟩) n c) := (hb2.cell (p := ⟨w.heap.size, 0, none⟩) (by show w.heap.size < _; omega)).trans HBV.out
    have hr2 : RowI w2 gl l := HRA.out.below hb2 (by omega)
    have hc2a : ∀ o, (w2.alloc o).cell? ⟨w.heap.size, 0, none⟩ = some (.slice (some ⟨gl, 0, none⟩) n c) := fun o => (World.cell?_of_block (a := ⟨w.heap.size, 0, none⟩) (Below.heap_alloc w2 o w.heap.size (by omega))).trans hc2
    clear hb2
    gi_wp2
    refine ⟨trivial, rfl, (callsIn_wide.2 (stacksOf n _)).mono ?_⟩
    rintro e w3 ⟨rfl, rfl⟩
    gi_wp2
    obtain ⟨V, hV⟩ : ∃ V, V = (w2.alloc (.cells #[.int .i64 0] 3)).alloc (.cells #[.int .i64 n] 3) := ⟨_, rfl⟩
    have hVz : V.heap.size = w2.heap.size + 2 := by rw [hV]; simp
    have hVb : Below w2.heap.size w2 V := by rw [hV]; exact ((Below.refl _ w2).alloc (Nat.le_refl _) _).alloc (by simp) _
    have hVn : V.cell? ⟨w2.heap.size + 1, 0, none⟩ = some (.int .i64 n) := by
      rw [hV]
      have := World.cell?_alloc_mark (w2.alloc (.cells #[.int .i64 0] 3)) #[.int .i64 n] 3 (0, 0) 0
      rwa [World.size_alloc] at this
    have hVc : V.cell? ⟨w2.heap.size, 0, none⟩ = some (.int .i64 0) ∧ V.frozen? ⟨w2.heap.size, 0, none⟩ = false := by
      rw [hV]
      exact ⟨(World.cell?_of_block (a := ⟨w2.heap.size, 0, none⟩) (Below.heap_alloc _ _ _ (by simp))).trans (World.cell?_alloc_mark w2 #[.int .i64 0] 3 (0, 0) 0), (World.frozen?_of_block (a := ⟨w2.heap.size, 0, none⟩) (Below.heap_alloc _ _ _ (by simp))).trans (World.frozen?_alloc_mark w2 #[.int .i64 0] 3 0 0 0)⟩
    have hVl := (hVb.cell (p := ⟨w.heap.size, 0, none⟩) (by show w.heap.size < _; omega)).trans hc2
    have hVr : RowI V gl l := hr2.below hVb (by omega)
    have hVw : Below w.heap.size w V := hB2.trans (hVb.mono (by omega))
    have HST := Lib.hid (stacksOf_seq n h7 V (w2.heap.size + 1) hVn)
    rw [← hV]
    clear hVn hV hVb hc2a hc2
    refine range_stk (gf := 55) (lb := #[.pointer (some ⟨w2.heap.size + 1, 0, none⟩)]) rfl (enters_of Try.func55 (by kernel_rfl) rfl) HST.out (Below.refl _ _) rfl w2.heap.size (by omega) (by omega)
      (fun pre q A => q = w2.heap.size ∧ pre.length ≤ (stacksL n).length ∧ A.cell? ⟨w2.heap.size, 0, none⟩ = some (.int .i64 (aheadN l (pre.map RD.xs))) ∧ A.frozen? ⟨w2.heap.size, 0, none⟩ = false ∧ A.cell? ⟨w.heap.size, 0, none⟩ = some (.slice (some ⟨gl, 0, none⟩) n c) ∧ RowI A gl l ∧ Below w.heap.size w A)
      (fun pre q A C row ⟨a1, a2, a3, a4, a5, a6, a7⟩ hg hr => ⟨a1, a2, cell_kept a3 hg (fun r e => (hr r e).2), (frozen_kept a3 hg (fun r e => (hr r e).2)).trans a4, cell_kept a5 hg (fun r e => (hr r e).2), a6.stays hg (fun r e => (hr r e).2), a7.grown hg a7.size (fun r e => by have := (hr r e).1; omega)⟩)
      ⟨rfl, Nat.zero_le _, hVc.1, hVc.2, hVl, hVr, hVw⟩
      (fun x => { tmps := #[.slice (some ⟨gl, 0, none⟩) n c, .pointer (some ⟨w.heap.size, 0, none⟩), .int .i64 0, .pointer (some ⟨w2.heap.size, 0, none⟩), x.v, .slice (some ⟨gl, 0, none⟩) n c, .bool true, .bool false, .slice (some ⟨gl, 0, none⟩) n c, .int .i64 n, .func (.func 55) #[] #[.pointer (some ⟨w2.heap.size + 1, 0, none⟩)], x.v, undef, undef, undef, undef, undef, undef, undef], defers := [] }) ?assign ?body ?done
    case assign =>
      intro l' x A K hK
      gi_wp2
      first | exact hK | simpa using hK
    case body =>
      rintro l' pre q x A ⟨rfl, a2, a3, a4, a5, a6, a7⟩ hpre hx hcap hrow hxg hxq hqA hVA
      have hlt : pre.length < (stacksL n).length := (List.getElem?_eq_some_iff.1 hx).1
      have hxl : x.xs.length = n := HSL.out x.xs (List.mem_of_getElem? hx)
      have hxv : x.v = .slice (some ⟨x.g, 0, none⟩) n x.cap := by show Value.slice _ _ _ = _; rw [hxl]
      rw [hxv]
      have HSC := Lib.hid (slicesCompare x.g gl n n x.cap c x.xs l A hxl HN.out (by omega) hrow.row a6)
      have HSN := Lib.hid (aheadN_snoc l x.xs (pre.map RD.xs))
      have hab : aheadN l (pre.map RD.xs) ≤ 462 := by have := aheadN_le l (pre.map RD.xs); rw [List.length_map] at this; omega
      have HM : Hid ((pre ++ [x]).map RD.xs = pre.map RD.xs ++ [x.xs]) := Lib.hid (by rw [List.map_append]; rfl)
      have hpl : (pre ++ [x]).length = pre.length + 1 := by rw [List.length_append]; rfl
      obtain ⟨N, hNN⟩ : ∃ N, N = aheadN l (pre.map RD.xs) := ⟨_, rfl⟩
      rw [← hNN] at HSN hab a3
      have HNN := Lib.hid hNN
      have HA6 := Lib.hid a6
      have HA7 := Lib.hid a7
      have hw : IntKind.i64.wrap ((N : Int) + 1) = (N : Int) + 1 := by rw [IntKind.wrap_i64]; omega
      clear hpre hx hcap hrow hxv hNN a6 a7
      gi_wp2
      refine ⟨trivial, rfl, ((callsIn_wide.2 HSC.out).inRound l').mono ?_⟩
      rintro e w4 ⟨rfl, rfl⟩
      by_cases hcm : cmpL x.xs l < 0
      · have HSN2 : Hid (aheadN l ((pre ++ [x]).map RD.xs) = N + 1) := by show _ = _; rw [HM.out, HSN.out, if_pos hcm]
        gi_wp2
        refine ⟨w2.heap.size, ⟨rfl, by omega, ?_, ?_, ?_, ?_, HA7.out.setCell (p := ⟨w2.heap.size, 0, none⟩) (by show w.heap.size ≤ w2.heap.size; omega) _⟩, .inl rfl, by simpa [World.setCell] using hqA, by simp [World.setCell], fun k _ _ hk => Below.heap_setCell _ _ _ k hk⟩
        · rw [HSN2.out]
          refine (World.cell?_setCell_same _ _ _ a3).trans ?_
          congr 2
        · rw [World.frozen?_setCell]
          exact a4
        · exact (World.cell?_setCell_other _ _ _ _ (by intro e; injection e; omega)).trans a5
        · exact HA6.out.keep (Below.heap_setCell _ _ _ gl (by show gl ≠ w2.heap.size; omega))
      · have HSN2 : Hid (aheadN l ((pre ++ [x]).map RD.xs) = N) := by show _ = _; rw [HM.out, HSN.out, if_neg hcm]; rfl
        have hcm2 : 0 ≤ cmpL x.xs l := by omega
        gi_wp2
        exact ⟨w2.heap.size, ⟨rfl, by omega, by rw [HSN2.out]; exact a3, a4, a5, HA6.out, HA7.out⟩, .inl rfl, hqA, KeptBut.refl _ _ _⟩
    case done =>
      rintro D q rs A hD hrs ⟨_, _, a3, _, _, _, a7⟩ hK
      rw [hrs] at a3
      gi_wp2
      refine ⟨by simp, .inl ⟨_, _, rfl, run_takeDeferred hK, ?_⟩⟩
      exact ⟨_, results_tmp rfl _ _ _, (by show Ending.returned (.int .i64 (aheadN l (stacksL n) : Int)) = _; exact ret_int HR.out.symm), putObj_below a7 (by omega) a7.size⟩
end Go.Proofs.Ytadpbbjahckoaaa
