/- The walk of the program's StampClasses. Conditions: each theorem's own premises. -/
import Derived.Test.YtadpbbjahckoaaaClassB
import Derived.Test.YtadpbbjahckoaaaRankA
namespace Go.Proofs.Ytadpbbjahckoaaa
set_option maxRecDepth 100000
open Go.RowKit
attribute [local go_sem] Oper.semAt_some
theorem class_factsL {n : Nat} (h1 : 1 ≤ n) {l : List Int} (h : l ∈ stacksL n) : ClassFacts n l := class_facts ((perms h1).mem_iff.1 h)
theorem okC_le (x : List Int) : okC x = (decide (cmpL x x.reverse ≤ 0) && decide (cmpL x (backL x) ≤ 0) && decide (cmpL x (backL x).reverse ≤ 0)) := by
  unfold okC
  rw [le_not, le_not, le_not]
set_option maxRecDepth 100000 in
set_option maxHeartbeats 8000000 in
theorem implStampClasses (n : Int) (w : World) : Calls Try.prog 22 #[.int .i64 n] w fun e w' => e = .returned (.int .i64 (classI n)) ∧ Below w.heap.size w w' := by
  have C1 := fun w => stampsInRangeI n w
  refine (callsIn_wide (n := 0)).1 ?_
  refine callsIn_of_wp_marks Try.func22 rfl trivial ?_ rfl
  simp only [Try.ntmps22, List.size_toArray, List.length_cons, List.length_nil, Nat.reduceAdd, Nat.reduceSub, Array.replicate_succ, Array.replicate_zero, List.push_toArray, List.append_toArray, List.nil_append, List.cons_append]
  cases hi : inI n with
  | false =>
    have HR : Hid (classI n = -1) := by show _ = _; unfold classI; rw [if_neg (by rw [hi]; decide)]
    rw [hi] at C1
    have HC1 := Lib.hid C1
    clear C1 hi
    gi_wp2
    refine ⟨trivial, rfl, (callsIn_wide.2 (HC1.out _)).mono ?_⟩
    rintro e w1 ⟨rfl, rfl⟩
    gi_wp2
    exact ⟨_, results_tmp rfl _ _ _, (by show Ending.returned (.int .i64 (-1)) = _; exact ret_int HR.out.symm), Below.refl _ _⟩
  | true =>
    obtain ⟨n, rfl, h1, h7⟩ := inI_nat hi
    have HR : Hid (classI n = (manyC (stacksL n) : Int)) := by
      show _ = _
      unfold classI
      rw [if_pos hi, manyC_perm (perms h1)]
      rfl
    rw [hi] at C1
    have HC1 := Lib.hid C1
    have hlen := stacksL_many h7
    have HCF := Lib.hid (fun l (h : l ∈ stacksL n) => class_factsL h1 h)
    clear C1 hi
    gi_wp2
    refine ⟨trivial, rfl, (callsIn_wide.2 (HC1.out _)).mono ?_⟩
    rintro e w1 ⟨rfl, rfl⟩
    gi_wp2
    refine ⟨trivial, rfl, (callsIn_wide.2 (stacksOf n _)).mono ?_⟩
    rintro e w3 ⟨rfl, rfl⟩
    gi_wp2
    obtain ⟨V, hV⟩ : ∃ V, V = (w.alloc (.cells #[.int .i64 0] 3)).alloc (.cells #[.int .i64 n] 3) := ⟨_, rfl⟩
    have hVz : V.heap.size = w.heap.size + 2 := by rw [hV]; simp
    have hVb : Below w.heap.size w V := by rw [hV]; exact ((Below.refl _ w).alloc (Nat.le_refl _) _).alloc (by simp) _
    have hVn : V.cell? ⟨w.heap.size + 1, 0, none⟩ = some (.int .i64 n) := by
      rw [hV]
      have := World.cell?_alloc_mark (w.alloc (.cells #[.int .i64 0] 3)) #[.int .i64 n] 3 (0, 0) 0
      rwa [World.size_alloc] at this
    have hVc : V.cell? ⟨w.heap.size, 0, none⟩ = some (.int .i64 0) ∧ V.frozen? ⟨w.heap.size, 0, none⟩ = false := by
      rw [hV]
      exact ⟨(World.cell?_of_block (a := ⟨w.heap.size, 0, none⟩) (Below.heap_alloc _ _ _ (by simp))).trans (World.cell?_alloc_mark w #[.int .i64 0] 3 (0, 0) 0), (World.frozen?_of_block (a := ⟨w.heap.size, 0, none⟩) (Below.heap_alloc _ _ _ (by simp))).trans (World.frozen?_alloc_mark w #[.int .i64 0] 3 0 0 0)⟩
    have HST := Lib.hid (stacksOf_seq n h7 V (w.heap.size + 1) hVn)
    have hVs : w.heap.size + 2 ≤ V.heap.size := by omega
    rw [← hV]
    clear hVn hV hVz
    refine range_stk (gf := 55) (lb := #[.pointer (some ⟨w.heap.size + 1, 0, none⟩)]) rfl (enters_of Try.func55 (by kernel_rfl) rfl) HST.out (Below.refl _ _) rfl w.heap.size (by omega) (by omega)
      (fun pre q A => w.heap.size = q ∧ pre.length ≤ (stacksL n).length ∧ A.cell? ⟨w.heap.size, 0, none⟩ = some (.int .i64 (manyC (pre.map RD.xs))) ∧ A.frozen? ⟨w.heap.size, 0, none⟩ = false ∧ Below w.heap.size w A)
      (fun pre q A C row ⟨a1, a2, a3, a4, a7⟩ hg hr => ⟨a1, a2, cell_kept a3 hg (fun r e => (hr r e).2), (frozen_kept a3 hg (fun r e => (hr r e).2)).trans a4, a7.grown hg a7.size (fun r e => by have := (hr r e).1; omega)⟩)
      ⟨rfl, Nat.zero_le _, hVc.1, hVc.2, hVb⟩
      (fun x => { tmps := #[.int .i64 n, undef, .int .i64 0, .pointer (some ⟨w.heap.size, 0, none⟩), x.v, undef, undef, undef, undef, undef, undef, .int .i64 n, .bool true, .bool false, .int .i64 n, .func (.func 55) #[] #[.pointer (some ⟨w.heap.size + 1, 0, none⟩)], x.v, undef, undef, undef, undef, undef, undef, undef, undef, undef, undef, undef, undef, undef, undef, undef, undef, undef, undef, undef, undef, undef, undef, undef, undef, undef, undef, undef, undef, undef, undef, undef, undef, undef, undef], defers := [] }) ?assign ?body ?done
    case assign =>
      intro l' x A K hK
      gi_wp2
      first | exact hK | simpa using hK
    case body =>
      rintro l' pre q x A ⟨rfl, a2, a3, a4, a7⟩ hpre hx hcap hrow hxg hxq hqA hVA
      have hlt : pre.length < (stacksL n).length := (List.getElem?_eq_some_iff.1 hx).1
      have hcf := HCF.out x.xs (List.mem_of_getElem? hx)
      have hxv : x.v = .slice (some ⟨x.g, 0, none⟩) n x.cap := by show Value.slice _ _ _ = _; rw [hcf.len]
      rw [hxv]
      have HF := Lib.hid hcf
      have HP1 := Lib.hid (fun (g c : Nat) (W : World) (h : RowI W g x.xs) => implStampOver g n c x.xs W hcf.len (by omega) h)
      have HP2 := Lib.hid (fun (g c : Nat) (W : World) (h : RowI W g x.xs) => implStampBack g n c x.xs W hcf.len (by omega) h)
      have HP3 := Lib.hid (fun (g c : Nat) (W : World) (h : RowI W g x.xs.reverse) => implStampBack g n c x.xs.reverse W hcf.rlen (by omega) h)
      have hP1 := HP1.out; have hP2 := HP2.out; have hP3 := HP3.out
      simp only [hcf.poss, hcf.rposs, if_true, back_reverse] at hP1 hP2 hP3
      have HQ1 := Lib.hid hP1
      have HQ2 := Lib.hid hP2
      have HQ3 := Lib.hid hP3
      have HSN := Lib.hid (manyC_snoc (pre.map RD.xs) x.xs)
      have hab : manyC (pre.map RD.xs) ≤ 462 := by have := manyC_le (pre.map RD.xs); rw [List.length_map] at this; omega
      have HM : Hid ((pre ++ [x]).map RD.xs = pre.map RD.xs ++ [x.xs]) := Lib.hid (by rw [List.map_append]; rfl)
      have hpl : (pre ++ [x]).length = pre.length + 1 := by rw [List.length_append]; rfl
      obtain ⟨N, hNN⟩ : ∃ N, N = manyC (pre.map RD.xs) := ⟨_, rfl⟩
      rw [← hNN] at HSN hab a3
      have HNN := Lib.hid hNN
      have HA7 := Lib.hid a7
      have HA3 := Lib.hid a3
      have HA4 := Lib.hid a4
      have HROW := Lib.hid hrow.row
      have hw : IntKind.i64.wrap ((N : Int) + 1) = (N : Int) + 1 := by rw [IntKind.wrap_i64]; omega
      have HOK := Lib.hid (okC_le x.xs)
      have hxA := hrow.row.1
      clear hpre hx hcap hrow hxv hNN a7 hP1 hP2 hP3 HP1 HP2 HP3 hcf a3 a4
      gi_wp2
      refine ⟨trivial, rfl, ((callsIn_wide.2 (HQ1.out x.g x.cap A HROW.out)).inRound l').mono ?_⟩
      rintro e w4 ⟨hb4, g4, n4, c4, hn4, rfl, hg4, hr4⟩
      obtain rfl : n4 = n := by rw [← hn4]; exact HF.out.rlen
      have HB4 := Lib.hid hb4
      have HR4 := Lib.hid (HROW.out.below hb4 HROW.out.1)
      have HX4 := Lib.hid hr4
      clear hb4 hn4 hr4
      gi_wp2
      refine ⟨trivial, rfl, ((callsIn_wide.2 (HQ2.out x.g x.cap w4 HR4.out)).inRound l').mono ?_⟩
      rintro e w5 ⟨hb5, g5, n5, c5, hn5, rfl, hg5, hr5⟩
      obtain rfl : n5 = n4 := by rw [← hn5]; exact HF.out.blen
      have HB5 : Hid (Below A.heap.size A w5) := Lib.hid (HB4.out.trans (hb5.mono HB4.out.size))
      have HR5 := Lib.hid (HR4.out.below hb5 HR4.out.1)
      have HX5 := Lib.hid (HX4.out.below hb5 HX4.out.1)
      have HY5 := Lib.hid hr5
      clear hb5 hn5 hr5
      gi_wp2
      refine ⟨trivial, rfl, ((callsIn_wide.2 (HQ3.out g4 c4 w5 HX5.out)).inRound l').mono ?_⟩
      rintro e w6 ⟨hb6, g6, n6, c6, hn6, rfl, hg6, hr6⟩
      obtain rfl : n6 = n5 := by rw [← hn6]; exact HF.out.brlen
      have HB6 : Hid (Below A.heap.size A w6) := Lib.hid (HB5.out.trans (hb6.mono HB5.out.size))
      have HR6 := Lib.hid (HR5.out.below hb6 HR5.out.1)
      have HX6 := Lib.hid (HX5.out.below hb6 HX5.out.1)
      have HY6 := Lib.hid (HY5.out.below hb6 HY5.out.1)
      have HZ6 := Lib.hid hr6
      have c3 : w6.cell? ⟨w.heap.size, 0, none⟩ = some (.int .i64 N) := (HB6.out.cell (p := ⟨w.heap.size, 0, none⟩) (by show w.heap.size < _; omega)).trans HA3.out
      have f3 : w6.frozen? ⟨w.heap.size, 0, none⟩ = false := (World.frozen?_of_block (a := ⟨w.heap.size, 0, none⟩) (HB6.out.block w.heap.size hqA)).trans HA4.out
      have HW6 : Hid (Below w.heap.size w w6) := Lib.hid (HA7.out.trans (HB6.out.mono (by omega)))
      have hz6 : A.heap.size ≤ w6.heap.size := HB6.out.size
      have HT1 := Lib.hid (slicesCompare x.g g4 n6 n6 x.cap c4 x.xs x.xs.reverse w6 HF.out.len HF.out.rlen (by omega) HR6.out HX6.out)
      have HT2 := Lib.hid (slicesCompare x.g g5 n6 n6 x.cap c5 x.xs (backL x.xs) w6 HF.out.len HF.out.blen (by omega) HR6.out HY6.out)
      have HT3 := Lib.hid (slicesCompare x.g g6 n6 n6 x.cap c6 x.xs (backL x.xs).reverse w6 HF.out.len HF.out.brlen (by omega) HR6.out HZ6.out)
      clear hb6 hn6 hr6
      have HNO : Hid (okC x.xs = false → ∃ q', (w.heap.size = q' ∧ (pre ++ [x]).length ≤ (stacksL n6).length ∧ w6.cell? ⟨w.heap.size, 0, none⟩ = some (.int .i64 (manyC ((pre ++ [x]).map RD.xs))) ∧ w6.frozen? ⟨w.heap.size, 0, none⟩ = false ∧ Below w.heap.size w w6) ∧ (q' = w.heap.size ∨ A.heap.size ≤ q') ∧ q' < w6.heap.size ∧ KeptBut (fun k => V.heap.size ≤ k ∨ k = w.heap.size + 1) w.heap.size A w6) := by
        show _ → _
        intro ho
        refine ⟨w.heap.size, ⟨rfl, by omega, ?_, f3, HW6.out⟩, .inl rfl, by omega, hz6, fun k _ hk _ => HB6.out.block k hk⟩
        rw [HM.out, HSN.out, if_neg (by rw [ho]; decide)]
        exact c3
      gi_wp2
      refine ⟨trivial, rfl, ((callsIn_wide.2 HT1.out).inRound l').mono ?_⟩
      rintro e w7 ⟨rfl, hw7⟩
      subst hw7
      by_cases q1 : cmpL x.xs x.xs.reverse ≤ 0
      · have HD1 := Lib.hid (decide_eq_true q1)
        gi_wp2
        refine ⟨trivial, rfl, ((callsIn_wide.2 HT2.out).inRound l').mono ?_⟩
        rintro e w7 ⟨rfl, hw7⟩
        subst hw7
        by_cases q2 : cmpL x.xs (backL x.xs) ≤ 0
        · have HD2 := Lib.hid (decide_eq_true q2)
          gi_wp2
          refine ⟨trivial, rfl, ((callsIn_wide.2 HT3.out).inRound l').mono ?_⟩
          rintro e w7 ⟨rfl, hw7⟩
          subst hw7
          by_cases q3 : cmpL x.xs (backL x.xs).reverse ≤ 0
          · have HD3 : Hid (okC x.xs = true) := by show _ = _; rw [HOK.out, HD1.out, HD2.out, decide_eq_true q3]; rfl
            gi_wp2
            refine ⟨w.heap.size, ⟨rfl, by omega, ?_, ?_, HW6.out.setCell (p := ⟨w.heap.size, 0, none⟩) (Nat.le_refl _) _⟩, .inl rfl, by simp [World.setCell]; omega, by simp [World.setCell]; omega, fun k hk hkA _ => (Below.heap_setCell _ _ _ k (by show k ≠ w.heap.size; omega)).trans (HB6.out.block k hkA)⟩
            · rw [HM.out, HSN.out, if_pos HD3.out]
              refine (World.cell?_setCell_same _ _ _ c3).trans ?_
              congr 2
            · rw [World.frozen?_setCell]
              exact f3
          · have HD3 : Hid (okC x.xs = false) := by show _ = _; rw [HOK.out, HD1.out, HD2.out, decide_eq_false q3]; rfl
            gi_wp2
            exact HNO.out HD3.out
        · have HD3 : Hid (okC x.xs = false) := by show _ = _; rw [HOK.out, HD1.out, decide_eq_false q2]; rfl
          gi_wp2
          refine ⟨trivial, ?_⟩
          gi_wp2
          exact HNO.out HD3.out
      · have HD3 : Hid (okC x.xs = false) := by show _ = _; rw [HOK.out, decide_eq_false q1]; rfl
        gi_wp2
        refine ⟨trivial, ?_⟩
        gi_wp2
        refine ⟨trivial, ?_⟩
        gi_wp2
        exact HNO.out HD3.out
    case done =>
      rintro D q rs A hD hrs ⟨rfl, _, a3, _, a7⟩ hK
      rw [hrs] at a3
      gi_wp2
      refine ⟨by simp, .inl ⟨_, _, rfl, run_takeDeferred hK, ?_⟩⟩
      exact ⟨_, results_tmp rfl _ _ _, (by show Ending.returned (.int .i64 (manyC (stacksL n) : Int)) = _; exact ret_int HR.out.symm), putObj_below a7 (by omega) a7.size⟩
end Go.Proofs.Ytadpbbjahckoaaa
