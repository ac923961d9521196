/- The walk of the program's StampNext. Conditions: each theorem's own premises. -/
import Derived.Test.YtadpbbjahckoaaaRankA
import Derived.Shelf.RegionOpen
namespace Go.Proofs.Ytadpbbjahckoaaa
set_option maxRecDepth 100000
open Go.RowKit
attribute [local go_sem] Oper.semAt_some
/-- The better one of two stacks behind l: the one that comes first. -/
def stepN (l : List Int) (b : Option (List Int)) (s : List Int) : Option (List Int) :=
  if 0 < cmpL s l then (match b with
    | none => some s
    | some x => if cmpL s x < 0 then some s else some x) else b
def nextN (l : List Int) (xss : List (List Int)) : Option (List Int) := xss.foldl (stepN l) none
theorem nextN_snoc (l s : List Int) (xss : List (List Int)) : nextN l (xss ++ [s]) = stepN l (nextN l xss) s := by
  unfold nextN
  rw [List.foldl_append]
  rfl
def nextI (l : List Int) : Option (List Int) := if possL l = true then nextN l (stacksL l.length) else none
set_option maxRecDepth 100000 in
set_option maxHeartbeats 4000000 in
theorem implStampNext (gl n c : Nat) (l : List Int) (w : World) (hn : l.length = n) (hn2 : n ≤ 1000) (hr : RowI w gl l) :
    Calls Try.prog 20 #[.slice (some ⟨gl, 0, none⟩) n c] w (OverBack w (nextI l).isSome ((nextI l).getD [])) := by
  have hgl := hr.1
  have C1 := fun w (h : RowI w gl l) => implStampPossible gl n c l w hn hn2 h
  have hbv : (w.alloc (.cells #[.slice (some ⟨gl, 0, none⟩) n c] 22)).cell? ⟨w.heap.size, 0, none⟩ = some (.slice (some ⟨gl, 0, none⟩) n c) := World.cell?_alloc_mark w #[.slice (some ⟨gl, 0, none⟩) n c] 22 (0, 0) 0
  have HRA := Lib.hid (hr.below ((Below.refl _ w).alloc (Nat.le_refl _) (.cells #[.slice (some ⟨gl, 0, none⟩) n c] 22)) hgl)
  have HBA := Lib.hid ((Below.refl w.heap.size w).alloc (Nat.le_refl _) (.cells #[.slice (some ⟨gl, 0, none⟩) n c] 22))
  have hAz : (w.alloc (.cells #[.slice (some ⟨gl, 0, none⟩) n c] 22)).heap.size = w.heap.size + 1 := by simp
  obtain ⟨A0, hA0⟩ : ∃ A, A = w.alloc (.cells #[.slice (some ⟨gl, 0, none⟩) n c] 22) := ⟨_, rfl⟩
  have HBV := Lib.hid hbv
  rw [← hA0] at HBV HRA HBA hAz
  have hHid := Lib.hid hA0
  refine (callsIn_wide (n := 0)).1 ?_
  refine callsIn_of_wp_marks Try.func20 rfl trivial ?_ rfl
  simp only [Try.ntmps20, List.size_toArray, List.length_cons, List.length_nil, Nat.reduceAdd, Nat.reduceSub, Array.replicate_succ, Array.replicate_zero, List.push_toArray, List.append_toArray, List.nil_append, List.cons_append]
  cases hok : possL l with
  | false =>
    have HR : Hid (nextI l = none) := by show _ = _; unfold nextI; rw [if_neg (by rw [hok]; decide)]
    rw [hok] at C1
    have HC1 := Lib.hid C1
    clear C1 hok hn hr hbv hA0
    gi_wp2
    rw [← hHid.out]
    refine ⟨trivial, rfl, (callsIn_wide.2 (HC1.out A0 HRA.out)).mono ?_⟩
    rintro e w1 ⟨rfl, hb1⟩
    have HB1 := Lib.hid (HBA.out.trans (hb1.mono HBA.out.size))
    clear hb1
    gi_wp2
    rw [HR.out]
    exact ⟨_, results_tmp2 rfl _ _ _, HB1.out.alloc HB1.out.size _, w1.heap.size, 0, 0, rfl, rfl, HB1.out.size, ⟨by simp, fun i x h => by simp at h⟩⟩
  | true =>
    obtain ⟨hrg, _⟩ := (poss_iff l).1 hok
    unfold rangeN at hrg
    rw [decide_eq_true_eq, hn] at hrg
    obtain ⟨h1, h7⟩ := hrg
    have HR : Hid (nextI l = nextN l (stacksL n)) := by
      show _ = _
      unfold nextI
      rw [if_pos hok, hn]
    rw [hok] at C1
    have HC1 := Lib.hid C1
    have HN := Lib.hid hn
    have hlen := stacksL_many h7
    have HSL := Lib.hid (stacksL_length n h1)
    clear C1 hok hn hr hbv hA0
    gi_wp2
    rw [← hHid.out]
    refine ⟨trivial, rfl, (callsIn_wide.2 (HC1.out A0 HRA.out)).mono ?_⟩
    rintro e w2 ⟨rfl, hb2⟩
    have hB2 : Below w.heap.size w w2 := HBA.out.trans (hb2.mono HBA.out.size)
    have hz2 : w.heap.size + 1 ≤ w2.heap.size := by have := hb2.size; omega
    have hc2 : w2.cell? ⟨w.heap.size, 0, none⟩ = some (.slice (some ⟨gl, 0, none⟩) n c) := (hb2.cell (p := ⟨w.heap.size, 0, none⟩) (by show w.heap.size < _; omega)).trans HBV.out
    have hr2 : RowI w2 gl l := HRA.out.below hb2 (by omega)
    have hc2a : ∀ o1 o2 o3, (((w2.alloc o1).alloc o2).alloc o3).cell? ⟨w.heap.size, 0, none⟩ = some (.slice (some ⟨gl, 0, none⟩) n c) := fun o1 o2 o3 => (((((Below.refl w2.heap.size w2).alloc (Nat.le_refl _) o1).alloc (by simp) o2).alloc (by simp; omega) o3).cell (p := ⟨w.heap.size, 0, none⟩) (by show w.heap.size < _; omega)).trans hc2
    clear hb2
    gi_wp2
    refine ⟨trivial, rfl, (callsIn_wide.2 (stacksOf n _)).mono ?_⟩
    rintro e w3 ⟨rfl, rfl⟩
    gi_wp2
    obtain ⟨V, hV⟩ : ∃ V, V = (((w2.alloc (.cells #[] 3)).alloc (.cells #[.slice (some ⟨w2.heap.size, 0, none⟩) 0 0] 22)).alloc (.cells #[.bool false] 4)).alloc (.cells #[.int .i64 n] 3) := ⟨_, rfl⟩
    have hVz : V.heap.size = w2.heap.size + 4 := by rw [hV]; simp
    have hVb : Below w2.heap.size w2 V := by rw [hV]; exact ((((Below.refl _ w2).alloc (Nat.le_refl _) _).alloc (by simp) _).alloc (by simp; omega) _).alloc (by simp; omega) _
    have hVn : V.cell? ⟨w2.heap.size + 1 + 1 + 1, 0, none⟩ = some (.int .i64 n) := by
      rw [hV]
      have := World.cell?_alloc_mark (((w2.alloc (.cells #[] 3)).alloc (.cells #[.slice (some ⟨w2.heap.size, 0, none⟩) 0 0] 22)).alloc (.cells #[.bool false] 4)) #[.int .i64 n] 3 (0, 0) 0
      rwa [World.size_alloc, World.size_alloc, World.size_alloc] at this
    have hVf : V.cell? ⟨w2.heap.size + 1 + 1, 0, none⟩ = some (.bool false) ∧ V.frozen? ⟨w2.heap.size + 1 + 1, 0, none⟩ = false := by
      rw [hV]
      have c1 := World.cell?_alloc_mark ((w2.alloc (.cells #[] 3)).alloc (.cells #[.slice (some ⟨w2.heap.size, 0, none⟩) 0 0] 22)) #[.bool false] 4 (0, 0) 0
      have c2 := World.frozen?_alloc_mark ((w2.alloc (.cells #[] 3)).alloc (.cells #[.slice (some ⟨w2.heap.size, 0, none⟩) 0 0] 22)) #[.bool false] 4 0 0 0
      rw [World.size_alloc, World.size_alloc] at c1 c2
      exact ⟨(World.cell?_of_block (a := ⟨w2.heap.size + 1 + 1, 0, none⟩) (Below.heap_alloc _ _ _ (by simp))).trans c1, (World.frozen?_of_block (a := ⟨w2.heap.size + 1 + 1, 0, none⟩) (Below.heap_alloc _ _ _ (by simp))).trans c2⟩
    have hVx : V.cell? ⟨w2.heap.size + 1, 0, none⟩ = some (.slice (some ⟨w2.heap.size, 0, none⟩) 0 0) ∧ V.frozen? ⟨w2.heap.size + 1, 0, none⟩ = false := by
      rw [hV]
      have c1 := World.cell?_alloc_mark (w2.alloc (.cells #[] 3)) #[.slice (some ⟨w2.heap.size, 0, none⟩) 0 0] 22 (0, 0) 0
      have c2 := World.frozen?_alloc_mark (w2.alloc (.cells #[] 3)) #[.slice (some ⟨w2.heap.size, 0, none⟩) 0 0] 22 0 0 0
      rw [World.size_alloc] at c1 c2
      exact ⟨(World.cell?_of_block (a := ⟨w2.heap.size + 1, 0, none⟩) ((Below.heap_alloc _ _ _ (by simp)).trans (Below.heap_alloc _ _ _ (by simp)))).trans c1, (World.frozen?_of_block (a := ⟨w2.heap.size + 1, 0, none⟩) ((Below.heap_alloc _ _ _ (by simp)).trans (Below.heap_alloc _ _ _ (by simp)))).trans c2⟩
    have hVl := (hVb.cell (p := ⟨w.heap.size, 0, none⟩) (by show w.heap.size < _; omega)).trans hc2
    have hVr : RowI V gl l := hr2.below hVb (by omega)
    have hVw : Below w.heap.size w V := hB2.trans (hVb.mono (by omega))
    have HST := Lib.hid (stacksOf_seq n h7 V (w2.heap.size + 1 + 1 + 1) hVn)
    rw [← hV]
    obtain ⟨X, hX⟩ : ∃ X, X = w2.heap.size + 1 := ⟨_, rfl⟩
    obtain ⟨Y, hY⟩ : ∃ Y, Y = w2.heap.size + 1 + 1 := ⟨_, rfl⟩
    rw [← hY] at hVf
    rw [← hX] at hVx
    rw [← hY]
    rw [← hX]
    have hXl : w2.heap.size < X := by omega
    have hXY : X < Y := by omega
    have hYV : Y + 2 ≤ V.heap.size := by omega
    have hq0 : ¬ X = Y + 1 := by omega
    rw [← hY] at HST
    clear hVn hV hVb hc2a hc2 hX hY hVz
    refine range_stk (gf := 55) (lb := #[.pointer (some ⟨Y + 1, 0, none⟩)]) rfl (enters_of Try.func55 (by kernel_rfl) rfl) HST.out (Below.refl _ _) rfl X (by omega) hq0
      (fun pre q A => X = q ∧ (∃ (f : Bool) (g m cp : Nat) (bx : List Int), A.cell? ⟨Y, 0, none⟩ = some (.bool f) ∧ A.cell? ⟨X, 0, none⟩ = some (.slice (some ⟨g, 0, none⟩) m cp) ∧ bx.length = m ∧ m ≤ 1000 ∧ RowI A g bx ∧ w.heap.size ≤ g ∧ nextN l (pre.map RD.xs) = (if f then some bx else none) ∧ (f = false → bx = [])) ∧ A.frozen? ⟨X, 0, none⟩ = false ∧ A.frozen? ⟨Y, 0, none⟩ = false ∧ A.cell? ⟨w.heap.size, 0, none⟩ = some (.slice (some ⟨gl, 0, none⟩) n c) ∧ RowI A gl l ∧ Below w.heap.size w A)
      (fun pre q A C row ⟨a1, ⟨f, g, m, cp, bx, b1, b2, b3, b4, b5, b6, b7, b8⟩, a3, a4, a5, a6, a7⟩ hg hr => ⟨a1, ⟨f, g, m, cp, bx, cell_kept b1 hg (fun r e => (hr r e).2), cell_kept b2 hg (fun r e => (hr r e).2), b3, b4, b5.stays hg (fun r e => (hr r e).2), b6, b7, b8⟩, (frozen_kept b2 hg (fun r e => (hr r e).2)).trans a3, (frozen_kept b1 hg (fun r e => (hr r e).2)).trans a4, cell_kept a5 hg (fun r e => (hr r e).2), a6.stays hg (fun r e => (hr r e).2), a7.grown hg a7.size (fun r e => by have := (hr r e).1; omega)⟩)
      ⟨rfl, ⟨false, w2.heap.size, 0, 0, [], hVf.1, hVx.1, rfl, by omega, ⟨by omega, fun i x h => by simp at h⟩, by omega, rfl, fun _ => rfl⟩, hVx.2, hVf.2, hVl, hVr, hVw⟩
      (fun x => { tmps := #[.slice (some ⟨gl, 0, none⟩) n c, .pointer (some ⟨w.heap.size, 0, none⟩), .slice none 0 0, .bool false, .pointer (some ⟨X, 0, none⟩), .pointer (some ⟨Y, 0, none⟩), x.v, .slice (some ⟨gl, 0, none⟩) n c, .bool true, .bool false, undef, .slice (some ⟨w2.heap.size, 0, none⟩) 0 0, .slice (some ⟨gl, 0, none⟩) n c, .int .i64 n, .func (.func 55) #[] #[.pointer (some ⟨Y + 1, 0, none⟩)], x.v, undef, undef, undef, undef, undef, undef, undef, undef, undef, undef, undef, undef, undef, undef, undef, undef, undef], defers := [] }) ?assign ?body ?done
    case assign =>
      intro l' x A K hK
      gi_wp2
      first | exact hK | simpa using hK
    case body =>
      rintro l' pre q x A ⟨rfl, ⟨f, g, m, cp, bx, b1, b2, b3, b4, b5, b6, b7, b8⟩, a3, a4, a5, a6, a7⟩ hpre hx hcap hrow hxg hxq hqA hVA
      have hxl : x.xs.length = n := HSL.out x.xs (List.mem_of_getElem? hx)
      have hxv : x.v = .slice (some ⟨x.g, 0, none⟩) n x.cap := by show Value.slice _ _ _ = _; rw [hxl]
      rw [hxv]
      have HSC := Lib.hid (slicesCompare x.g gl n n x.cap c x.xs l A hxl HN.out (by omega) hrow.row a6)
      have HSN : Hid (nextN l ((pre ++ [x]).map RD.xs) = stepN l (if f then some bx else none) x.xs) := by
        show _ = _
        rw [List.map_append, ← b7]
        exact nextN_snoc l x.xs (pre.map RD.xs)
      have HA5 := Lib.hid a5
      have HA6 := Lib.hid a6
      have HA7 := Lib.hid a7
      have HB5 := Lib.hid b5
      have HB7 := Lib.hid b7
      have HROW := Lib.hid hrow.row
      have HXL := Lib.hid hxl
      have HA3 := Lib.hid a3
      have HA4 := Lib.hid a4
      have HB1 := Lib.hid b1
      have HB2 := Lib.hid b2
      have HXG : Hid (w.heap.size ≤ x.g) := Lib.hid (by omega)
      have hXA : X < A.heap.size := hqA
      have hYA : Y < A.heap.size := by omega
      have HIN : Hid (nextN l ((pre ++ [x]).map RD.xs) = some x.xs → ∃ q', ((fun pre q A => X = q ∧ (∃ (f : Bool) (g m cp : Nat) (bx : List Int), A.cell? ⟨Y, 0, none⟩ = some (.bool f) ∧ A.cell? ⟨X, 0, none⟩ = some (.slice (some ⟨g, 0, none⟩) m cp) ∧ bx.length = m ∧ m ≤ 1000 ∧ RowI A g bx ∧ w.heap.size ≤ g ∧ nextN l (pre.map RD.xs) = (if f then some bx else none) ∧ (f = false → bx = [])) ∧ A.frozen? ⟨X, 0, none⟩ = false ∧ A.frozen? ⟨Y, 0, none⟩ = false ∧ A.cell? ⟨w.heap.size, 0, none⟩ = some (.slice (some ⟨gl, 0, none⟩) n c) ∧ RowI A gl l ∧ Below w.heap.size w A) : List RD → Nat → World → Prop) (pre ++ [x]) q' ((A.setCell ⟨X, 0, none⟩ (.slice (some ⟨x.g, 0, none⟩) n x.cap)).setCell ⟨Y, 0, none⟩ (.bool true)) ∧ (q' = X ∨ A.heap.size ≤ q') ∧ q' < ((A.setCell ⟨X, 0, none⟩ (.slice (some ⟨x.g, 0, none⟩) n x.cap)).setCell ⟨Y, 0, none⟩ (.bool true)).heap.size ∧ KeptBut (fun k => V.heap.size ≤ k ∨ k = Y + 1) X A ((A.setCell ⟨X, 0, none⟩ (.slice (some ⟨x.g, 0, none⟩) n x.cap)).setCell ⟨Y, 0, none⟩ (.bool true))) := by
        show _ → _
        intro hne
        have hYc : (A.setCell ⟨X, 0, none⟩ (.slice (some ⟨x.g, 0, none⟩) n x.cap)).cell? ⟨Y, 0, none⟩ = some (.bool f) := (World.cell?_setCell_other _ _ _ _ (by intro e; injection e; omega)).trans HB1.out
        refine ⟨X, ⟨rfl, ⟨true, x.g, n, x.cap, x.xs, ?_, ?_, HXL.out, by omega, ?_, HXG.out, hne, fun h => by cases h⟩, ?_, ?_, ?_, ?_, ?_⟩, .inl rfl, by simpa [World.setCell] using hqA, by simp [World.setCell], fun k hk _ _ => ?_⟩
        · exact World.cell?_setCell_same _ _ _ hYc
        · exact (World.cell?_setCell_other _ _ _ _ (by intro e; injection e; omega)).trans (World.cell?_setCell_same _ _ _ HB2.out)
        · exact (HROW.out.keep (Below.heap_setCell _ _ _ x.g (by show x.g ≠ X; omega))).keep (Below.heap_setCell _ _ _ x.g (by show x.g ≠ Y; omega))
        · rw [World.frozen?_setCell, World.frozen?_setCell]; exact HA3.out
        · rw [World.frozen?_setCell, World.frozen?_setCell]; exact HA4.out
        · exact (World.cell?_setCell_other _ _ _ _ (by intro e; injection e; omega)).trans ((World.cell?_setCell_other _ _ _ _ (by intro e; injection e; omega)).trans HA5.out)
        · exact (HA6.out.keep (Below.heap_setCell _ _ _ gl (by show gl ≠ X; omega))).keep (Below.heap_setCell _ _ _ gl (by show gl ≠ Y; omega))
        · exact (HA7.out.setCell (p := ⟨X, 0, none⟩) (by show w.heap.size ≤ X; omega) _).setCell (p := ⟨Y, 0, none⟩) (by show w.heap.size ≤ Y; omega) _
        · exact (Below.heap_setCell _ _ _ k (by show k ≠ Y; omega)).trans (Below.heap_setCell _ _ _ k (by show k ≠ X; omega))
      clear hpre hx hcap hrow hxv a6 a7 b5 b7 hxl
      gi_wp2
      refine ⟨trivial, rfl, ((callsIn_wide.2 HSC.out).inRound l').mono ?_⟩
      rintro e w4 ⟨rfl, hw4⟩
      subst hw4
      by_cases hcm : 0 < cmpL x.xs l
      · cases f with
        | false =>
          have hne : nextN l ((pre ++ [x]).map RD.xs) = some x.xs := by rw [HSN.out]; unfold stepN; rw [if_pos hcm]; rfl
          have HNE := Lib.hid hne
          clear hne
          gi_wp2
          refine ⟨trivial, ?_⟩
          gi_wp2
          exact HIN.out HNE.out
        | true =>
          have HS2 := Lib.hid (slicesCompare x.g g n m x.cap cp x.xs bx A HXL.out b3 (by omega) HROW.out HB5.out)
          gi_wp2
          refine ⟨trivial, rfl, ((callsIn_wide.2 HS2.out).inRound l').mono ?_⟩
          rintro e w5 ⟨rfl, hw5⟩
          subst hw5
          by_cases hcb : cmpL x.xs bx < 0
          · have hne : nextN l ((pre ++ [x]).map RD.xs) = some x.xs := by rw [HSN.out]; unfold stepN; rw [if_pos hcm]; show (if cmpL x.xs bx < 0 then some x.xs else some bx) = _; rw [if_pos hcb]
            have HNE := Lib.hid hne
            clear hne
            gi_wp2
            exact HIN.out HNE.out
          · have hne : nextN l ((pre ++ [x]).map RD.xs) = some bx := by rw [HSN.out]; unfold stepN; rw [if_pos hcm]; show (if cmpL x.xs bx < 0 then some x.xs else some bx) = _; rw [if_neg hcb]
            have HNE := Lib.hid hne
            have hcb2 : 0 ≤ cmpL x.xs bx := by omega
            clear hne
            gi_wp2
            exact ⟨X, ⟨rfl, ⟨true, g, m, cp, bx, HB1.out, HB2.out, b3, b4, HB5.out, b6, HNE.out, b8⟩, HA3.out, HA4.out, HA5.out, HA6.out, HA7.out⟩, .inl rfl, hqA, KeptBut.refl _ _ _⟩
      · have hne : nextN l ((pre ++ [x]).map RD.xs) = (if f then some bx else none) := by rw [HSN.out]; unfold stepN; rw [if_neg hcm]
        have HNE := Lib.hid hne
        have hcm2 : cmpL x.xs l ≤ 0 := by omega
        clear hne
        gi_wp2
        all_goals first
          | (have hbad : ∃ b, some undef = some (Value.bool b) := ⟨_, by assumption⟩
             obtain ⟨b, hb⟩ := hbad
             cases hb
             done)
          | (refine ⟨trivial, ?_⟩
             gi_wp2
             exact ⟨X, ⟨rfl, ⟨f, g, m, cp, bx, HB1.out, HB2.out, b3, b4, HB5.out, b6, HNE.out, b8⟩, HA3.out, HA4.out, HA5.out, HA6.out, HA7.out⟩, .inl rfl, hqA, KeptBut.refl _ _ _⟩)
    case done =>
      rintro D q rs A hD hrs ⟨rfl, ⟨f, g, m, cp, bx, b1, b2, b3, b4, b5, b6, b7, b8⟩, a3, a4, _, _, a7⟩ hK
      rw [hrs] at b7
      have HB7 : Hid (nextI l = if f then some bx else none) := by show _ = _; rw [HR.out, b7]
      have HB3 := Lib.hid b3
      have HB5 := Lib.hid b5
      have HB8 := Lib.hid b8
      have HA7 := Lib.hid a7
      have b1d : A.drew.cell? ⟨Y, 0, none⟩ = some (.bool f) := b1
      have b2d : A.drew.cell? ⟨X, 0, none⟩ = some (.slice (some ⟨g, 0, none⟩) m cp) := b2
      clear b3 b5 b7 b8 a7 hrs
      gi_wp2
      gi_region
      gi_wp2
      have hi : (nextI l).isSome = f ∧ (nextI l).getD [] = bx := by
        rw [HB7.out]
        cases f with
        | false => exact ⟨rfl, (HB8.out rfl).symm⟩
        | true => exact ⟨rfl, rfl⟩
      rw [hi.1, hi.2]
      have hKd : A.drew.heap[D]? = some (.deferred (some [])) := hK
      have hrd : RowI A.drew g bx := HB5.out.keep rfl
      refine ⟨by simp, .inl ⟨_, _, rfl, run_takeDeferred hKd, ?_⟩⟩
      exact ⟨_, results_tmp2 rfl _ _ _, putObj_below HA7.out.drew (by omega) HA7.out.drew.size, g, m, cp, HB3.out, rfl, b6, hrd.stays (grownBy_putObj' A.drew D _) (fun r e => by cases e; exact ⟨_, hKd, rfl⟩)⟩
end Go.Proofs.Ytadpbbjahckoaaa
