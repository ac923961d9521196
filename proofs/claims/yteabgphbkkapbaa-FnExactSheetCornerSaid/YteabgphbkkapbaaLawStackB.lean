/- The laws FnExactPageCell, FnExactSheetCorner and FnExactSheetStack, walked: each returns true. Conditions: the text is a string of the model. -/
import Derived.Test.YteabgphbkkapbaaStackP
namespace Go.Proofs.Yteabgphbkkapbaa
open Go.RowKit
set_option maxHeartbeats 1000000 in
theorem fnExactPageCell_walk (a0 : ByteArray) (w0 : a0.size ≤ maxLen) (a1 : Int) (_ : (Lit.int .i64 a1).wf = true) (w : World) :
    Calls Try.prog 5 #[.string a0, .int .i64 a1] w fun e w' => e = .returned (.bool true) ∧ Below w.heap.size w w' := by
  have HW := Lib.hid w0
  clear w0
  by_cases hl : 1048576 < a0.size
  · go_enter Try.func5, Try.ntmps5
    go_wp2
    go_ret
    exact ⟨rfl, Below.refl _ _⟩
  · have C1 := fun w => specPageCell a0 a1 w HW.out
    have C2 := fun w => implPageCell a0 a1 w HW.out
    obtain ⟨⟨⟨pr, pc, pu, ph⟩, pb⟩, hX⟩ : ∃ X, X = pageC (bl a0) a1 := ⟨_, rfl⟩
    rw [← hX] at C1 C2
    clear hX
    have HC1 := Lib.hid C1
    have HC2 := Lib.hid C2
    clear C1 C2
    have tb : (pb != pb) = false := by simp
    go_enter Try.func5, Try.ntmps5
    go_wp2_with fail
    refine (HC1.out _).mono ?_
    rintro e w1 ⟨rfl, hb1⟩
    have hz1 := hb1.size
    go_wp2_with fail
    refine (HC2.out _).mono ?_
    rintro e w2 ⟨rfl, hb2⟩
    have hz2 : w1.heap.size + 1 ≤ w2.heap.size := by simpa using hb2.size
    have hb12 : Below w1.heap.size w1 w2 := ((Below.refl _ w1).alloc (Nat.le_refl _) _).trans (hb2.mono (by simp))
    have D1 := (Four.new w1 (.int .i64 pr) (.int .i64 pc) (.bool pu) (.bool ph) 31).below hb2 (Nat.le_refl _)
    obtain ⟨d1, d2, d3, d4, _, _, _, _⟩ := D1.keep (Below.heap_alloc w2 (.cells #[.int .i64 pr, .int .i64 pc, .bool pu, .bool ph] 31) _ D1.lt)
    clear hb2 D1
    go_wp2_with fail
    refine (eqCell pr pc pu ph _).mono ?_
    rintro e w3 ⟨rfl, hb3⟩
    go_wp2_with fail
    go_ret
    exact ⟨rfl, hb1.trans ((hb12.trans (((Below.refl _ w2).alloc (Nat.le_refl _) _).trans (hb3.mono (by simp)) |>.mono (by omega))).mono hz1)⟩
set_option maxHeartbeats 1000000 in
theorem fnExactSheetCorner_walk (a0 : ByteArray) (w0 : a0.size ≤ maxLen) (a1 : Int) (_ : (Lit.int .i64 a1).wf = true) (a2 : Int) (_ : (Lit.int .i64 a2).wf = true) (w : World) :
    Calls Try.prog 8 #[.string a0, .int .i64 a1, .int .i64 a2] w fun e w' => e = .returned (.bool true) ∧ Below w.heap.size w w' := by
  have HW := Lib.hid w0
  clear w0
  by_cases hl : 1048576 < a0.size
  · go_enter Try.func8, Try.ntmps8
    go_wp2
    go_ret
    exact ⟨rfl, Below.refl _ _⟩
  · have C1 := fun w => specSheetCorner a0 a1 a2 w HW.out
    have C2 := fun w => implSheetCorner a0 a1 a2 w HW.out
    obtain ⟨X, hX⟩ : ∃ X, X = cornerT (bl a0) a1 a2 := ⟨_, rfl⟩
    obtain ⟨Y, hY⟩ : ∃ Y, Y = cornerB (bl a0) a1 a2 := ⟨_, rfl⟩
    rw [← hX, ← hY] at C1 C2
    clear hX hY
    have HC1 := Lib.hid C1
    have HC2 := Lib.hid C2
    clear C1 C2
    have tb : (X.toList == X.toList) = true := by simp
    have tc : (Y != Y) = false := by simp
    go_enter Try.func8, Try.ntmps8
    go_wp2_with fail
    refine (HC1.out _).mono ?_
    rintro e w3 ⟨rfl, hb3⟩
    have hz3 := hb3.size
    go_wp2_with fail
    refine (HC2.out _).mono ?_
    rintro e w4 ⟨rfl, hb4⟩
    go_wp2_with fail
    go_ret
    exact ⟨rfl, hb3.trans (hb4.mono hz3)⟩
set_option maxHeartbeats 4000000 in
theorem fnExactSheetStack_walk (a0 : ByteArray) (w0 : a0.size ≤ maxLen) (w : World) :
    Calls Try.prog 3 #[.string a0] w fun e w' => e = .returned (.bool true) ∧ Below w.heap.size w w' := by
  have HW := Lib.hid w0
  clear w0
  by_cases hl : 1048576 < a0.size
  · go_enter Try.func3, Try.ntmps3
    go_wp2
    go_ret
    exact ⟨rfl, Below.refl _ _⟩
  · cases hok : sheetOk (bl a0) with
    | false =>
      have HOK := Lib.hid hok
      clear hok
      go_enter Try.func3, Try.ntmps3
      go_wp2_with fail
      refine (specSheetStack_no a0 _ HW.out HOK.out).mono ?_
      rintro e w1 ⟨A1, rfl, hb1⟩
      have hz1 := hb1.size
      go_wp2_with fail
      refine (implSheetStack_no a0 _ HW.out HOK.out).mono ?_
      rintro e w2 ⟨A2, rfl, hb2⟩
      have hz2 := hb2.size
      go_wp2_with fail
      refine (eqCellS_nil _ _ _ _ _).mono ?_
      rintro e w3 ⟨rfl, rfl⟩
      go_wp2_with fail
      refine (markCellS_nil _ _ _ _).mono ?_
      rintro e w3 ⟨rfl, rfl⟩
      go_wp2_with fail
      refine (heldCellS_nil _ _ _ _).mono ?_
      rintro e w3 ⟨rfl, rfl⟩
      go_wp2_with fail
      refine (implSheetStack_no a0 _ HW.out HOK.out).mono ?_
      rintro e w3 ⟨A3, rfl, hb3⟩
      go_wp2_with fail
      refine (eqCellS_nil _ _ _ _ _).mono ?_
      rintro e w4 ⟨rfl, rfl⟩
      go_wp2_with fail
      refine (heldCellS_nil _ _ _ _).mono ?_
      rintro e w4 ⟨rfl, rfl⟩
      go_wp2_with fail
      go_ret
      exact ⟨rfl, hb1.trans ((hb2.trans (hb3.mono hz2)).mono hz1)⟩
    | true =>
      have hn32 := (stackC_bd hok).2
      obtain ⟨cs, hcs⟩ : ∃ cs, cs = stackC (bl a0) := ⟨_, rfl⟩
      have HR1 : Hid (∀ w, Calls Try.prog 9 #[.string a0] w (StackRead w cs)) := by rw [hcs]; exact fun w => specSheetStack a0 w hok
      have HR2 : Hid (∀ w, Calls Try.prog 10 #[.string a0] w (StackBack w cs)) := by rw [hcs]; exact fun w => implSheetStack a0 w hok
      rw [← hcs] at hn32
      obtain ⟨n, hn⟩ : ∃ n, cs.length = n := ⟨_, rfl⟩
      have HN := Lib.hid hn
      rw [hn] at hn32
      clear hcs hn hok
      have t0 : ((1 + 4 * (n : Int)) != (1 + 4 * (n : Int))) = false := by simp
      have t1 : ¬ (1 + 4 * (n : Int)) < 0 := by omega
      go_enter Try.func3, Try.ntmps3
      go_wp2_with fail
      refine (HR1.out _).mono ?_
      rintro e w1 ⟨g1, c1, rfl, hr1, hb1⟩
      rw [HN.out]
      have hz1 := hb1.size
      have hl1 := hr1.1
      go_wp2_with fail
      refine (HR2.out _).mono ?_
      rintro e w2 ⟨g2, c2, rfl, hg2, ho2, hb2⟩
      rw [HN.out] at ho2 ⊢
      have hz2 := hb2.size
      have hl2 : g2 < w2.heap.size := (ho2.lt _ rfl).2
      have hr2 := RowC.of_own ho2
      have hop2 := OpenC.of_own ho2
      have hr12 := hr1.keep (hb2.block g1 hl1)
      clear ho2 hr1
      go_wp2_with fail
      refine (eqCellS g2 g1 n _ _ cs _ HN.out (by omega) hr2 hr12).mono ?_
      rintro e w3 ⟨rfl, hb3⟩
      have hz3 := hb3.size
      have hop3 := hop2.keep (hb3.block g2 hl2)
      have hr13 := hr12.keep (hb3.block g1 (by omega))
      clear hop2 hr2 hr12
      go_wp2_with fail
      refine (markCellS g2 n _ _ (by omega) hop3 (by omega)).mono ?_
      rintro e w4 ⟨rfl, hm4, hg4⟩
      have hz4 := hg4.size
      have hr14 := hr13.keep (hg4.block g1 (by omega) (by intro e; injection e; omega))
      have hb14 : Below w.heap.size w w4 := below_grown_at' (hb1.trans ((hb2.trans (hb3.mono hz2)).mono hz1)) hg4 (by omega) (by omega)
      clear hb1 hb2 hb3 hop3 hr13 hg4
      go_wp2_with fail
      refine (heldCellS g2 n _ _ (by omega) hm4).mono ?_
      rintro e w5 ⟨rfl, hb5⟩
      have hz5 := hb5.size
      have hm5 := hm4.keep (hb5.block g2 (by omega))
      have hr15 := hr14.keep (hb5.block g1 (by omega))
      clear hm4 hr14
      go_wp2_with fail
      refine (HR2.out _).mono ?_
      rintro e w6 ⟨g6, c6, rfl, hg6, ho6, hb6⟩
      rw [HN.out] at ho6 ⊢
      have hz6 := hb6.size
      have hr6 := RowC.of_own ho6
      have hm6 := hm5.keep (hb6.block g2 (by omega))
      have hr16 := hr15.keep (hb6.block g1 (by omega))
      clear ho6 hm5 hr15
      go_wp2_with fail
      refine (eqCellS g6 g1 n _ _ cs _ HN.out (by omega) hr6 hr16).mono ?_
      rintro e w7 ⟨rfl, hb7⟩
      have hz7 := hb7.size
      have hm7 := hm6.keep (hb7.block g2 (by omega))
      clear hm6 hr6 hr16
      go_wp2_with fail
      refine (heldCellS g2 n _ _ (by omega) hm7).mono ?_
      rintro e w8 ⟨rfl, hb8⟩
      go_wp2_with fail
      go_ret
      exact ⟨rfl, hb14.trans ((hb5.trans ((hb6.trans ((hb7.trans (hb8.mono hz7)).mono hz6)).mono hz5)).mono (by omega))⟩
end Go.Proofs.Yteabgphbkkapbaa
