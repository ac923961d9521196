/- The laws FnExactPathVisits and FnExactPathOnce, walked: each returns true. Conditions: the text is a string of the model. -/
import Derived.Test.YtmlmihneanobdaaPathH
namespace Go.Proofs.Ytmlmihneanobdaa
open Go.RowKit
theorem fnExactPathVisits_walk (a0 : ByteArray) (w0 : a0.size ≤ maxLen) (w : World) :
    Calls Try.prog 5 #[.string a0] w fun e w' => e = .returned (.bool true) ∧ Below w.heap.size w w' := by
  have HW := Lib.hid w0
  clear w0
  by_cases hl : 1048576 < a0.size
  · go_enter Try.func5, Try.ntmps5
    go_wp2
    go_ret
    exact ⟨rfl, Below.refl _ _⟩
  · have hl' : a0.size ≤ 1048576 := by omega
    have C1 := fun w => specPathVisits a0 w hl'
    have C2 := fun w => implPathVisits a0 w HW.out
    obtain ⟨X, hX⟩ : ∃ X, X = visitsI (bl a0) := ⟨_, rfl⟩
    rw [← hX] at C1 C2
    clear hX
    have HC1 := Lib.hid C1
    have HC2 := Lib.hid C2
    clear C1 C2
    have tb : (X != X) = false := by simp
    go_enter Try.func5, Try.ntmps5
    go_wp2_with fail
    refine (HC1.out _).mono ?_
    rintro e w3 ⟨rfl, hb3⟩
    have hz3 := hb3.size
    go_wp2_with fail
    refine (HC2.out _).mono ?_
    rintro e w4 ⟨rfl, hb4⟩
    go_wp2_with fail
    go_ret
    exact ⟨rfl, hb3.trans (hb4.mono hz3)⟩
theorem fnExactPathOnce_walk (a0 : ByteArray) (w0 : a0.size ≤ maxLen) (w : World) :
    Calls Try.prog 6 #[.string a0] w fun e w' => e = .returned (.bool true) ∧ Below w.heap.size w w' := by
  have HW := Lib.hid w0
  clear w0
  by_cases hl : 1048576 < a0.size
  · go_enter Try.func6, Try.ntmps6
    go_wp2
    go_ret
    exact ⟨rfl, Below.refl _ _⟩
  · have hl' : a0.size ≤ 1048576 := by omega
    have C1 := fun w => specPathOnce a0 w hl'
    have C2 := fun w => implPathOnce a0 w HW.out
    obtain ⟨X, hX⟩ : ∃ X, X = onceL (bl a0) := ⟨_, rfl⟩
    rw [← hX] at C1 C2
    clear hX
    have HC1 := Lib.hid C1
    have HC2 := Lib.hid C2
    clear C1 C2
    have tb : (X != X) = false := by simp
    go_enter Try.func6, Try.ntmps6
    go_wp2_with fail
    refine (HC1.out _).mono ?_
    rintro e w3 ⟨rfl, hb3⟩
    have hz3 := hb3.size
    go_wp2_with fail
    refine (HC2.out _).mono ?_
    rintro e w4 ⟨rfl, hb4⟩
    go_wp2_with fail
    go_ret
    exact ⟨rfl, hb3.trans (hb4.mono hz3)⟩
end Go.Proofs.Ytmlmihneanobdaa
