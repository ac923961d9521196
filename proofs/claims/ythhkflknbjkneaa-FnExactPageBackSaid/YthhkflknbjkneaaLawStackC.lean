/- The laws FnExactPageFront and FnExactPageBack, walked: each returns true. Conditions: the text is a string of the model. -/
import Derived.Test.YthhkflknbjkneaaStackQ
namespace Go.Proofs.Ythhkflknbjkneaa
open Go.RowKit
theorem fnExactPageFront_walk (a0 : ByteArray) (w0 : a0.size ≤ maxLen) (a1 : Int) (_ : (Lit.int .i64 a1).wf = true) (a2 : Int) (_ : (Lit.int .i64 a2).wf = true) (w : World) :
    Calls Try.prog 3 #[.string a0, .int .i64 a1, .int .i64 a2] w fun e w' => e = .returned (.bool true) ∧ Below w.heap.size w w' := by
  have HW := Lib.hid w0
  clear w0
  by_cases hl : 1048576 < a0.size
  · go_enter Try.func3, Try.ntmps3
    go_wp2
    go_ret
    exact ⟨rfl, Below.refl _ _⟩
  · have C1 := fun w => specPageFront a0 a1 a2 w HW.out
    have C2 := fun w => implPageFront a0 a1 a2 w HW.out
    obtain ⟨X, hX⟩ : ∃ X, X = frontC (bl a0) a1 a2 := ⟨_, rfl⟩
    rw [← hX] at C1 C2
    clear hX
    have HC1 := Lib.hid C1
    have HC2 := Lib.hid C2
    clear C1 C2
    have tb : (X != X) = false := by simp
    go_enter Try.func3, Try.ntmps3
    go_wp2_with fail
    refine (HC1.out _).mono ?_
    rintro e w3 ⟨rfl, hb3⟩
    have hz3 := hb3.size
    go_wp2_with fail
    refine (HC2.out _).mono ?_
    rintro e w4 ⟨rfl, hb4⟩
    go_wp2_with fail
    go_ret
    exact ⟨rfl, hb3.trans (hb4.mono hz3)⟩
theorem fnExactPageBack_walk (a0 : ByteArray) (w0 : a0.size ≤ maxLen) (a1 : Int) (_ : (Lit.int .i64 a1).wf = true) (a2 : Int) (_ : (Lit.int .i64 a2).wf = true) (w : World) :
    Calls Try.prog 4 #[.string a0, .int .i64 a1, .int .i64 a2] w fun e w' => e = .returned (.bool true) ∧ Below w.heap.size w w' := by
  have HW := Lib.hid w0
  clear w0
  by_cases hl : 1048576 < a0.size
  · go_enter Try.func4, Try.ntmps4
    go_wp2
    go_ret
    exact ⟨rfl, Below.refl _ _⟩
  · have C1 := fun w => specPageBack a0 a1 a2 w HW.out
    have C2 := fun w => implPageBack a0 a1 a2 w HW.out
    obtain ⟨X, hX⟩ : ∃ X, X = backC (bl a0) a1 a2 := ⟨_, rfl⟩
    rw [← hX] at C1 C2
    clear hX
    have HC1 := Lib.hid C1
    have HC2 := Lib.hid C2
    clear C1 C2
    have tb : (X != X) = false := by simp
    go_enter Try.func4, Try.ntmps4
    go_wp2_with fail
    refine (HC1.out _).mono ?_
    rintro e w3 ⟨rfl, hb3⟩
    have hz3 := hb3.size
    go_wp2_with fail
    refine (HC2.out _).mono ?_
    rintro e w4 ⟨rfl, hb4⟩
    go_wp2_with fail
    go_ret
    exact ⟨rfl, hb3.trans (hb4.mono hz3)⟩
end Go.Proofs.Ythhkflknbjkneaa
