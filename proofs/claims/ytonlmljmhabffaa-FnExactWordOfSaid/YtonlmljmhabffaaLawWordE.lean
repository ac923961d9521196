/- The law FnExactWordOf, walked: it returns true. Conditions: the text is a string of the model. -/
import Derived.Test.YtonlmljmhabffaaWordE
namespace Go.Proofs.Ytonlmljmhabffaa
open Go.RowKit
theorem fnExactWordOf_walk (a0 : ByteArray) (w0 : a0.size ≤ maxLen) (w : World) :
    Calls Try.prog 5 #[.string a0] w fun e w' => e = .returned (.bool true) ∧ Below w.heap.size w w' := by
  have HW := Lib.hid w0
  clear w0
  by_cases hl : 1048576 < a0.size
  · go_enter Try.func5, Try.ntmps5
    go_wp2
    go_ret
    exact ⟨rfl, Below.refl _ _⟩
  · have hl' : a0.size ≤ 1048576 := by omega
    go_enter Try.func5, Try.ntmps5
    go_wp2_with fail
    refine (specWordOf _ _ hl').mono ?_
    rintro e w1 ⟨rfl, rfl⟩

    go_wp2_with fail
    refine (implWordOf _ _ HW.out).mono ?_
    rintro e w2 ⟨rfl, hb2⟩
    have hz2 := hb2.size
    go_wp2_with fail
    go_ret
    exact ⟨rfl, hb2⟩
end Go.Proofs.Ytonlmljmhabffaa
