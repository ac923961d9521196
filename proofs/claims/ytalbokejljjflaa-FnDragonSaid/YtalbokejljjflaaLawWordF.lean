/- The laws FnWordOther and FnWordText, walked: each returns true. Conditions: the code is a slice of bytes of the model. -/
import Derived.Test.YtalbokejljjflaaPlainW
import Derived.Test.YtalbokejljjflaaDrawW
namespace Go.Proofs.Ytalbokejljjflaa
open Go.RowKit
/-- A text of at most bd bytes has been drawn out of a code. -/
def DrawnTop (bd : Nat) (w : World) (e : Ending) (w' : World) : Prop := ∃ s : ByteArray, e = .returned (.string s) ∧ s.size ≤ bd ∧ Below w.heap.size w w'
theorem drawWordValid (a : Option Addr) (len cap : Nat) (z : List Int) (w : World) (hr : IsRow .u8 w a len cap z) (hc : len ≤ cap) : Calls Try.prog 13 #[.slice a len cap] w (DrawnTop 70 w) := by
  have HR := Lib.hid hr
  clear hr
  go_enter Try.func13, Try.ntmps13
  go_wp2_with fail
  refine (l6Open _ _ _ _ _ HR.out hc).mono ?_
  rintro e w1 ⟨g, A, len', cap', rfl, hg, hrd, hb⟩
  go_wp2_with fail
  refine (l92Word g A len' cap' 0 _ hrd (by omega)).mono ?_
  rintro e w2 ⟨s, p', rfl, hs, _, _, hg2⟩
  go_wp2_with fail
  go_ret
  exact ⟨s, rfl, hs, below_grown_at hb hg2 hb.size hg⟩
end Go.Proofs.Ytalbokejljjflaa
