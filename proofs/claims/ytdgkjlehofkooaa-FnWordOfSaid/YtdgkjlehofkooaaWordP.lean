/- The walk of the laws' own power of two. Conditions: each theorem's own premises. -/
import Derived.Test.YtdgkjlehofkooaaWordB
namespace Go.Proofs.Ytdgkjlehofkooaa.W
set_option maxRecDepth 100000
open Go.RowKit
theorem power (n : Nat) (w : World) (hn : n ≤ 40) : Calls Try.prog 19 #[.int .i64 n] w fun e w' => e = .returned (.int .i64 (pow2 n : Nat)) ∧ w = w' := by
  go_enter Try.func19, Try.ntmps19
  go_wp2
  go_loop [3, 4] (fun o i => ∃ k : Nat, ∃ x : Nat, k ≤ n ∧ i = .int .i64 k ∧ o = .int .i64 x ∧ x ≤ 1099511627776 ∧ Hid (x = pow2 k)) (fun _ i => n - (intOf i).toNat)
  case atStart => exact ⟨0, 1, Nat.zero_le _, rfl, rfl, by omega, Lib.hid rfl⟩
  case round =>
    obtain ⟨k, x, hk, rfl, rfl, hx, HX⟩ := hrel
    by_cases hlt : k < n
    · go_wp2
      have hp : pow2 (k + 1) = x * 2 := by rw [pow2_succ, HX.out]
      have hq : x * 2 ≤ 1099511627776 := by
        rw [← hp]
        exact Nat.le_trans (pow2_le (show k + 1 ≤ 40 by omega)) (by decide)
      go_round
      case rel => exact ⟨k + 1, x * 2, by omega, by go_num, by go_num, hq, Lib.hid hp.symm⟩
      case measure => simp [intOf]; omega
    · have HE : Hid (x = pow2 n) := by
        obtain rfl : k = n := by omega
        exact HX
      clear HX
      go_wp2
      go_ret
      exact ⟨ret_int (congrArg (fun n : Nat => (n : Int)) HE.out), rfl⟩
end Go.Proofs.Ytdgkjlehofkooaa.W
