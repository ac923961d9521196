/- The law FnWordText, walked: it returns true. Conditions: the code is a slice of bytes of the model. -/
import Derived.Test.YtalbokejljjflaaLawWordF
namespace Go.Proofs.Ytalbokejljjflaa
open Go.RowKit
theorem power (n : Nat) (w : World) (hn : n ≤ 40) : Calls Try.prog 17 #[.int .i64 n] w fun e w' => e = .returned (.int .i64 (pow2 n : Nat)) ∧ w = w' := by
  go_enter Try.func17, Try.ntmps17
  go_wp2
  go_loop [3, 4] (fun o i => ∃ k : Nat, ∃ x : Nat, k ≤ n ∧ i = .int .i64 k ∧ o = .int .i64 x ∧ x ≤ 1099511627776 ∧ Hid (x = pow2 k)) (fun _ i => n - (intOf i).toNat)
  case atStart => exact ⟨0, 1, Nat.zero_le _, rfl, rfl, by omega, Lib.hid rfl⟩
  case round =>
    obtain ⟨k, x, hk, rfl, rfl, hx, HX⟩ := hrel
    by_cases hlt : k < n
    · go_wp2
      have hp : pow2 (k + 1) = x * 2 := by rw [pow2_succ, HX.out]
      have hq : x * 2 ≤ 1099511627776 := by
        rw [← hp]
        exact Nat.le_trans (pow2_le (show k + 1 ≤ 40 by omega)) (by decide)
      go_round
      case rel => exact ⟨k + 1, x * 2, by omega, by go_num, by go_num, hq, Lib.hid hp.symm⟩
      case measure => simp [intOf]; omega
    · have HE : Hid (x = pow2 n) := by
        obtain rfl : k = n := by omega
        exact HX
      clear HX
      go_wp2
      go_ret
      exact ⟨ret_int (congrArg (fun n : Nat => (n : Int)) HE.out), rfl⟩
theorem foldsIn (n : Nat) (w : World) : Calls Try.prog 16 #[.int .i64 n] w fun e w' => e = .returned (.int .i64 (foldsNum n)) ∧ w = w' := by
  go_enter Try.func16, Try.ntmps16
  go_wp2
  go_loop [3] (fun i => ∃ k : Nat, k ≤ 7 ∧ i = .int .i64 k ∧ Hid (∀ j, j < k → 2 ^ j ≠ n + 1)) (fun i => 7 - (intOf i).toNat)
  case atStart => exact ⟨0, Nat.zero_le _, rfl, Lib.hid (fun j hj => absurd hj (by omega))⟩
  case round =>
    obtain ⟨k, hk, rfl, HA⟩ := hrel
    by_cases hlt : k < 7
    · obtain ⟨x, hx⟩ : ∃ x, x = pow2 k := ⟨_, rfl⟩
      have hx1 : x ≤ 64 := by rw [hx]; exact Nat.le_trans (pow2_le (show k ≤ 6 by omega)) (by decide)
      have hx0 : 1 ≤ x := by rw [hx]; exact pow2_pos k
      have HX := Lib.hid hx
      clear hx
      by_cases he : x = n + 1
      · have ht : ((x : Int) - 1 == (n : Int)) = true := by simp; omega
        have HF := Lib.hid (foldsNum_hit k n (by omega) (by rw [← he, HX.out]; rfl))
        clear he
        go_wp2_with fail
        refine (power k _ (by omega)).mono ?_
        rintro e w' ⟨rfl, rfl⟩
        rw [← HX.out]
        go_wp2
        go_ret
        exact ⟨ret_int HF.out.symm, rfl⟩
      · have ht : ((x : Int) - 1 == (n : Int)) = false := by simp; omega
        have HN : Hid (∀ j, j < k + 1 → 2 ^ j ≠ n + 1) := fun j hj => by
          by_cases e : j = k
          · subst e; intro h; exact he (by rw [HX.out]; exact h)
          · exact HA.out j (by omega)
        clear he
        go_wp2_with fail
        refine (power k _ (by omega)).mono ?_
        rintro e w' ⟨rfl, rfl⟩
        rw [← HX.out]
        go_wp2
        go_round
        case rel => exact ⟨k + 1, by omega, by go_num, HN⟩
        case measure => simp [intOf]; omega
    · obtain rfl : k = 7 := by omega
      have HF := Lib.hid (foldsNum_miss n HA.out)
      go_wp2
      go_ret
      exact ⟨ret_int HF.out.symm, rfl⟩
end Go.Proofs.Ytalbokejljjflaa
