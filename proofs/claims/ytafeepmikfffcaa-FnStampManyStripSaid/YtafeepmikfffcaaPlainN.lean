/- Stacks counted by folds, in plain Lean, by the kernel. Conditions: each theorem's own premises. -/
import Derived.Test.YtafeepmikfffcaaIterB
import Derived.Test.YtafeepmikfffcaaOrderB
namespace Go.Proofs.Ytafeepmikfffcaa
open Go.RowKit
/-- The text of n folds with a rank. -/
def foL : Nat → Nat → List UInt8 → List UInt8
  | 0, _, out => out
  | n + 1, r, out => foL n (r / 2) ((if r % 2 = 0 then 77 else 86) :: out)
theorem foL_length : ∀ (n r : Nat) (out : List UInt8), (foL n r out).length = n + out.length
  | 0, _, out => by show out.length = _; omega
  | n + 1, r, out => by
    show (foL n _ _).length = _
    rw [foL_length, List.length_cons]
    omega
theorem foL_mv : ∀ (n r : Nat) (out : List UInt8), out.all isMV = true → (foL n r out).all isMV = true
  | 0, _, _, h => h
  | n + 1, r, out, h => by
    refine foL_mv n _ _ ?_
    rw [List.all_cons, h, Bool.and_true]
    split <;> rfl
theorem strip_ones {n : Nat} (h1 : 1 ≤ n) (h6 : n ≤ 6) (r : Nat) : stripOk (List.replicate n 1) (foL (n - 1) r []) = true := by
  unfold stripOk lensOk foldsOk
  rw [List.length_replicate, foL_length, foL_mv _ _ _ rfl, List.length_nil]
  rw [decide_eq_true ⟨h1, h6⟩, decide_eq_true (by omega), Bool.and_true, Bool.true_and, Bool.and_true, List.all_eq_true]
  intro x hx
  rw [(List.mem_replicate.1 hx).2]
  rfl
def sumTo (n k : Nat) : Nat := ((List.range k).map fun i => stripMany (List.replicate n 1) (foL (n - 1) i [])).sum
theorem sumTo_step (n k : Nat) : sumTo n (k + 1) = sumTo n k + stripMany (List.replicate n 1) (foL (n - 1) k []) := by
  unfold sumTo
  rw [List.range_succ, List.map_append, List.sum_append]
  simp
theorem stripMany_bd (n : Nat) (h : n ≤ 7) (bs : List UInt8) : stripMany (List.replicate n 1) bs ≤ 823543 := by
  unfold stripMany
  rw [List.length_replicate]
  exact manyB_bd _ h
theorem sumTo_bd (n : Nat) (h : n ≤ 7) : ∀ k, sumTo n k ≤ k * 823543
  | 0 => Nat.le_refl _
  | k + 1 => by
    rw [sumTo_step]
    have h1 := sumTo_bd n h k
    have h2 := stripMany_bd n h (foL (n - 1) k [])
    omega
theorem sums1 : sumTo 1 1 = (stacksL 1).length := by decide +kernel
theorem sums2 : sumTo 2 2 = (stacksL 2).length := by decide +kernel
theorem sums3 : sumTo 3 4 = (stacksL 3).length := by decide +kernel
theorem sums4 : sumTo 4 8 = (stacksL 4).length := by decide +kernel
theorem sums5 : sumTo 5 16 = (stacksL 5).length := by decide +kernel
theorem many1 : (stacksL 1).length = (stacksS 1).length := by decide +kernel
theorem many2 : (stacksL 2).length = (stacksS 2).length := by decide +kernel
theorem many3 : (stacksL 3).length = (stacksS 3).length := by decide +kernel
theorem many4 : (stacksL 4).length = (stacksS 4).length := by decide +kernel
theorem many5 : (stacksL 5).length = (stacksS 5).length := by decide +kernel
theorem many6 : (stacksL 6).length = (stacksS 6).length ∧ 0 < (stacksL 6).length := by decide +kernel
theorem sums {n : Nat} (h1 : 1 ≤ n) (h5 : n ≤ 5) : sumTo n (2 ^ (n - 1)) = (stacksL n).length := by
  have : n = 1 ∨ n = 2 ∨ n = 3 ∨ n = 4 ∨ n = 5 := by omega
  rcases this with rfl | rfl | rfl | rfl | rfl
  · exact sums1
  · exact sums2
  · exact sums3
  · exact sums4
  · exact sums5
theorem manys {n : Nat} (h1 : 1 ≤ n) (h6 : n ≤ 6) : (stacksL n).length = (stacksS n).length := by
  have : n = 1 ∨ n = 2 ∨ n = 3 ∨ n = 4 ∨ n = 5 ∨ n = 6 := by omega
  rcases this with rfl | rfl | rfl | rfl | rfl | rfl
  · exact many1
  · exact many2
  · exact many3
  · exact many4
  · exact many5
  · exact many6.1
end Go.Proofs.Ytafeepmikfffcaa
