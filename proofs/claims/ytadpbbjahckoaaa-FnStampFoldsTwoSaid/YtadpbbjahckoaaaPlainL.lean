/- Stacks counted by their folds, text by text, in plain Lean, by the kernel. Conditions: each theorem's own premises. -/
import Derived.Test.YtadpbbjahckoaaaPlainM
import Derived.Test.YtadpbbjahckoaaaOrderB
namespace Go.Proofs.Ytadpbbjahckoaaa
set_option maxRecDepth 100000
open Go.RowKit
/-- The folds of a stack of n stamps. -/
def foldsF (n : Nat) (l : List Int) : List UInt8 := foldsL (sLevels n l) (n - 1)
def allMV : Nat → List (List UInt8)
  | 0 => [[]]
  | n + 1 => (allMV n).map (fun l => 77 :: l) ++ (allMV n).map (fun l => 86 :: l)
theorem mem_allMV : ∀ (n : Nat) (l : List UInt8), l.length = n → l.all isMV = true → l ∈ allMV n
  | 0, [], _, _ => List.mem_singleton.2 rfl
  | n + 1, c :: t, h1, h2 => by
    rw [List.all_cons, Bool.and_eq_true] at h2
    have ih := mem_allMV n t (by rw [List.length_cons] at h1; omega) h2.2
    have hc : c = 77 ∨ c = 86 := by
      have := h2.1
      unfold isMV at this
      rw [Bool.or_eq_true, beq_iff_eq, beq_iff_eq] at this
      exact this
    show _ ∈ (allMV n).map (fun l => 77 :: l) ++ (allMV n).map (fun l => 86 :: l)
    rcases hc with rfl | rfl
    · exact List.mem_append.2 (.inl (List.mem_map.2 ⟨t, ih, rfl⟩))
    · exact List.mem_append.2 (.inr (List.mem_map.2 ⟨t, ih, rfl⟩))
theorem foldsF_length (n : Nat) (l : List Int) : (foldsF n l).length = n - 1 := by unfold foldsF foldsL; rw [List.length_map, List.length_range]
theorem foldsF_mv (n : Nat) (l : List Int) : (foldsF n l).all isMV = true := by
  unfold foldsF foldsL
  rw [List.all_map, List.all_eq_true]
  intro k _
  show isMV (foldB _ k) = true
  unfold foldB
  split <;> rfl
theorem foldsF_ok {n : Nat} (h1 : 1 ≤ n) (h6 : n ≤ 6) (l : List Int) : stripOk (List.replicate n 1) (foldsF n l) = true := by
  unfold stripOk lensOk foldsOk
  rw [List.length_replicate, foldsF_length, foldsF_mv, decide_eq_true ⟨h1, h6⟩, decide_eq_true (by omega), Bool.true_and, Bool.and_true, Bool.and_true, List.all_eq_true]
  intro x hx
  rw [(List.mem_replicate.1 hx).2]
  rfl
/-- How many of the first k stacks have these folds. -/
def twoTo (n : Nat) (bs : List UInt8) (k : Nat) : Nat := (((stacksS n).take k).filter fun s => decide (foldsF n s = bs)).length
theorem twoTo_step {n k : Nat} {bs : List UInt8} {s : List Int} (h : (stacksS n)[k]? = some s) : twoTo n bs (k + 1) = twoTo n bs k + if foldsF n s = bs then 1 else 0 := by
  obtain ⟨h1, h2⟩ := List.getElem?_eq_some_iff.1 h
  unfold twoTo
  rw [List.take_succ_eq_append_getElem h1, h2, List.filter_append, List.length_append, List.filter_cons, List.filter_nil]
  by_cases e : foldsF n s = bs
  · rw [if_pos (decide_eq_true e), if_pos e]; rfl
  · rw [if_neg (by rw [decide_eq_true_eq]; exact e), if_neg e]; rfl
def twoT (n : Nat) : Bool := (allMV (n - 1)).all fun bs => twoTo n bs (stacksS n).length == stripMany (List.replicate n 1) bs
theorem two1 : twoT 1 = true := by decide +kernel
theorem two2 : twoT 2 = true := by decide +kernel
theorem two3 : twoT 3 = true := by decide +kernel
theorem two4 : twoT 4 = true := by decide +kernel
theorem two5 : twoT 5 = true := by decide +kernel
theorem twos {n : Nat} (h1 : 1 ≤ n) (h5 : n ≤ 5) (l : List Int) : twoTo n (foldsF n l) (stacksS n).length = stripMany (List.replicate n 1) (foldsF n l) := by
  have key : twoT n = true := by
    have : n = 1 ∨ n = 2 ∨ n = 3 ∨ n = 4 ∨ n = 5 := by omega
    rcases this with rfl | rfl | rfl | rfl | rfl
    · exact two1
    · exact two2
    · exact two3
    · exact two4
    · exact two5
  have := List.all_eq_true.1 key (foldsF n l) (mem_allMV (n - 1) _ (foldsF_length n l) (foldsF_mv n l))
  exact beq_iff_eq.1 this
end Go.Proofs.Ytadpbbjahckoaaa
