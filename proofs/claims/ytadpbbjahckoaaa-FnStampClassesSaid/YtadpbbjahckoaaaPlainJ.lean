/- Classes of stacks, in plain Lean. Conditions: each theorem's own premises. -/
import Derived.Test.YtadpbbjahckoaaaPlainY
namespace Go.Proofs.Ytadpbbjahckoaaa
set_option maxRecDepth 100000
open Go.RowKit
/-- The stack is the first one of its class. -/
def okC (x : List Int) : Bool := !decide (cmpL x.reverse x < 0) && !decide (cmpL (backL x) x < 0) && !decide (cmpL (backL x).reverse x < 0)
def manyC (xss : List (List Int)) : Nat := (xss.filter okC).length
theorem manyC_snoc (xss : List (List Int)) (s : List Int) : manyC (xss ++ [s]) = manyC xss + if okC s = true then 1 else 0 := by
  unfold manyC
  rw [List.filter_append, List.length_append, List.filter_cons, List.filter_nil]
  by_cases h : okC s = true
  · rw [if_pos h, if_pos h]; rfl
  · rw [if_neg h, if_neg h]; rfl
theorem manyC_le (xss : List (List Int)) : manyC xss ≤ xss.length := List.length_filter_le _ _
theorem manyC_perm {a b : List (List Int)} (h : a.Perm b) : manyC a = manyC b := (h.filter _).length_eq
def classI (n : Int) : Int := if inI n = true then (manyC (stacksS n.toNat) : Int) else -1
def quarter (n : Nat) : Bool := decide ((stacksL n).length ≤ 4 * manyC (stacksL n))
theorem quarter1 : quarter 1 = true := by decide +kernel
theorem quarter2 : quarter 2 = true := by decide +kernel
theorem quarter3 : quarter 3 = true := by decide +kernel
theorem quarter4 : quarter 4 = true := by decide +kernel
theorem quarter5 : quarter 5 = true := by decide +kernel
theorem quarter6 : quarter 6 = true := by decide +kernel
theorem quarters {n : Nat} (h1 : 1 ≤ n) (h6 : n ≤ 6) : (stacksS n).length ≤ 4 * manyC (stacksS n) := by
  have key : quarter n = true := by
    have : n = 1 ∨ n = 2 ∨ n = 3 ∨ n = 4 ∨ n = 5 ∨ n = 6 := by omega
    rcases this with rfl | rfl | rfl | rfl | rfl | rfl
    · exact quarter1
    · exact quarter2
    · exact quarter3
    · exact quarter4
    · exact quarter5
    · exact quarter6
  have := of_decide_eq_true key
  rwa [manyS h1, manyC_perm (perms h1)] at this
/-- A possible stack's rank against the rank k of s. -/
theorem rank_ge {n k : Nat} {s a : List Int} (hs : (stacksS n)[k]? = some s) (ha : possL a = true) (hl : a.length = n) : decide ((k : Int) ≤ rankI a) = !decide (cmpL a s < 0) := by
  obtain ⟨i, hi, e⟩ := List.getElem_of_mem (poss_mem ha)
  have hi2 : (stacksS n)[i]? = some a := by rw [← hl, List.getElem?_eq_getElem hi, e]
  rw [rank_at hi2]
  obtain ⟨a1, a2⟩ := List.getElem?_eq_some_iff.1 hi2
  obtain ⟨b1, b2⟩ := List.getElem?_eq_some_iff.1 hs
  have hlt := List.pairwise_iff_getElem.1 (stacksS_sorted n)
  rcases Nat.lt_trichotomy i k with c | c | c
  · have := hlt i k a1 b1 c
    rw [a2, b2] at this
    rw [decide_eq_false (by omega), decide_eq_true this]
    rfl
  · subst c
    rw [a2] at b2
    rw [b2, cmpL_self, decide_eq_true (by omega)]
    rfl
  · have := hlt k i b1 a1 c
    rw [a2, b2] at this
    have h2 := cmpL_neg s a
    rw [decide_eq_true (by omega), decide_eq_false (by omega)]
    rfl
theorem le_not (x y : List Int) : decide (cmpL x y ≤ 0) = !decide (cmpL y x < 0) := by
  have := cmpL_neg x y
  by_cases h : cmpL x y ≤ 0
  · rw [decide_eq_true h, decide_eq_false (by omega)]; rfl
  · rw [decide_eq_false h, decide_eq_true (by omega)]; rfl
end Go.Proofs.Ytadpbbjahckoaaa
