/- Ranks of stacks in the order of the reference, in plain Lean. Conditions: each theorem's own premises. -/
import Derived.Test.YtadpbbjahckoaaaPlainM
import Derived.Test.YtadpbbjahckoaaaRankA
namespace Go.Proofs.Ytadpbbjahckoaaa
set_option maxRecDepth 100000
open Go.RowKit
theorem ahead_at {s : List Int} : ∀ {L : List (List Int)} {r : Nat}, L.Pairwise (fun x y => cmpL x y < 0) → L[r]? = some s → aheadN s L = r
  | [], _, _, h => by simp at h
  | y :: t, 0, hp, h => by
    have hy : y = s := by simpa using h
    subst hy
    obtain ⟨h1, h2⟩ := List.pairwise_cons.1 hp
    unfold aheadN
    rw [List.filter_cons, if_neg (by rw [decide_eq_true_eq, cmpL_self]; omega), List.filter_eq_nil_iff.2, List.length_nil]
    intro z hz
    have := h1 z hz
    have := cmpL_neg y z
    rw [decide_eq_true_eq]
    omega
  | y :: t, r + 1, hp, h => by
    obtain ⟨h1, h2⟩ := List.pairwise_cons.1 hp
    have ht : t[r]? = some s := by simpa using h
    have ih := ahead_at h2 ht
    have hy := h1 s (List.mem_of_getElem? ht)
    unfold aheadN at ih ⊢
    rw [List.filter_cons, if_pos (decide_eq_true hy), List.length_cons, ih]
theorem rank_at {n r : Nat} {s : List Int} (h : (stacksS n)[r]? = some s) : rankI s = (r : Int) := by
  obtain ⟨h1, h2⟩ := stacks_mem (List.mem_of_getElem? h)
  unfold rankI rankN
  rw [if_pos h2, h1, ahead_at (stacksS_sorted n) h]
theorem next_at {n r : Nat} {s t : List Int} (h : (stacksS n)[r]? = some s) (k : (stacksS n)[r + 1]? = some t) : cmpL s t < 0 := by
  obtain ⟨a1, a2⟩ := List.getElem?_eq_some_iff.1 h
  obtain ⟨b1, b2⟩ := List.getElem?_eq_some_iff.1 k
  have := List.pairwise_iff_getElem.1 (stacksS_sorted n) r (r + 1) a1 b1 (by omega)
  rwa [a2, b2] at this
theorem next_none {n r : Nat} {s : List Int} (h : (stacksS n)[r]? = some s) (k : (stacksS n)[r + 1]? = none) : (stacksS n).length = r + 1 := by
  obtain ⟨a1, a2⟩ := List.getElem?_eq_some_iff.1 h
  have := List.getElem?_eq_none_iff.1 k
  omega
theorem nth_some {n : Int} {r : Int} {s : List Int} (h : nthI n r = some s) : ∃ m k : Nat, n = m ∧ r = k ∧ 1 ≤ m ∧ m ≤ 7 ∧ (stacksS m)[k]? = some s := by
  unfold nthI at h
  by_cases c : inI n = true ∧ 0 ≤ r
  · rw [if_pos c] at h
    obtain ⟨m, rfl, h1, h7⟩ := inI_nat c.1
    exact ⟨m, r.toNat, rfl, by omega, h1, h7, h⟩
  · rw [if_neg c] at h
    cases h
theorem nth_at {m k : Nat} (h1 : 1 ≤ m) (h7 : m ≤ 7) : nthI m k = (stacksS m)[k]? := by
  unfold nthI
  rw [if_pos ⟨inI_of h1 h7, by omega⟩]
  rfl
theorem many_at {m : Nat} (h1 : 1 ≤ m) (h7 : m ≤ 7) : implMany m = ((stacksS m).length : Int) := by
  unfold implMany
  rw [if_pos (inI_of h1 h7)]
  show ((stacksL m).length : Int) = _
  rw [manyS h1]
end Go.Proofs.Ytadpbbjahckoaaa
