/- The stack behind a stack, in plain Lean: the best of any order is the next one of the sorted order. Conditions: each theorem's own premises. -/
import Derived.Test.YtadpbbjahckoaaaPlainY
import Derived.Test.YtadpbbjahckoaaaRankC
namespace Go.Proofs.Ytadpbbjahckoaaa
set_option maxRecDepth 100000
open Go.RowKit
/-- What the search has found among these lists. -/
def Found (l : List Int) (xss : List (List Int)) : Option (List Int) → Prop
  | none => ∀ s ∈ xss, ¬ 0 < cmpL s l
  | some x => x ∈ xss ∧ 0 < cmpL x l ∧ ∀ s ∈ xss, 0 < cmpL s l → ¬ cmpL s x < 0
theorem found_step {l s : List Int} {xss : List (List Int)} {b : Option (List Int)} (h : Found l xss b) : Found l (xss ++ [s]) (stepN l b s) := by
  unfold stepN
  by_cases hc : 0 < cmpL s l
  · rw [if_pos hc]
    cases b with
    | none =>
      refine ⟨by simp, hc, fun t ht k => ?_⟩
      rcases List.mem_append.1 ht with ht | ht
      · exact absurd k (h t ht)
      · rw [List.mem_singleton.1 ht, cmpL_self]; omega
    | some x =>
      obtain ⟨h1, h2, h3⟩ := h
      show Found _ _ (if cmpL s x < 0 then some s else some x)
      by_cases hx : cmpL s x < 0
      · rw [if_pos hx]
        refine ⟨by simp, hc, fun t ht k => ?_⟩
        rcases List.mem_append.1 ht with ht | ht
        · intro e
          exact h3 t ht k (cmpL_trans e hx)
        · rw [List.mem_singleton.1 ht, cmpL_self]; omega
      · rw [if_neg hx]
        refine ⟨List.mem_append.2 (.inl h1), h2, fun t ht k => ?_⟩
        rcases List.mem_append.1 ht with ht | ht
        · exact h3 t ht k
        · rw [List.mem_singleton.1 ht]; exact hx
  · rw [if_neg hc]
    cases b with
    | none =>
      intro t ht
      rcases List.mem_append.1 ht with ht | ht
      · exact h t ht
      · rw [List.mem_singleton.1 ht]; exact hc
    | some x =>
      obtain ⟨h1, h2, h3⟩ := h
      refine ⟨List.mem_append.2 (.inl h1), h2, fun t ht k => ?_⟩
      rcases List.mem_append.1 ht with ht | ht
      · exact h3 t ht k
      · rw [List.mem_singleton.1 ht] at k; exact absurd k hc
theorem found_fold (l : List Int) : ∀ (ys xs : List (List Int)) (b : Option (List Int)), Found l xs b → Found l (xs ++ ys) (ys.foldl (stepN l) b)
  | [], xs, b, h => by rw [List.append_nil]; exact h
  | y :: ys, xs, b, h => by
    have := found_fold l ys (xs ++ [y]) (stepN l b y) (found_step h)
    rw [List.append_assoc] at this
    exact this
theorem nextN_found (l : List Int) (xss : List (List Int)) : Found l xss (nextN l xss) :=
  found_fold l xss [] none fun _ h => by cases h
theorem rank_of {l : List Int} (h : possL l = true) : ∃ r : Nat, rankI l = (r : Int) ∧ (stacksS l.length)[r]? = some l := by
  obtain ⟨i, hi, e⟩ := List.getElem_of_mem (poss_mem h)
  have hs : (stacksS l.length)[i]? = some l := by rw [List.getElem?_eq_getElem hi, e]
  exact ⟨i, rank_at hs, hs⟩
theorem next_is {l : List Int} {r : Nat} (h : possL l = true) (hr : (stacksS l.length)[r]? = some l) : nextI l = (stacksS l.length)[r + 1]? := by
  have h1 : 1 ≤ l.length := by
    obtain ⟨hrg, _⟩ := (poss_iff l).1 h
    unfold rangeN at hrg
    rw [decide_eq_true_eq] at hrg
    exact hrg.1
  unfold nextI
  rw [if_pos h]
  obtain ⟨n, hn⟩ : ∃ n, n = l.length := ⟨_, rfl⟩
  rw [← hn] at hr h1 ⊢
  have hF := nextN_found l (stacksL n)
  have hM : ∀ s, s ∈ stacksL n ↔ s ∈ stacksS n := fun s => (perms h1).mem_iff
  obtain ⟨a1, a2⟩ := List.getElem?_eq_some_iff.1 hr
  have hlt := List.pairwise_iff_getElem.1 (stacksS_sorted n)
  have hbig : ∀ (j : Nat) (s : List Int), (stacksS n)[j]? = some s → 0 < cmpL s l → r < j := by
    intro j s hj hs
    obtain ⟨b1, b2⟩ := List.getElem?_eq_some_iff.1 hj
    rcases Nat.lt_trichotomy j r with c | c | c
    · have := hlt j r b1 a1 c
      rw [a2, b2] at this
      omega
    · subst c
      rw [a2] at b2
      rw [← b2, cmpL_self] at hs
      omega
    · exact c
  cases hq : (stacksS n)[r + 1]? with
  | none =>
    have hlen := List.getElem?_eq_none_iff.1 hq
    cases hx : nextN l (stacksL n) with
    | none => rfl
    | some x =>
      rw [hx] at hF
      obtain ⟨f1, f2, _⟩ := hF
      obtain ⟨j, hj, e⟩ := List.getElem_of_mem ((hM x).1 f1)
      have := hbig j x (by rw [List.getElem?_eq_getElem hj, e]) f2
      omega
  | some t =>
    obtain ⟨t1, t2⟩ := List.getElem?_eq_some_iff.1 hq
    have htl : 0 < cmpL t l := by
      have := hlt r (r + 1) a1 t1 (by omega)
      rw [a2, t2] at this
      have := cmpL_neg l t
      omega
    have htm : t ∈ stacksL n := (hM t).2 (List.mem_of_getElem? hq)
    cases hx : nextN l (stacksL n) with
    | none =>
      rw [hx] at hF
      exact absurd htl (hF t htm)
    | some x =>
      rw [hx] at hF
      obtain ⟨f1, f2, f3⟩ := hF
      obtain ⟨j, hj, e⟩ := List.getElem_of_mem ((hM x).1 f1)
      have hjr := hbig j x (by rw [List.getElem?_eq_getElem hj, e]) f2
      rcases Nat.lt_or_ge (r + 1) j with c | c
      · have := hlt (r + 1) j t1 hj c
        rw [t2, e] at this
        exact absurd this (f3 t htm htl)
      · have hjj : j = r + 1 := by omega
        subst hjj
        rw [t2] at e
        rw [e]
end Go.Proofs.Ytadpbbjahckoaaa
