/- The walk of PathOnce of the reference. Conditions: each theorem's own premises. -/
import Derived.Test.YtalbokejljjflaaPathF
namespace Go.Proofs.Ytalbokejljjflaa
open Go.RowKit Go.Maps
theorem ne_parts {a b : Int × Int} (h : a ≠ b) : a.1 ≠ b.1 ∨ (a.1 = b.1 ∧ a.2 ≠ b.2) := by
  obtain ⟨a1, a2⟩ := a
  obtain ⟨b1, b2⟩ := b
  simp only [ne_eq, Prod.mk.injEq] at h ⊢
  omega
/-- The steps ahead of the k-th place differ from the m-th step. -/
def Differ (ps : List (Int × Int)) (m k : Nat) : Prop := ∀ (j : Nat) (x : (Int × Int) × (Int × Int)), j + 1 < k → sAt ps j = some x → sAt ps m ≠ some x
theorem differ_step {ps : List (Int × Int)} {m k k' : Nat} {a b c d : Int × Int} (h : Differ ps m k) (hk : k = k' + 1) (ha : ps[k']? = some a) (hb : ps[k]? = some b) (hc : ps[m]? = some c) (hd : ps[m + 1]? = some d) (hn : ¬ SameStep a b c d) : Differ ps m (k + 1) := by
  intro j x hj hx hm
  by_cases e : j + 1 < k
  · exact h j x e hx hm
  · have : j = k' := by omega
    subst this
    subst hk
    rw [sAt_some ha hb] at hx
    rw [sAt_some hc hd] at hm
    exact hn (stepN_same.1 ((Option.some.inj hx).trans (Option.some.inj hm).symm))
theorem differ_end {ps : List (Int × Int)} {m n : Nat} (hm : n = m + 1) (hO : OnceTo ps n) (h : Differ ps m n) : OnceTo ps (n + 1) := by
  intro i j x hij hi hx hj
  by_cases e : i + 1 < n
  · exact hO i j x hij e hx hj
  · have : i = m := by omega
    subst this
    exact h j x (by omega) hj hx
end Go.Proofs.Ytalbokejljjflaa
