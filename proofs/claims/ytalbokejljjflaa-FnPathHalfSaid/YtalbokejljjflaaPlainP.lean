/- The plain law of FnPathHalf: the second half of a word's path is the first one, turned. Conditions: each theorem's own premises. -/
import Derived.Test.YtalbokejljjflaaPathA
namespace Go.Proofs.Ytalbokejljjflaa
open Go.RowKit
theorem turn_back (a c : UInt8) (d : Int × Int) (h : isMV a = true) : turn (swp a) (turn c (turn a d)) = turn c d := by
  have ha : a = 77 ∨ a = 86 := by simpa [isMV] using h
  obtain ⟨x, y⟩ := d
  rcases ha with rfl | rfl
  · by_cases hc : c = 86
    · subst hc; simp [turn, swp]
    · simp [turn, swp, hc]
  · by_cases hc : c = 86
    · subst hc; simp [turn, swp]
    · simp [turn, swp, hc]
theorem turn_add (c : UInt8) (d e : Int × Int) : turn c (d.1 + e.1, d.2 + e.2) = ((turn c d).1 + (turn c e).1, (turn c d).2 + (turn c e).2) := by
  unfold turn
  by_cases hc : c = 86
  · simp only [if_pos hc, Int.neg_add]
  · simp only [if_neg hc, Int.neg_add]
/-- The steps of a path gone back, each turned by c. -/
theorem fold_back (c : UInt8) (s : (Int × Int) × (Int × Int)) : ∀ (n : Nat) (x : List UInt8), x.length = n → x.all isMV = true → ∀ Q : Int × Int,
    (otherL x).foldl pstep (Q, turn c (x.foldl pstep s).2)
      = ((Q.1 + (turn c ((x.foldl pstep s).1.1 - s.1.1 + s.2.1 - (x.foldl pstep s).2.1, (x.foldl pstep s).1.2 - s.1.2 + s.2.2 - (x.foldl pstep s).2.2)).1,
          Q.2 + (turn c ((x.foldl pstep s).1.1 - s.1.1 + s.2.1 - (x.foldl pstep s).2.1, (x.foldl pstep s).1.2 - s.1.2 + s.2.2 - (x.foldl pstep s).2.2)).2), turn c s.2)
  | 0, x, hx, _, Q => by
    have : x = [] := List.length_eq_zero_iff.1 hx
    subst this
    unfold turn otherL
    by_cases hc : c = 86
    · simp [hc]
    · simp [hc]
  | n + 1, x, hx, hmv, Q => by
    obtain ⟨y, a, rfl⟩ : ∃ y a, x = y ++ [a] := ⟨x.dropLast, x.getLast (by intro h; simp [h] at hx), (List.dropLast_concat_getLast _).symm⟩
    have hy : y.length = n := by simpa using hx
    rw [List.all_append, Bool.and_eq_true] at hmv
    have ha : isMV a = true := by simpa using hmv.2
    have ho : otherL (y ++ [a]) = swp a :: otherL y := by simp [otherL]
    have hf : (y ++ [a]).foldl pstep s = pstep (y.foldl pstep s) a := by simp
    rw [ho, hf, List.foldl_cons]
    obtain ⟨S, hS⟩ : ∃ S, S = y.foldl pstep s := ⟨_, rfl⟩
    have ih := fold_back c s n y hy hmv.1
    rw [← hS] at ih ⊢
    have e1 : (pstep S a).2 = turn a S.2 := rfl
    have e2 : pstep (Q, turn c (turn a S.2)) (swp a) = ((Q.1 + (turn c S.2).1, Q.2 + (turn c S.2).2), turn c S.2) := by
      show (((Q.1 + (turn (swp a) (turn c (turn a S.2))).1, _), turn (swp a) (turn c (turn a S.2))) : (Int × Int) × (Int × Int)) = _
      rw [turn_back a c S.2 ha]
    rw [e1, e2, ih]
    have e3 : (pstep S a).1.1 = S.1.1 + (turn a S.2).1 := rfl
    have e4 : (pstep S a).1.2 = S.1.2 + (turn a S.2).2 := rfl
    rw [e3, e4]
    unfold turn
    by_cases hc : c = 86
    · simp only [if_pos hc, Prod.mk.injEq, and_true]; omega
    · simp only [if_neg hc, Prod.mk.injEq, and_true]; omega
/-- The end of a path whose second half is the first one, gone back. -/
theorem end_half (x : List UInt8) (c : UInt8) (hx : x.all isMV = true) :
    ((x ++ c :: otherL x).foldl pstep ((1, 0), (1, 0))).1 = ((x.foldl pstep ((1, 0), (1, 0))).1.1 + (turn c (x.foldl pstep ((1, 0), (1, 0))).1).1, (x.foldl pstep ((1, 0), (1, 0))).1.2 + (turn c (x.foldl pstep ((1, 0), (1, 0))).1).2) := by
  rw [List.foldl_append, List.foldl_cons]
  have key := fold_back c ((1, 0), (1, 0)) x.length x rfl hx
  obtain ⟨S, hS⟩ : ∃ S, S = x.foldl pstep ((1, 0), (1, 0)) := ⟨_, rfl⟩
  rw [← hS] at key ⊢
  have e : pstep S c = ((S.1.1 + (turn c S.2).1, S.1.2 + (turn c S.2).2), turn c S.2) := rfl
  rw [e, key]
  unfold turn
  by_cases hc : c = 86
  · simp only [if_pos hc, Prod.mk.injEq]; omega
  · simp only [if_neg hc, Prod.mk.injEq]; omega
end Go.Proofs.Ytalbokejljjflaa
