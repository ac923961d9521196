/- The walks of WordText, of the program and of the reference. Conditions: each theorem's own premises. -/
import Derived.Test.YtalbokejljjflaaWordC
namespace Go.Proofs.Ytalbokejljjflaa
open Go.RowKit
/-- The letter of the crease in the middle. -/
def midLetter (l : List UInt8) : UInt8 := if l[l.length / 2]? = some 86 then 82 else 114
def wtN : Nat → List UInt8 → List UInt8
  | 0, _ => []
  | n + 1, l => if l.isEmpty then [] else midLetter l :: wtN n (l.take (l.length / 2))
theorem wtN_more : ∀ (n m : Nat) (l : List UInt8), l.length ≤ n → l.length ≤ m → wtN n l = wtN m l
  | 0, 0, _, _, _ => rfl
  | 0, m + 1, l, h, _ => by
    obtain rfl := List.eq_nil_of_length_eq_zero (Nat.le_zero.1 h)
    rfl
  | n + 1, 0, l, _, h => by
    obtain rfl := List.eq_nil_of_length_eq_zero (Nat.le_zero.1 h)
    rfl
  | n + 1, m + 1, l, h1, h2 => by
    unfold wtN
    by_cases hl : l = []
    · subst hl; rfl
    · have : 0 < l.length := List.length_pos_iff.2 hl
      rw [wtN_more n m (l.take (l.length / 2)) (by rw [List.length_take]; omega) (by rw [List.length_take]; omega)]
/-- The letters R and r of a text of creases, read off the middles. -/
def wt (l : List UInt8) : List UInt8 := wtN l.length l
theorem wt_nil : wt [] = [] := rfl
theorem wt_step (l : List UInt8) (h : 0 < l.length) : wt l = midLetter l :: wt (l.take (l.length / 2)) := by
  unfold wt
  obtain ⟨n, hn⟩ : ∃ n, l.length = n + 1 := ⟨l.length - 1, by omega⟩
  have hl : l.isEmpty = false := by
    cases l with
    | nil => simp at h
    | cons a r => rfl
  have e : wtN (n + 1) l = if l.isEmpty then [] else midLetter l :: wtN n (l.take (l.length / 2)) := rfl
  conv => lhs; rw [hn, e, hl]
  rw [wtN_more n (l.take (l.length / 2)).length _ (by rw [List.length_take]; omega) (Nat.le_refl _)]
  rfl
/-- What WordText returns. -/
def wordTextL (l : List UInt8) : List UInt8 := if wordOk l then wt l else []
theorem wordOk_len {s : ByteArray} (h : wordOk (bl s) = true) : s.size ≤ 63 := by
  unfold wordOk creas at h
  rw [bl_length] at h
  simp only [Bool.and_eq_true, decide_eq_true_eq] at h
  exact h.1.1.2
theorem mid_hit {t : ByteArray} {m : Nat} (hm : m = t.size / 2) (h : m < t.size) (hv : ((t[m].toNat : Int) == 86) = true) : midLetter (bl t) = 82 := by
  unfold midLetter
  subst hm
  rw [bl_length, bl_get t _ h, if_pos]
  have : t[t.size / 2] = 86 := byte_eq (n := 86) hv
  rw [this]
theorem mid_miss {t : ByteArray} {m : Nat} (hm : m = t.size / 2) (h : m < t.size) (hv : ((t[m].toNat : Int) == 86) = false) : midLetter (bl t) = 114 := by
  unfold midLetter
  subst hm
  rw [bl_length, bl_get t _ h, if_neg]
  intro e
  rw [Option.some.inj e] at hv
  exact absurd hv (by decide)
end Go.Proofs.Ytalbokejljjflaa
