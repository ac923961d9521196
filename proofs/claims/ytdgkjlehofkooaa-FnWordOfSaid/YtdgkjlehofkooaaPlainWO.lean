/- The plain law that letters make words, and that a word is made by the letters that its halves tell. No program in sight. Conditions: each theorem's own premises. -/
import Derived.Test.YtdgkjlehofkooaaPlainW
namespace Go.Proofs.Ytdgkjlehofkooaa.W
set_option maxRecDepth 100000
open Go.RowKit
theorem mid_mv (c : UInt8) : isMV (if 97 ≤ c.toNat then (77 : UInt8) else 86) = true := by split <;> decide
theorem ofL_mv : ∀ l : List UInt8, (ofL l).all isMV = true
  | [] => rfl
  | c :: t => by
    have ih := ofL_mv t
    show (join1 c (ofL t)).all isMV = true
    unfold join1
    split
    · rw [List.all_append, List.all_append, all_otherL, ih]
      simp only [List.all_cons, List.all_nil, mid_mv]
      rfl
    · rw [List.all_append, List.all_append, all_otherL, ih]
      simp only [List.all_cons, List.all_nil, mid_mv]
      rfl
theorem ofL_word : ∀ l : List UInt8, word (ofL l) = true
  | [] => rfl
  | c :: t => by
    have ih := ofL_word t
    obtain ⟨w, hw⟩ : ∃ w, w = ofL t := ⟨_, rfl⟩
    have hl := ofL_length t
    rw [← hw] at ih hl
    show word (join1 c (ofL t)) = true
    rw [← hw]
    unfold join1
    split
    · show word (w ++ _ :: otherL w) = true
      rw [word_mid _ _ _ (otherL_length w).symm, ih]
      simp
    · show word (otherL w ++ _ :: w) = true
      rw [word_mid _ _ _ (otherL_length w), otherL_otherL]
      by_cases h0 : w.length = 0
      · rw [List.eq_nil_of_length_eq_zero h0]; rfl
      · have hp : t.length ≠ 0 := by
          intro e
          rw [e] at hl
          have : pow2 0 = 1 := rfl
          omega
        obtain ⟨n, hn⟩ : ∃ n, t.length = n + 1 := ⟨t.length - 1, by omega⟩
        rw [hn, pow2_succ] at hl
        rw [word_otherL w (by omega), ih]
        simp
theorem plen_two (n : Nat) (h : n ≤ 6) (m : Nat) (hm : m + 1 = pow2 n) : plen m = true := by
  have key : ∀ n : Fin 7, plen (2 ^ n.val - 1) = true := by decide
  have := key ⟨n, by omega⟩
  unfold pow2 at hm
  rw [show m = 2 ^ n - 1 by omega]
  exact this
theorem ofL_ok (l : List UInt8) (h : l.length ≤ 6) : wordOk (ofL l) = true := by
  unfold wordOk creas
  rw [ofL_mv, ofL_word, plen_two l.length h _ (ofL_length l), decide_eq_true (ofL_bd l h)]
  rfl
theorem of_wt : ∀ (n : Nat) (l : List UInt8), l.length + 1 = pow2 n → word l = true → l.all isMV = true → ofL (wt l) = l ∧ (wt l).all wide8 = true
  | 0, l, hl, _, _ => by
    have : pow2 0 = 1 := rfl
    obtain rfl := List.eq_nil_of_length_eq_zero (show l.length = 0 by omega)
    exact ⟨rfl, rfl⟩
  | n + 1, l, hl, hw, hm => by
    have hp := pow2_pos n
    rw [pow2_succ] at hl
    obtain ⟨a, m, b, hab, ha, hb⟩ := mid_form l (by omega)
    have h0 : 0 < l.length := by omega
    have htake : l.take (l.length / 2) = a := by rw [← ha, hab]; simp
    have hmid : l[l.length / 2]? = some m := by rw [← ha, hab]; simp
    rw [hab, word_mid _ _ _ (by omega), Bool.and_eq_true, beq_iff_eq] at hw
    rw [hab, List.all_append, List.all_cons, Bool.and_eq_true, Bool.and_eq_true] at hm
    obtain ⟨i1, i2⟩ := of_wt n a (by omega) hw.1 hm.1
    have hmv : m = 77 ∨ m = 86 := by simpa [isMV] using hm.2.1
    rw [wt_step l h0, htake]
    have hc : midLetter l = if m = 86 then 82 else 114 := by
      unfold midLetter
      rw [hmid]
      by_cases e : m = 86
      · subst e; rfl
      · rw [if_neg e, if_neg (fun h => e (Option.some.inj h))]
    rw [hc]
    constructor
    · show join1 _ (ofL (wt a)) = l
      rw [i1, hab, hw.2]
      rcases hmv with rfl | rfl <;> rfl
    · rw [List.all_cons, i2]
      rcases hmv with rfl | rfl <;> rfl
theorem wordOf_back {l : List UInt8} (h : wordOfOk l = true) : wordOfOk (wt (ofL l)) = true ∧ ofL (wt (ofL l)) = ofL l ∧ (wt (ofL l)).length = l.length := by
  unfold wordOfOk at h
  rw [Bool.and_eq_true, decide_eq_true_eq] at h
  obtain ⟨h1, h2⟩ := of_wt l.length (ofL l) (ofL_length l) (ofL_word l) (ofL_mv l)
  have h3 := wt_length l.length (ofL l) (ofL_length l)
  refine ⟨?_, h1, h3⟩
  unfold wordOfOk
  rw [h2, decide_eq_true (by omega)]
  rfl
end Go.Proofs.Ytdgkjlehofkooaa.W
