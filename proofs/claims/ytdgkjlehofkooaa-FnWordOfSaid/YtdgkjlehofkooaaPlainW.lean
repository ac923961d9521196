/- Plain laws on words of folds: the other side of the other side; halves; halves and even places tell the same. No program in sight. Conditions: each theorem's own premises. -/
import Derived.Test.YtdgkjlehofkooaaWordD
import Derived.Test.YtdgkjlehofkooaaWordE
namespace Go.Proofs.Ytdgkjlehofkooaa.W
set_option maxRecDepth 100000
open Go.RowKit
theorem swp_swp (c : UInt8) : swp (swp c) = c := by
  unfold swp
  by_cases h1 : c = 77
  · subst h1; decide
  · by_cases h2 : c = 86
    · subst h2; decide
    · rw [if_neg h1, if_neg h2, if_neg h1, if_neg h2]
theorem isMV_swp (c : UInt8) : isMV (swp c) = isMV c := by
  unfold swp
  by_cases h1 : c = 77
  · subst h1; decide
  · by_cases h2 : c = 86
    · subst h2; decide
    · rw [if_neg h1, if_neg h2]
theorem swp_ne {c : UInt8} (h : isMV c = true) : swp c ≠ c := by
  simp only [isMV, Bool.or_eq_true, beq_iff_eq] at h
  rcases h with rfl | rfl <;> decide
theorem swp_other {c d : UInt8} (hc : isMV c = true) (hd : isMV d = true) (h : c ≠ d) : d = swp c := by
  simp only [isMV, Bool.or_eq_true, beq_iff_eq] at hc hd
  rcases hc with rfl | rfl <;> rcases hd with rfl | rfl <;> first | decide | exact absurd rfl h
theorem otherL_otherL (l : List UInt8) : otherL (otherL l) = l := by
  unfold otherL
  rw [← List.map_reverse, List.reverse_reverse, List.map_map]
  conv => rhs; rw [← List.map_id l]
  exact List.map_congr_left fun c _ => swp_swp c
theorem otherL_append (a b : List UInt8) : otherL (a ++ b) = otherL b ++ otherL a := by
  unfold otherL
  rw [List.reverse_append, List.map_append]
theorem all_otherL (l : List UInt8) : (otherL l).all isMV = l.all isMV := by
  unfold otherL
  rw [List.all_map, List.all_reverse]
  congr 1
  funext c
  exact isMV_swp c
theorem creas_otherL (l : List UInt8) : creas (otherL l) = creas l := by
  unfold creas
  rw [all_otherL, otherL_length]
theorem otherL_inj {a b : List UInt8} (h : otherL a = otherL b) : a = b := by rw [← otherL_otherL a, h, otherL_otherL]
/-- M minus V. -/
def bal (l : List UInt8) : Int := (l.countP (· == 77) : Int) - (l.countP (· == 86) : Int)
theorem bal_otherL (l : List UInt8) : bal (otherL l) = 0 - bal l := by
  unfold bal otherL
  rw [List.countP_map, List.countP_map, List.countP_reverse, List.countP_reverse]
  have h1 : ((fun c : UInt8 => c == 77) ∘ swp) = fun c => c == 86 := by
    funext c
    show (swp c == 77) = (c == 86)
    unfold swp
    by_cases h1 : c = 77
    · subst h1; decide
    · by_cases h2 : c = 86
      · subst h2; decide
      · rw [if_neg h1, if_neg h2, Bool.eq_iff_iff]; simp only [beq_iff_eq]; exact ⟨fun h => absurd h (by assumption), fun h => absurd h (by assumption)⟩
  have h2 : ((fun c : UInt8 => c == 86) ∘ swp) = fun c => c == 77 := by
    funext c
    show (swp c == 86) = (c == 77)
    unfold swp
    by_cases h1 : c = 77
    · subst h1; decide
    · by_cases h2 : c = 86
      · subst h2; decide
      · rw [if_neg h1, if_neg h2, Bool.eq_iff_iff]; simp only [beq_iff_eq]; exact ⟨fun h => absurd h (by assumption), fun h => absurd h (by assumption)⟩
  rw [h1, h2]
  omega
/-- A text of odd length, cut in the middle. -/
theorem word_mid (a b : List UInt8) (m : UInt8) (h : a.length = b.length) : word (a ++ m :: b) = (word a && (b == otherL a)) := by
  have hl : (a ++ m :: b).length = 2 * a.length + 1 := by rw [List.length_append, List.length_cons]; omega
  rw [word_step _ (by omega), hl, show (2 * a.length + 1) / 2 = a.length from by omega, List.take_left' rfl]
  have e : (a ++ m :: b).drop (a.length + 1) = b := by
    rw [List.drop_append]
    simp
  rw [e]
theorem mid_form (l : List UInt8) (h : l.length % 2 = 1) : ∃ a m b, l = a ++ m :: b ∧ a.length = l.length / 2 ∧ b.length = l.length / 2 := by
  have hlt : l.length / 2 < l.length := by omega
  refine ⟨l.take (l.length / 2), l[l.length / 2], l.drop (l.length / 2 + 1), ?_, by rw [List.length_take]; omega, by rw [List.length_drop]; omega⟩
  rw [← List.drop_eq_getElem_cons hlt, List.take_append_drop]
theorem word_otherL (l : List UInt8) (h : l.length % 2 = 1) : word (otherL l) = word l := by
  obtain ⟨a, m, b, hl, ha, hb⟩ := mid_form l h
  have e : otherL l = otherL b ++ swp m :: otherL a := by
    rw [hl, otherL_append]
    have : otherL (m :: b) = otherL b ++ [swp m] := by
      show ((m :: b).reverse).map swp = _
      rw [List.reverse_cons, List.map_append]
      rfl
    rw [this, List.append_assoc]
    try rfl
  rw [e, word_mid _ _ _ (by rw [otherL_length, otherL_length]; omega), otherL_otherL, hl, word_mid _ _ _ (by omega)]
  by_cases hc : b = otherL a
  · subst hc
    rw [otherL_otherL]
  · have h1 : (b == otherL a) = false := by simpa using hc
    have h2 : (otherL a == b) = false := by simpa using fun h => hc h.symm
    rw [h1, h2, Bool.and_false, Bool.and_false]
theorem wordOk_otherL (l : List UInt8) : wordOk (otherL l) = wordOk l := by
  unfold wordOk
  rw [creas_otherL, otherL_length]
  cases h1 : creas l with
  | false => rfl
  | true =>
    cases h2 : plen l.length with
    | false => rfl
    | true =>
      by_cases h0 : l.length = 0
      · rw [List.eq_nil_of_length_eq_zero h0]; rfl
      · have hl : l.length ≤ 63 := by
          unfold creas at h1
          simp only [Bool.and_eq_true, decide_eq_true_eq] at h1
          exact h1.2
        have := plen_odd l.length hl (by omega)
        rw [h2] at this
        have hodd : l.length % 2 = 1 := by
          have := this.symm
          simp only [Bool.and_eq_true, decide_eq_true_eq] at this
          exact this.1
        rw [word_otherL l hodd]
theorem creas_take {l : List UInt8} (h : creas l = true) (k : Nat) : creas (l.take k) = true := by
  unfold creas at *
  simp only [Bool.and_eq_true, List.all_eq_true, decide_eq_true_eq] at *
  exact ⟨fun c hc => h.1 c (List.mem_of_mem_take hc), by rw [List.length_take]; omega⟩
theorem wordOk_half {l : List UInt8} (h : wordOk l = true) : wordOk (l.take (l.length / 2)) = true := by
  unfold wordOk at *
  simp only [Bool.and_eq_true] at *
  obtain ⟨⟨h1, h2⟩, h3⟩ := h
  refine ⟨⟨creas_take h1 _, ?_⟩, ?_⟩
  · rw [List.length_take, Nat.min_eq_left (by omega)]
    exact plen_half _ h2
  · by_cases h0 : l.length = 0
    · rw [List.eq_nil_of_length_eq_zero h0]; rfl
    · rw [word_step l (by omega)] at h3
      simp only [Bool.and_eq_true] at h3
      exact h3.1
theorem wt_length (n : Nat) : ∀ l : List UInt8, l.length + 1 = pow2 n → (wt l).length = n := by
  induction n with
  | zero =>
    intro l h
    have h1 : pow2 0 = 1 := rfl
    rw [List.eq_nil_of_length_eq_zero (l := l) (by omega)]
    rfl
  | succ n ih =>
    intro l h
    have h1 := pow2_pos n
    rw [pow2_succ] at h
    have hl : 0 < l.length := by omega
    rw [wt_step l hl, List.length_cons, ih _ (by rw [List.length_take]; omega)]
theorem plen_pow (n : Nat) (h : plen n = true) : ∃ k, k ≤ 6 ∧ n + 1 = pow2 k := by
  unfold plen at h
  simp only [List.contains_cons, List.contains_nil, Bool.or_false, Bool.or_eq_true, beq_iff_eq] at h
  rcases h with rfl | rfl | rfl | rfl | rfl | rfl | rfl
  · exact ⟨0, by omega, rfl⟩
  · exact ⟨1, by omega, rfl⟩
  · exact ⟨2, by omega, rfl⟩
  · exact ⟨3, by omega, rfl⟩
  · exact ⟨4, by omega, rfl⟩
  · exact ⟨5, by omega, rfl⟩
  · exact ⟨6, by omega, rfl⟩
end Go.Proofs.Ytdgkjlehofkooaa.W
