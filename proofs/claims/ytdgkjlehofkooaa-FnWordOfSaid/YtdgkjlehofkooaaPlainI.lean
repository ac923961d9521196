/- The plain law that a strip folded to the side has the creases of a word. The words' texts lie in the namespace W. Conditions: each theorem's own premises. -/
import Derived.Test.YtdgkjlehofkooaaPlainH
import Derived.Test.YtdgkjlehofkooaaWordE
namespace Go.Proofs.Ytdgkjlehofkooaa
set_option maxRecDepth 100000
open Go.RowKit
theorem cols_wide {l : List UInt8} (h : ∀ x ∈ l, wide (x.toNat : Int) = true) : colsOf l = 2 ^ l.length := by
  unfold colsOf
  rw [List.countP_eq_length.2 fun x hx => h x hx]
theorem swp_up {c : UInt8} (h : W.isMV c = true) : (W.swp c == 86) = !(c == 86) ∧ W.isMV (W.swp c) = true := by
  have ha : c = 77 ∨ c = 86 := by simpa [W.isMV] using h
  rcases ha with rfl | rfl <;> decide
/-- The creases of a sheet of one row are those of the word of its letters. -/
theorem word_right : ∀ {l : List UInt8}, sheetOk l = true → (∀ x ∈ l, wide (x.toNat : Int) = true) → ∀ (k : Nat) (c : UInt8), (W.ofL l)[k]? = some c → rU l 0 k = some (c == 86) ∧ W.isMV c = true
  | [], _, _, k, c, h => by
    have : W.ofL [] = [] := rfl
    rw [this] at h
    simp at h
  | d :: t, hok, hw, k, c, h => by
    have ht := ok_tail hok
    have hwt : ∀ x ∈ t, wide (x.toNat : Int) = true := fun x hx => hw x (List.mem_cons_of_mem _ hx)
    have hd := hw d List.mem_cons_self
    have hl := (ok_is hok).1 d List.mem_cons_self
    have hh : high (d.toNat : Int) = false := by
      have := letter_high hl
      rw [hd] at this
      cases e : high (d.toNat : Int)
      · rfl
      · rw [e] at this; cases this
    have hlen := W.ofL_length t
    obtain ⟨w, hwd⟩ : ∃ w, w = W.ofL t := ⟨_, rfl⟩
    obtain ⟨n, hn⟩ : ∃ n, n = w.length := ⟨_, rfl⟩
    have hC : colsOf t = n + 1 := by
      rw [cols_wide hwt, hn, hwd]
      unfold W.pow2 at hlen
      omega
    have hR : rowsOf t = 1 := no_high_rows fun x hx => by
      have h7 := hwt x hx
      rw [letter_high ((ok_is ht).1 x hx)] at h7
      simpa using h7
    have ih : ∀ (q : Nat) (x : UInt8), w[q]? = some x → rU t 0 q = some (x == 86) ∧ W.isMV x = true := fun q x hx => word_right ht hwt q x (by rw [← hwd]; exact hx)
    have hmid : rU (d :: t) 0 n = some ((if 97 ≤ d.toNat then (77 : UInt8) else 86) == 86) ∧ W.isMV (if 97 ≤ d.toNat then (77 : UInt8) else 86) = true := by
      have := rU_wide_mid hok hh (row := 0) (Int.le_refl _) (by omega)
      rw [hC, show ((n + 1 : Nat) : Int) - 1 = (n : Int) by omega] at this
      rw [this]
      unfold under
      by_cases e : 97 ≤ d.toNat
      · rw [if_pos e, decide_eq_true e]; decide
      · rw [if_neg e, decide_eq_false e]; decide
    have hother : ∀ (i : Nat) (x : UInt8), (W.otherL w)[i]? = some x → i < n ∧ ∃ y, w[n - 1 - i]? = some y ∧ x = W.swp y := fun i x hx => by
      unfold W.otherL at hx
      rw [List.getElem?_map, Option.map_eq_some_iff] at hx
      obtain ⟨y, hy, rfl⟩ := hx
      have hi : i < w.length := by have := (List.getElem?_eq_some_iff.1 hy).1; simpa using this
      rw [List.getElem?_reverse hi] at hy
      exact ⟨by omega, y, by rw [hn]; exact hy, rfl⟩
    have ol : (W.otherL w).length = n := by rw [W.otherL_length, hn]
    have hstay : ∀ (q : Nat) (x : UInt8), w[q]? = some x → ∀ K : Int, K = offS (fstC d) (colsOf t) + q → rU (d :: t) 0 K = some (x == 86) ∧ W.isMV x = true := fun q x hx K hK => by
      have hq : q < w.length := (List.getElem?_eq_some_iff.1 hx).1
      rw [hK, rU_wide_stay hok hh (Int.le_refl _) (by omega) (by omega) (by omega)]
      exact ih q x hx
    have hmove : ∀ (q : Nat) (y : UInt8), w[q]? = some y → ∀ K : Int, K = offM (fstC d) (colsOf t) - 1 - q → rU (d :: t) 0 K = some (W.swp y == 86) ∧ W.isMV (W.swp y) = true := fun q y hy K hK => by
      have hq : q < w.length := (List.getElem?_eq_some_iff.1 hy).1
      obtain ⟨i1, i2⟩ := ih q y hy
      rw [hK, rU_wide_move hok hh (Int.le_refl _) (by omega) (by omega) (by omega), i1]
      obtain ⟨s1, s2⟩ := swp_up i2
      rw [s1]
      exact ⟨rfl, s2⟩
    have hj : W.ofL (d :: t) = W.join1 d w := by rw [hwd]; rfl
    rw [hj] at h
    unfold W.join1 at h
    by_cases hf : d = 82 ∨ d = 114
    · have hfst : fstC d = false := by rcases hf with rfl | rfl <;> decide
      rw [hfst] at hstay hmove
      rw [if_pos hf] at h
      by_cases k1 : k < n
      · rw [List.getElem?_append_left (by omega)] at h
        exact hstay k c h k (by unfold offS; simp)
      · rw [List.getElem?_append_right (by omega), ← hn] at h
        by_cases k2 : k = n
        · subst k2
          rw [Nat.sub_self] at h
          have h : some (if 97 ≤ d.toNat then (77 : UInt8) else 86) = some c := h
          obtain rfl := Option.some.inj h
          exact hmid
        · rw [List.getElem?_append_right (by simp; omega)] at h
          obtain ⟨k3, y, hy, rfl⟩ := hother _ _ h
          simp only [List.length_singleton] at hy k3
          exact hmove _ y hy k (by rw [hC]; unfold offM; simp; omega)
    · have hfst : fstC d = true := by
        rcases letter_is hl with rfl | rfl | rfl | rfl | rfl | rfl | rfl | rfl <;> first | decide | (exfalso; exact hf (by decide)) | (exfalso; revert hh; decide)
      rw [hfst] at hstay hmove
      rw [if_neg hf] at h
      by_cases k1 : k < n
      · rw [List.getElem?_append_left (by omega)] at h
        obtain ⟨k3, y, hy, rfl⟩ := hother _ _ h
        exact hmove _ y hy k (by rw [hC]; unfold offM; simp; omega)
      · rw [List.getElem?_append_right (by omega), ol] at h
        by_cases k2 : k = n
        · subst k2
          rw [Nat.sub_self] at h
          have h : some (if 97 ≤ d.toNat then (77 : UInt8) else 86) = some c := h
          obtain rfl := Option.some.inj h
          exact hmid
        · rw [List.getElem?_append_right (by simp; omega)] at h
          simp only [List.length_singleton] at h
          have hq := (List.getElem?_eq_some_iff.1 h).1
          exact hstay _ c h k (by rw [hC]; unfold offS; simp; omega)
end Go.Proofs.Ytdgkjlehofkooaa
