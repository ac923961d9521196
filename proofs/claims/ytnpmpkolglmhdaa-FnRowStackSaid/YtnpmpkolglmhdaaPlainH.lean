/- The plain law of folded sheets: creases of several rows, and of sheets that are folded in one direction first. Conditions: each theorem's own premises. -/
import Derived.Test.YtnpmpkolglmhdaaPlainG
namespace Go.Proofs.Ytnpmpkolglmhdaa
open Go.RowKit
theorem wide_cases (fst : Bool) {C : Nat} {col : Int} (h1 : 0 ≤ col) (h2 : col + 1 < 2 * C) : col = C - 1 ∨ (∃ q : Int, 0 ≤ q ∧ q + 1 < C ∧ col = offS fst C + q) ∨ (∃ q : Int, 0 ≤ q ∧ q + 1 < C ∧ col = offM fst C - 1 - q) := by
  by_cases e : col = C - 1
  · exact .inl e
  · cases fst
    · by_cases h : col + 1 < C
      · exact .inr (.inl ⟨col, h1, h, by unfold offS; simp⟩)
      · exact .inr (.inr ⟨2 * C - 2 - col, by omega, by omega, by unfold offM; simp; omega⟩)
    · by_cases h : col + 1 < C
      · exact .inr (.inr ⟨C - 2 - col, by omega, by omega, by unfold offM; simp; omega⟩)
      · exact .inr (.inl ⟨col - C, by omega, by omega, by unfold offS; simp; omega⟩)
theorem high_cases (fst : Bool) {R : Nat} {row : Int} (h1 : 0 ≤ row) (h2 : row < 2 * R) : (∃ q : Int, 0 ≤ q ∧ q < R ∧ row = offS fst R + q) ∨ (∃ q : Int, 0 ≤ q ∧ q < R ∧ row = offM fst R - q) := by
  cases fst
  · by_cases h : row < R
    · exact .inl ⟨row, h1, h, by unfold offS; simp⟩
    · exact .inr ⟨2 * R - 1 - row, by omega, by omega, by unfold offM; simp; omega⟩
  · by_cases h : row < R
    · exact .inr ⟨R - 1 - row, by omega, by omega, by unfold offM; simp; omega⟩
    · exact .inl ⟨row - R, by omega, by omega, by unfold offS; simp; omega⟩
theorem off_odd (fst : Bool) (R : Nat) : (offM fst R - offS fst R) % 2 ≠ 0 := by
  unfold offM offS
  cases fst <;> simp <;> omega
theorem no_wide_cols {t : List UInt8} (h : ∀ x ∈ t, wide (x.toNat : Int) = false) : colsOf t = 1 := by
  unfold colsOf
  rw [List.countP_eq_zero.2 fun x hx => by rw [h x hx]; simp]
theorem no_high_rows {t : List UInt8} (h : ∀ x ∈ t, high (x.toNat : Int) = false) : rowsOf t = 1 := by
  unfold rowsOf
  rw [List.countP_eq_zero.2 fun x hx => by rw [h x hx]; simp]
/-- Behind each high letter there are only high ones. -/
def WideFirst (l : List UInt8) : Prop := ∀ (j : Nat) (a b : UInt8), l[j]? = some a → l[j + 1]? = some b → wide (b.toNat : Int) = true → wide (a.toNat : Int) = true
/-- Behind each wide letter there are only wide ones. -/
def WideLast (l : List UInt8) : Prop := ∀ (j : Nat) (a b : UInt8), l[j]? = some a → l[j + 1]? = some b → wide (a.toNat : Int) = true → wide (b.toNat : Int) = true
theorem WideFirst.tail {c : UInt8} {t : List UInt8} (h : WideFirst (c :: t)) : WideFirst t := fun j a b ha hb => h (j + 1) a b (by simpa using ha) (by simpa using hb)
theorem WideLast.tail {c : UInt8} {t : List UInt8} (h : WideLast (c :: t)) : WideLast t := fun j a b ha hb => h (j + 1) a b (by simpa using ha) (by simpa using hb)
theorem first_none : ∀ {t : List UInt8} {c : UInt8}, WideFirst (c :: t) → wide (c.toNat : Int) = false → ∀ x ∈ t, wide (x.toNat : Int) = false
  | [], _, _, _, x, hx => by cases hx
  | d :: t, c, h, hc, x, hx => by
    have hd : wide (d.toNat : Int) = false := by
      cases e : wide (d.toNat : Int) with
      | false => rfl
      | true =>
        have := h 0 c d rfl rfl e
        rw [hc] at this
        cases this
    rcases List.mem_cons.1 hx with rfl | hx
    · exact hd
    · exact first_none h.tail hd x hx
theorem last_all : ∀ {t : List UInt8} {c : UInt8}, WideLast (c :: t) → wide (c.toNat : Int) = true → ∀ x ∈ t, wide (x.toNat : Int) = true
  | [], _, _, _, x, hx => by cases hx
  | d :: t, c, h, hc, x, hx => by
    have hd : wide (d.toNat : Int) = true := h 0 c d rfl rfl hc
    rcases List.mem_cons.1 hx with rfl | hx
    · exact hd
    · exact last_all h.tail hd x hx
/-- Folded to the side first: all rows have the same creases. -/
theorem crease_first : ∀ {l : List UInt8}, sheetOk l = true → WideFirst l → ∀ {r r' col : Int}, 0 ≤ r → r < rowsOf l → 0 ≤ r' → r' < rowsOf l → 0 ≤ col → col + 1 < colsOf l → rU l r' col = rU l r col
  | [], _, _, _, _, _, _, _, _, _, h5, h6 => by
    have : colsOf [] = 1 := rfl
    omega
  | c :: t, hok, hf, r, r', col, h1, h2, h3, h4, h5, h6 => by
    have hl := (ok_is hok).1 c List.mem_cons_self
    have ht := ok_tail hok
    rw [rowsOf_cons] at h2 h4
    rw [colsOf_cons, letter_high hl] at h6
    cases hh : high (c.toNat : Int) with
    | true =>
      rw [hh] at h6
      have := no_wide_cols (first_none hf (by rw [letter_high hl, hh]; rfl))
      simp at h6
      omega
    | false =>
      rw [hh] at h2 h4 h6
      simp only [Bool.not_false, if_true, Bool.false_eq_true, if_false] at h2 h4 h6
      rcases wide_cases (fstC c) h5 (show col + 1 < 2 * (colsOf t : Nat) by omega) with e | ⟨q, q1, q2, e⟩ | ⟨q, q1, q2, e⟩
      · rw [e, rU_wide_mid hok hh h3 h4, rU_wide_mid hok hh h1 h2]
      · rw [e, rU_wide_stay hok hh h3 h4 q1 q2, rU_wide_stay hok hh h1 h2 q1 q2]
        exact crease_first ht hf.tail h1 h2 h3 h4 q1 q2
      · rw [e, rU_wide_move hok hh h3 h4 q1 q2, rU_wide_move hok hh h1 h2 q1 q2]
        rw [crease_first ht hf.tail h1 h2 h3 h4 q1 q2]
theorem not_not_map (X : Option Bool) : (X.map not).map not = X := by cases X <;> simp
/-- Folded to the side last: rows that are neighbors have opposite creases. -/
theorem crease_last : ∀ {l : List UInt8}, sheetOk l = true → WideLast l → ∀ {r r' col : Int}, 0 ≤ r → r < rowsOf l → 0 ≤ r' → r' < rowsOf l → 0 ≤ col → col + 1 < colsOf l →
    ((r' - r) % 2 = 0 → rU l r' col = rU l r col) ∧ ((r' - r) % 2 ≠ 0 → rU l r' col = (rU l r col).map not)
  | [], _, _, _, _, _, _, _, _, _, h5, h6 => by
    have : colsOf [] = 1 := rfl
    omega
  | c :: t, hok, hf, r, r', col, h1, h2, h3, h4, h5, h6 => by
    have hl := (ok_is hok).1 c List.mem_cons_self
    have ht := ok_tail hok
    cases hh : high (c.toNat : Int) with
    | false =>
      have hw : wide (c.toNat : Int) = true := by rw [letter_high hl, hh]; rfl
      have hr1 : rowsOf (c :: t) = 1 := no_high_rows fun x hx => by
        rcases List.mem_cons.1 hx with rfl | hx
        · exact hh
        · have h7 := last_all hf hw x hx
          rw [letter_high ((ok_is ht).1 x hx)] at h7
          simpa using h7
      rw [hr1] at h2 h4
      have e1 : r = 0 := by omega
      have e2 : r' = 0 := by omega
      subst e1 e2
      exact ⟨fun _ => rfl, fun h => absurd (by decide) h⟩
    | true =>
      rw [rowsOf_cons, hh] at h2 h4
      rw [colsOf_cons, letter_high hl, hh] at h6
      simp only [Bool.not_true, if_true, Bool.false_eq_true, if_false] at h2 h4 h6
      have ho := off_odd (fstC c) (rowsOf t)
      rcases high_cases (fstC c) h1 (show r < 2 * (rowsOf t : Nat) by omega) with ⟨q, q1, q2, e⟩ | ⟨q, q1, q2, e⟩ <;>
        rcases high_cases (fstC c) h3 (show r' < 2 * (rowsOf t : Nat) by omega) with ⟨p, p1, p2, e'⟩ | ⟨p, p1, p2, e'⟩ <;>
        obtain ⟨i1, i2⟩ := crease_last ht hf.tail q1 q2 p1 p2 h5 h6 <;>
        rw [e, e']
      · rw [rU_high_stay hok hh q1 q2 h5 h6, rU_high_stay hok hh p1 p2 h5 h6]
        exact ⟨fun h => i1 (by omega), fun h => i2 (by omega)⟩
      · rw [rU_high_stay hok hh q1 q2 h5 h6, rU_high_move hok hh p1 p2 h5 h6]
        exact ⟨fun h => by rw [i2 (by omega), not_not_map], fun h => by rw [i1 (by omega)]⟩
      · rw [rU_high_move hok hh q1 q2 h5 h6, rU_high_stay hok hh p1 p2 h5 h6]
        exact ⟨fun h => i2 (by omega), fun h => by rw [i1 (by omega), not_not_map]⟩
      · rw [rU_high_move hok hh q1 q2 h5 h6, rU_high_move hok hh p1 p2 h5 h6]
        exact ⟨fun h => by rw [i1 (by omega)], fun h => by rw [i2 (by omega)]⟩
end Go.Proofs.Ytnpmpkolglmhdaa
