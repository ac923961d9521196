/- The walks of SheetCorner, of the program and of the reference. Conditions: each theorem's own premises. -/
import Derived.Test.YtnpmpkolglmhdaaStackO
namespace Go.Proofs.Ytnpmpkolglmhdaa
open Go.RowKit
theorem putC_left {un hi : Bool} {a b : List Cel} {x : Cel} (h : x ∈ a) : x ∈ putC un hi a b := by
  unfold putC
  cases un <;> simp [h]
theorem putC_right {un hi : Bool} {a b : List Cel} {x : Cel} (h : x ∈ b) : turnC hi x ∈ putC un hi a b := by
  have : turnC hi x ∈ b.reverse.map (turnC hi) := List.mem_map.2 ⟨x, by simpa using h, rfl⟩
  unfold putC
  cases un
  · exact List.mem_append_right _ this
  · exact List.mem_append_left _ this
/-- Each cell of R rows and C columns lies in one of the stacks. -/
def Covers (s : Sheet) (R C : Nat) : Prop := ∀ r c : Nat, r < R → c < C → ∃ r' c', r' < s.R ∧ c' < s.C ∧ ∃ x ∈ s.f r' c', x.row = r ∧ x.col = c
/-- A place behind a fold at which the place i ahead of it lies. -/
theorem place_of (fst : Bool) {half i : Nat} (h : i < 2 * half) : ∃ j, j < half ∧ (stays fst half j = i ∨ moves fst half j = i) := by
  unfold stays moves
  cases fst
  · by_cases hi : i < half
    · exact ⟨i, hi, .inl rfl⟩
    · exact ⟨2 * half - 1 - i, by omega, .inr (by simp; omega)⟩
  · by_cases hi : i < half
    · exact ⟨half - 1 - i, by omega, .inr (by simp; omega)⟩
    · exact ⟨i - half, by omega, .inl (by simp; omega)⟩
theorem covers_step {s : Sheet} {c : UInt8} {R C : Nat} (hF : Foldable s c) (h : Covers s R C) : Covers (stepS s c) R C := by
  intro r k hr hk
  obtain ⟨r', c', h1, h2, x, hx, e1, e2⟩ := h r k hr hk
  unfold stepS
  cases hi : high (c.toNat : Int) with
  | true =>
    obtain ⟨e, b⟩ := hF.h hi
    simp only [if_true]
    obtain ⟨j, hj, hp⟩ := place_of (fstC c) (show r' < 2 * (s.R / 2) by omega)
    refine ⟨j, c', hj, h2, ?_⟩
    rcases hp with hp | hp
    · refine ⟨x, ?_, e1, e2⟩
      unfold foldH
      exact putC_left (by rw [hp]; exact hx)
    · refine ⟨turnC true x, ?_, e1, e2⟩
      unfold foldH
      exact putC_right (by rw [hp]; exact hx)
  | false =>
    obtain ⟨e, b⟩ := hF.w hi
    simp only [Bool.false_eq_true, if_false]
    obtain ⟨j, hj, hp⟩ := place_of (fstC c) (show c' < 2 * (s.C / 2) by omega)
    refine ⟨r', j, h1, hj, ?_⟩
    rcases hp with hp | hp
    · refine ⟨x, ?_, e1, e2⟩
      unfold foldW
      exact putC_left (by rw [hp]; exact hx)
    · refine ⟨turnC false x, ?_, e1, e2⟩
      unfold foldW
      exact putC_right (by rw [hp]; exact hx)
theorem covers_to {l : List UInt8} (hok : sheetOk l = true) : ∀ k, k ≤ l.length → Covers (sheetTo l k) (rowsOf l) (colsOf l)
  | 0, _ => by
    rw [sheetTo_zero]
    intro r c hr hc
    exact ⟨r, c, hr, hc, ⟨r, c, true, true⟩, List.mem_singleton.2 rfl, rfl, rfl⟩
  | k + 1, hk => by
    rw [sheetTo_succ l k (by omega)]
    exact covers_step (foldable hok k (by omega)) (covers_to hok k (by omega))
/-- Each cell is in the stack. -/
theorem lv_some {l : List UInt8} {row col : Int} (hok : sheetOk l = true) (hin : inR (rowsOf l) (colsOf l) row col = true) : ∃ k, lv l row col = some k := by
  have hin : 0 ≤ row ∧ row < (rowsOf l : Int) ∧ 0 ≤ col ∧ col < (colsOf l : Int) := of_decide_eq_true hin
  obtain ⟨d1, d2⟩ := end_dims hok
  obtain ⟨r', c', h1, h2, x, hx, e1, e2⟩ := covers_to hok l.length (Nat.le_refl _) row.toNat col.toNat (by omega) (by omega)
  obtain rfl : r' = 0 := by omega
  obtain rfl : c' = 0 := by omega
  have hx : x ∈ stackC l := hx
  have e1 : x.row = row := by omega
  have e2 : x.col = col := by omega
  have hv : lv l row col = findC (stackC l) row col := by unfold lv; rw [if_pos hok]
  cases h : findC (stackC l) row col with
  | some k => exact ⟨k, by rw [hv, h]⟩
  | none =>
    obtain ⟨j, hj⟩ := List.mem_iff_getElem?.1 hx
    exact absurd ⟨e1, e2⟩ (find_none h j x hj)
theorem crease_full (l : List UInt8) (a b : Nat) : (creaseC l (some a) (some b)).size = 1 := by
  rw [creaseC_some]
  cases (celOf l (min a b)).up <;> rfl
theorem crease_empty {l : List UInt8} {a b : Option Nat} (h : (creaseC l a b).size = 1) : (∃ x, a = some x) ∧ ∃ y, b = some y := by
  cases a with
  | none => rw [creaseC_none] at h; exact absurd h (by decide)
  | some a =>
    cases b with
    | none => rw [creaseC_none2] at h; exact absurd h (by decide)
    | some b => exact ⟨⟨a, rfl⟩, ⟨b, rfl⟩⟩
/-- The four creases that meet at a corner. -/
def cornerS (l : List UInt8) (row col : Int) : ByteArray := rightC l row col ++ downC l row (col + 1) ++ rightC l (row + 1) col ++ downC l row col
/-- There is such a corner. -/
def cornerB (l : List UInt8) (row col : Int) : Bool := sheetOk l && inR (rowsOf l) (colsOf l) row col && inR (rowsOf l) (colsOf l) (row + 1) (col + 1)
theorem corner_size (l : List UInt8) (row col : Int) : (cornerS l row col).size = (rightC l row col).size + (downC l row (col + 1)).size + (rightC l (row + 1) col).size + (downC l row col).size := by
  unfold cornerS
  rw [ByteArray.size_append, ByteArray.size_append, ByteArray.size_append]
theorem corner_yes {l : List UInt8} {row col : Int} (h : cornerB l row col = true) : (cornerS l row col).size = 4 := by
  unfold cornerB at h
  simp only [Bool.and_eq_true] at h
  obtain ⟨⟨hok, h1⟩, h2⟩ := h
  have h1' : 0 ≤ row ∧ row < (rowsOf l : Int) ∧ 0 ≤ col ∧ col < (colsOf l : Int) := of_decide_eq_true h1
  have h2' : 0 ≤ row + 1 ∧ row + 1 < (rowsOf l : Int) ∧ 0 ≤ col + 1 ∧ col + 1 < (colsOf l : Int) := of_decide_eq_true h2
  obtain ⟨a, ha⟩ := lv_some hok h1
  obtain ⟨b, hb⟩ := lv_some hok (row := row) (col := col + 1) (decide_eq_true (by omega))
  obtain ⟨c, hc⟩ := lv_some hok (row := row + 1) (col := col) (decide_eq_true (by omega))
  obtain ⟨d, hd⟩ := lv_some hok h2
  rw [corner_size]
  unfold rightC downC
  rw [ha, hb, hc, hd, crease_full, crease_full, crease_full, crease_full]
theorem corner_no {l : List UInt8} {row col : Int} (h : cornerB l row col = false) : (cornerS l row col).size ≠ 4 := by
  intro e
  rw [corner_size] at e
  have s1 := crease_small l (lv l row col) (lv l row (col + 1))
  have s2 := crease_small l (lv l row (col + 1)) (lv l (row + 1) (col + 1))
  have s3 := crease_small l (lv l (row + 1) col) (lv l (row + 1) (col + 1))
  have s4 := crease_small l (lv l row col) (lv l (row + 1) col)
  unfold rightC downC at e
  obtain ⟨⟨a, ha⟩, _⟩ := crease_empty (show (creaseC l (lv l row col) (lv l row (col + 1))).size = 1 by omega)
  obtain ⟨_, d, hd⟩ := crease_empty (show (creaseC l (lv l row (col + 1)) (lv l (row + 1) (col + 1))).size = 1 by omega)
  have h1 := lv_in ha
  have h2 := lv_in hd
  unfold cornerB at h
  rw [h1.1, h1.2.2.2.2, h2.2.2.2.2] at h
  simp at h
theorem corner_bd (l : List UInt8) (row col : Int) : (cornerS l row col).size ≤ 4 := by
  rw [corner_size]
  have s1 := crease_small l (lv l row col) (lv l row (col + 1))
  have s2 := crease_small l (lv l row (col + 1)) (lv l (row + 1) (col + 1))
  have s3 := crease_small l (lv l (row + 1) col) (lv l (row + 1) (col + 1))
  have s4 := crease_small l (lv l row col) (lv l (row + 1) col)
  unfold rightC downC
  omega
def cornerT (l : List UInt8) (row col : Int) : ByteArray := if cornerB l row col then cornerS l row col else ⟨#[]⟩
end Go.Proofs.Ytnpmpkolglmhdaa
