/- The plain law of folded sheets: the creases, told from the first letter on. Conditions: each theorem's own premises. -/
import Derived.Test.YtnpmpkolglmhdaaPlainF
import Derived.Test.YtnpmpkolglmhdaaStackP
namespace Go.Proofs.Ytnpmpkolglmhdaa
open Go.RowKit
/-- Where a cell of the sheet behind the first fold lies ahead of it: in the half that stays, and in the half that moves. -/
def stayR (c : UInt8) (t : List UInt8) (r : Int) : Int := if high (c.toNat : Int) then offS (fstC c) (rowsOf t) + r else r
def stayQ (c : UInt8) (t : List UInt8) (q : Int) : Int := if high (c.toNat : Int) then q else offS (fstC c) (colsOf t) + q
def moveR (c : UInt8) (t : List UInt8) (r : Int) : Int := if high (c.toNat : Int) then offM (fstC c) (rowsOf t) - r else r
def moveQ (c : UInt8) (t : List UInt8) (q : Int) : Int := if high (c.toNat : Int) then q else offM (fstC c) (colsOf t) - q
theorem first_is {c : UInt8} {t : List UInt8} (hok : sheetOk (c :: t) = true) {r q : Nat} (hr : r < rowsOf t) (hq : q < colsOf t) :
    (stepS (sheet0 (c :: t)) c).f r q = putC (under c) (high (c.toNat : Int)) [⟨stayR c t r, stayQ c t q, true, true⟩] [⟨moveR c t r, moveQ c t q, true, true⟩] := by
  have hl := (ok_is hok).1 c List.mem_cons_self
  unfold stepS sheet0 stayR stayQ moveR moveQ
  simp only
  rw [rowsOf_cons, colsOf_cons, letter_high hl]
  cases high (c.toNat : Int)
  · simp only [Bool.not_false, if_true, Bool.false_eq_true, if_false]
    rw [show 2 * colsOf t / 2 = colsOf t by omega, ← offS_is, ← offM_is _ hq]
    rfl
  · simp only [if_true]
    rw [show 2 * rowsOf t / 2 = rowsOf t by omega, ← offS_is, ← offM_is _ hr]
    rfl
/-- The two layers that a layer of the other letters' stack is spread over. -/
theorem front_pair {c : UInt8} {t : List UInt8} (hok : sheetOk (c :: t) = true) {a : Nat} {y : Cel} (hy : (stackC t)[a]? = some y) :
    ∃ xs xm : Cel, (stackC (c :: t))[2 * a + (if under c == y.up then 1 else 0)]? = some xs ∧ (stackC (c :: t))[2 * a + (if under c == y.up then 0 else 1)]? = some xm ∧
      xs.row = stayR c t y.row ∧ xs.col = stayQ c t y.col ∧ xs.up = y.up ∧ xm.row = moveR c t y.row ∧ xm.col = moveQ c t y.col ∧ xm.up = !y.up := by
  have hmem := fun z (hz : z ∈ stackC t) => in_range (ok_tail hok) hz
  have hE : ∀ z ∈ stackC t, (spreadC (stepS (sheet0 (c :: t)) c).f z).length = 2 := fun z hz => by
    obtain ⟨h1, h2, h3, h4⟩ := hmem z hz
    unfold spreadC
    rw [first_is hok (by omega) (by omega), List.length_map]
    unfold putC
    cases z.up <;> cases under c <;> rfl
  obtain ⟨h1, h2, h3, h4⟩ := hmem y (List.mem_of_getElem? hy)
  have hf := fun j (hj : j < 2) => flat_two (E := spreadC (stepS (sheet0 (c :: t)) c).f) (l := stackC t) hE hy hj
  rw [← stack_front hok] at hf
  have e1 : (y.row.toNat : Int) = y.row := by omega
  have e2 : (y.col.toNat : Int) = y.col := by omega
  have h0 := hf 0 (by omega)
  have h1 := hf 1 (by omega)
  unfold spreadC at h0 h1
  rw [first_is hok (by omega) (by omega), e1, e2] at h0 h1
  unfold putC turnC at h0 h1
  rw [Nat.add_zero] at h0
  cases hu : y.up <;> cases hn : under c <;> rw [hu, hn] at h0 h1 <;> simp at h0 h1 <;>
    first
    | exact ⟨_, _, h0, h1, rfl, rfl, rfl, rfl, rfl, rfl⟩
    | exact ⟨_, _, h1, h0, rfl, rfl, rfl, rfl, rfl, rfl⟩
theorem cel_at {l : List UInt8} {k : Nat} {x : Cel} (h : (stackC l)[k]? = some x) : celOf l k = x := by unfold celOf; rw [h]; rfl
/-- The two levels of a cell's two places. -/
theorem lv_front {c : UInt8} {t : List UInt8} (hok : sheetOk (c :: t) = true) {row col : Int} {a : Nat} (h : lv t row col = some a) :
    ∃ j i : Nat, (j = if under c == (celOf t a).up then 1 else 0) ∧ (i = if under c == (celOf t a).up then 0 else 1) ∧
      lv (c :: t) (stayR c t row) (stayQ c t col) = some (2 * a + j) ∧ (celOf (c :: t) (2 * a + j)).up = (celOf t a).up ∧
      lv (c :: t) (moveR c t row) (moveQ c t col) = some (2 * a + i) ∧ (celOf (c :: t) (2 * a + i)).up = !(celOf t a).up := by
  obtain ⟨_, hy, e1, e2, _⟩ := lv_in h
  obtain ⟨xs, xm, s1, s2, p1, p2, p3, p4, p5, p6⟩ := front_pair hok hy
  refine ⟨_, _, rfl, rfl, ?_, ?_, ?_, ?_⟩
  · rw [← e1, ← e2, ← p1, ← p2]
    exact lv_atF hok s1
  · rw [cel_at s1, p3]
  · rw [← e1, ← e2, ← p4, ← p5]
    exact lv_atF hok s2
  · rw [cel_at s2, p6]
/-- Whether the crease between a cell and its right neighbour goes up. -/
def rU (l : List UInt8) (row col : Int) : Option Bool :=
  match lv l row col, lv l row (col + 1) with
  | some a, some b => some (celOf l (min a b)).up
  | _, _ => none
theorem rU_some {l : List UInt8} {row col : Int} {a b : Nat} (ha : lv l row col = some a) (hb : lv l row (col + 1) = some b) : rU l row col = some (celOf l (min a b)).up := by
  unfold rU
  rw [ha, hb]
/-- The crease's letter. -/
def upS : Option Bool → ByteArray
  | some true => ⟨#[86]⟩
  | some false => ⟨#[77]⟩
  | none => ⟨#[]⟩
theorem rightC_is (l : List UInt8) (row col : Int) : rightC l row col = upS (rU l row col) := by
  unfold rightC rU
  cases lv l row col with
  | none => rw [creaseC_none]; rfl
  | some a =>
    cases lv l row (col + 1) with
    | none => rw [creaseC_none2]; rfl
    | some b =>
      rw [creaseC_some]
      show _ = upS (some (celOf l (min a b)).up)
      cases (celOf l (min a b)).up <;> rfl
theorem lv_ne {l : List UInt8} {r1 c1 r2 c2 : Int} {a b : Nat} (ha : lv l r1 c1 = some a) (hb : lv l r2 c2 = some b) (h : r1 ≠ r2 ∨ c1 ≠ c2) : a ≠ b := by
  rintro rfl
  obtain ⟨_, _, e1, e2, _⟩ := lv_in ha
  obtain ⟨_, _, e3, e4, _⟩ := lv_in hb
  omega
/-- Cells a step of the other letters' sheet apart: the half that stays. -/
theorem cr_stay {c : UInt8} {t : List UInt8} (hok : sheetOk (c :: t) = true) {r1 c1 r2 c2 : Int} {a b : Nat} (ha : lv t r1 c1 = some a) (hb : lv t r2 c2 = some b) (hab : a ≠ b) :
    ∃ a' b', lv (c :: t) (stayR c t r1) (stayQ c t c1) = some a' ∧ lv (c :: t) (stayR c t r2) (stayQ c t c2) = some b' ∧ (celOf (c :: t) (min a' b')).up = (celOf t (min a b)).up := by
  obtain ⟨j, i, hj, hi, l1, u1, _, _⟩ := lv_front hok ha
  obtain ⟨j', i', hj', hi', l1', u1', _, _⟩ := lv_front hok hb
  refine ⟨_, _, l1, l1', ?_⟩
  have b1 : j < 2 := by rw [hj]; split <;> omega
  have b2 : j' < 2 := by rw [hj']; split <;> omega
  by_cases e : a < b
  · rw [Nat.min_eq_left (show 2 * a + j ≤ 2 * b + j' by omega), Nat.min_eq_left (show a ≤ b by omega), u1]
  · rw [Nat.min_eq_right (show 2 * b + j' ≤ 2 * a + j by omega), Nat.min_eq_right (show b ≤ a by omega), u1']
theorem cr_move {c : UInt8} {t : List UInt8} (hok : sheetOk (c :: t) = true) {r1 c1 r2 c2 : Int} {a b : Nat} (ha : lv t r1 c1 = some a) (hb : lv t r2 c2 = some b) (hab : a ≠ b) :
    ∃ a' b', lv (c :: t) (moveR c t r1) (moveQ c t c1) = some a' ∧ lv (c :: t) (moveR c t r2) (moveQ c t c2) = some b' ∧ (celOf (c :: t) (min a' b')).up = !(celOf t (min a b)).up := by
  obtain ⟨j, i, hj, hi, _, _, l1, u1⟩ := lv_front hok ha
  obtain ⟨j', i', hj', hi', _, _, l1', u1'⟩ := lv_front hok hb
  refine ⟨_, _, l1, l1', ?_⟩
  have b1 : i < 2 := by rw [hi]; split <;> omega
  have b2 : i' < 2 := by rw [hi']; split <;> omega
  by_cases e : a < b
  · rw [Nat.min_eq_left (show 2 * a + i ≤ 2 * b + i' by omega), Nat.min_eq_left (show a ≤ b by omega), u1]
  · rw [Nat.min_eq_right (show 2 * b + i' ≤ 2 * a + i by omega), Nat.min_eq_right (show b ≤ a by omega), u1']
/-- A sheet's cell that has a right neighbour. -/
theorem lv_two {t : List UInt8} {row col : Int} (hok : sheetOk t = true) (h1 : 0 ≤ row) (h2 : row < rowsOf t) (h3 : 0 ≤ col) (h4 : col + 1 < colsOf t) :
    ∃ a b, lv t row col = some a ∧ lv t row (col + 1) = some b ∧ a ≠ b := by
  obtain ⟨a, ha⟩ := lv_some (row := row) (col := col) hok (decide_eq_true (by omega))
  obtain ⟨b, hb⟩ := lv_some (row := row) (col := col + 1) hok (decide_eq_true (by omega))
  exact ⟨a, b, ha, hb, lv_ne ha hb (.inr (by omega))⟩
/-- A first fold of the height: rows that stay, rows that are turned. -/
theorem rU_high_stay {c : UInt8} {t : List UInt8} (hok : sheetOk (c :: t) = true) (hh : high (c.toNat : Int) = true) {row col : Int} (h1 : 0 ≤ row) (h2 : row < rowsOf t) (h3 : 0 ≤ col) (h4 : col + 1 < colsOf t) :
    rU (c :: t) (offS (fstC c) (rowsOf t) + row) col = rU t row col := by
  obtain ⟨a, b, ha, hb, hab⟩ := lv_two (ok_tail hok) h1 h2 h3 h4
  obtain ⟨a', b', l1, l2, u⟩ := cr_stay hok ha hb hab
  have e1 : stayR c t row = offS (fstC c) (rowsOf t) + row := by unfold stayR; rw [hh]; rfl
  have e2 : ∀ q, stayQ c t q = q := fun q => by unfold stayQ; rw [hh]; rfl
  rw [e1, e2] at l1 l2
  rw [rU_some l1 l2, rU_some ha hb, u]
theorem rU_high_move {c : UInt8} {t : List UInt8} (hok : sheetOk (c :: t) = true) (hh : high (c.toNat : Int) = true) {row col : Int} (h1 : 0 ≤ row) (h2 : row < rowsOf t) (h3 : 0 ≤ col) (h4 : col + 1 < colsOf t) :
    rU (c :: t) (offM (fstC c) (rowsOf t) - row) col = (rU t row col).map not := by
  obtain ⟨a, b, ha, hb, hab⟩ := lv_two (ok_tail hok) h1 h2 h3 h4
  obtain ⟨a', b', l1, l2, u⟩ := cr_move hok ha hb hab
  have e1 : moveR c t row = offM (fstC c) (rowsOf t) - row := by unfold moveR; rw [hh]; rfl
  have e2 : ∀ q, moveQ c t q = q := fun q => by unfold moveQ; rw [hh]; rfl
  rw [e1, e2] at l1 l2
  rw [rU_some l1 l2, rU_some ha hb, u]
  rfl
/-- A first fold of the width: the half that stays, the half that moves, and the midst. -/
theorem rU_wide_stay {c : UInt8} {t : List UInt8} (hok : sheetOk (c :: t) = true) (hh : high (c.toNat : Int) = false) {row col : Int} (h1 : 0 ≤ row) (h2 : row < rowsOf t) (h3 : 0 ≤ col) (h4 : col + 1 < colsOf t) :
    rU (c :: t) row (offS (fstC c) (colsOf t) + col) = rU t row col := by
  obtain ⟨a, b, ha, hb, hab⟩ := lv_two (ok_tail hok) h1 h2 h3 h4
  obtain ⟨a', b', l1, l2, u⟩ := cr_stay hok ha hb hab
  have e1 : stayR c t row = row := by unfold stayR; rw [hh]; rfl
  have e2 : ∀ q, stayQ c t q = offS (fstC c) (colsOf t) + q := fun q => by unfold stayQ; rw [hh]; rfl
  rw [e1, e2] at l1 l2
  rw [← Int.add_assoc] at l2
  rw [rU_some l1 l2, rU_some ha hb, u]
theorem rU_wide_move {c : UInt8} {t : List UInt8} (hok : sheetOk (c :: t) = true) (hh : high (c.toNat : Int) = false) {row col : Int} (h1 : 0 ≤ row) (h2 : row < rowsOf t) (h3 : 0 ≤ col) (h4 : col + 1 < colsOf t) :
    rU (c :: t) row (offM (fstC c) (colsOf t) - 1 - col) = (rU t row col).map not := by
  obtain ⟨a, b, ha, hb, hab⟩ := lv_two (ok_tail hok) h1 h2 h3 h4
  obtain ⟨a', b', l1, l2, u⟩ := cr_move hok ha hb hab
  have e1 : moveR c t row = row := by unfold moveR; rw [hh]; rfl
  have e2 : ∀ q, moveQ c t q = offM (fstC c) (colsOf t) - q := fun q => by unfold moveQ; rw [hh]; rfl
  rw [e1, e2] at l1 l2
  rw [show offM (fstC c) (colsOf t) - (col + 1) = offM (fstC c) (colsOf t) - 1 - col by omega] at l2
  rw [show offM (fstC c) (colsOf t) - col = offM (fstC c) (colsOf t) - 1 - col + 1 by omega] at l1
  rw [rU_some l2 l1, rU_some ha hb, Nat.min_comm, u]
  rfl
theorem rU_wide_mid {c : UInt8} {t : List UInt8} (hok : sheetOk (c :: t) = true) (hh : high (c.toNat : Int) = false) {row : Int} (h1 : 0 ≤ row) (h2 : row < rowsOf t) :
    rU (c :: t) row (colsOf t - 1) = some (!under c) := by
  have hcb := (colsOf_bd t (ok_is (ok_tail hok)).2).1
  have e1 : ∀ r, stayR c t r = r := fun r => by unfold stayR; rw [hh]; rfl
  have e2 : ∀ q, stayQ c t q = offS (fstC c) (colsOf t) + q := fun q => by unfold stayQ; rw [hh]; rfl
  have e3 : ∀ r, moveR c t r = r := fun r => by unfold moveR; rw [hh]; rfl
  have e4 : ∀ q, moveQ c t q = offM (fstC c) (colsOf t) - q := fun q => by unfold moveQ; rw [hh]; rfl
  have key : ∀ (a j i : Nat) (u : Bool), (j = if under c == u then 1 else 0) → (i = if under c == u then 0 else 1) → (celOf (c :: t) (2 * a + j)).up = u → (celOf (c :: t) (2 * a + i)).up = !u →
      (celOf (c :: t) (min (2 * a + j) (2 * a + i))).up = !under c := fun a j i u hj hi s1 s2 => by
    cases hn : under c <;> cases hu : u <;> rw [hn, hu] at hj hi <;> simp at hj hi <;> subst hj hi <;> rw [hu] at s1 s2
    · rw [Nat.min_eq_right (by omega), s2]; try rfl
    · rw [Nat.min_eq_left (by omega), s1]; try rfl
    · rw [Nat.min_eq_left (by omega), s1]; try rfl
    · rw [Nat.min_eq_right (by omega), s2]; try rfl
  cases hf : fstC c with
  | false =>
    obtain ⟨a, ha⟩ := lv_some (row := row) (col := colsOf t - 1) (ok_tail hok) (decide_eq_true (by omega))
    obtain ⟨j, i, hj, hi, l1, u1, l2, u2⟩ := lv_front hok ha
    rw [e1, e2, hf] at l1
    rw [e3, e4, hf] at l2
    have f1 : offS false (colsOf t) + ((colsOf t : Int) - 1) = (colsOf t : Int) - 1 := by unfold offS; simp
    have f2 : offM false (colsOf t) - ((colsOf t : Int) - 1) = (colsOf t : Int) - 1 + 1 := by unfold offM; simp; omega
    rw [f1] at l1
    rw [f2] at l2
    rw [rU_some l1 l2, key a j i _ hj hi u1 u2]
  | true =>
    obtain ⟨a, ha⟩ := lv_some (row := row) (col := 0) (ok_tail hok) (decide_eq_true (by omega))
    obtain ⟨j, i, hj, hi, l1, u1, l2, u2⟩ := lv_front hok ha
    rw [e1, e2, hf] at l1
    rw [e3, e4, hf] at l2
    have f1 : offS true (colsOf t) + (0 : Int) = (colsOf t : Int) - 1 + 1 := by unfold offS; simp
    have f2 : offM true (colsOf t) - (0 : Int) = (colsOf t : Int) - 1 := by unfold offM; simp
    rw [f1] at l1
    rw [f2] at l2
    rw [rU_some l2 l1, Nat.min_comm, key a j i _ hj hi u1 u2]
end Go.Proofs.Ytnpmpkolglmhdaa
