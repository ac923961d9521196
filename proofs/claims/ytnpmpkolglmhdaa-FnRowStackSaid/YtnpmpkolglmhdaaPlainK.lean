/- The plain law that each row of a folded sheet is folded as a sheet of one row. Conditions: each theorem's own premises. -/
import Derived.Test.YtnpmpkolglmhdaaPlainH
import Derived.Test.YtnpmpkolglmhdaaPlainV
namespace Go.Proofs.Ytnpmpkolglmhdaa
open Go.RowKit
def isWide (c : UInt8) : Bool := wide (c.toNat : Int)
/-- Some letters exchanged over and under, told by the bits of a number. -/
def vary : Nat → List UInt8 → List UInt8
  | _, [] => []
  | n, c :: t => (if n % 2 = 1 then overC c else c) :: vary (n / 2) t
theorem vary_length : ∀ (n : Nat) (l : List UInt8), (vary n l).length = l.length
  | _, [] => rfl
  | n, c :: t => by
    show (vary (n / 2) t).length + 1 = t.length + 1
    rw [vary_length]
theorem over_wide {c : UInt8} (h : wide (c.toNat : Int) = true) : wide ((overC c).toNat : Int) = true ∧ high ((overC c).toNat : Int) = false ∧ high (c.toNat : Int) = false ∧ letter (overC c) = true ∧ fstC (overC c) = fstC c ∧ under (overC c) = !under c ∧ letter c = true := by
  have hl : letter c = true := by unfold letter; rw [h]; rfl
  rcases letter_is hl with rfl | rfl | rfl | rfl | rfl | rfl | rfl | rfl
  · decide
  · decide
  · decide
  · decide
  · exact absurd h (by decide)
  · exact absurd h (by decide)
  · exact absurd h (by decide)
  · exact absurd h (by decide)
theorem vary_wide : ∀ (n : Nat) (l : List UInt8), (∀ x ∈ l, wide (x.toNat : Int) = true) → ∀ x ∈ vary n l, wide (x.toNat : Int) = true
  | _, [], _, x, hx => by cases hx
  | n, c :: t, h, x, hx => by
    rcases List.mem_cons.1 hx with rfl | hx
    · have := h c List.mem_cons_self
      split
      · exact (over_wide this).1
      · exact this
    · exact vary_wide (n / 2) t (fun y hy => h y (List.mem_cons_of_mem _ hy)) x hx
theorem wide_ok {l : List UInt8} (h : ∀ x ∈ l, wide (x.toNat : Int) = true) (h5 : l.length ≤ 5) : sheetOk l = true := by
  unfold sheetOk
  simp only [Bool.and_eq_true, List.all_eq_true, decide_eq_true_eq]
  exact ⟨fun x hx => by unfold letter; rw [h x hx]; rfl, h5⟩
theorem wide_cols {l : List UInt8} (h : ∀ x ∈ l, wide (x.toNat : Int) = true) : colsOf l = 2 ^ l.length := by
  unfold colsOf
  rw [List.countP_eq_length.2 fun x hx => h x hx]
/-- What a layer of the other letters' stack is spread over: columns, and which way up. -/
def twoOf (c : UInt8) (t : List UInt8) (p : Int × Bool) : List (Int × Bool) :=
  if under c == p.2 then [(moveQ c t p.1, !p.2), (stayQ c t p.1, p.2)] else [(stayQ c t p.1, p.2), (moveQ c t p.1, !p.2)]
theorem spread_key {c : UInt8} {t : List UInt8} (hok : sheetOk (c :: t) = true) {y : Cel} (hy : y ∈ stackC t) :
    (spreadC (stepS (sheet0 (c :: t)) c).f y).map (fun x => (x.row, x.col, x.up)) =
      if under c == y.up then [(moveR c t y.row, moveQ c t y.col, !y.up), (stayR c t y.row, stayQ c t y.col, y.up)] else [(stayR c t y.row, stayQ c t y.col, y.up), (moveR c t y.row, moveQ c t y.col, !y.up)] := by
  obtain ⟨h1, h2, h3, h4⟩ := in_range (ok_tail hok) hy
  have e1 : (y.row.toNat : Int) = y.row := by omega
  have e2 : (y.col.toNat : Int) = y.col := by omega
  unfold spreadC
  rw [first_is hok (by omega) (by omega), e1, e2]
  unfold putC turnC
  cases y.up <;> cases under c <;> simp
/-- The columns of the cells of a row, from the lowest to the highest one, and which way up they lie. -/
def rowC (l : List UInt8) (row : Int) : List (Int × Bool) := ((stackC l).filter fun x => x.row == row).map fun x => (x.col, x.up)
theorem flat_filter {α β : Type} (E : α → List β) (p : β → Bool) : ∀ l : List α, (l.flatMap E).filter p = l.flatMap fun y => (E y).filter p
  | [] => rfl
  | y :: l => by rw [List.flatMap_cons, List.filter_append, flat_filter E p l, List.flatMap_cons]
theorem flat_map {α β γ : Type} (E : α → List β) (g : β → γ) : ∀ l : List α, (l.flatMap E).map g = l.flatMap fun y => (E y).map g
  | [] => rfl
  | y :: l => by rw [List.flatMap_cons, List.map_append, flat_map E g l, List.flatMap_cons]
theorem flat_congr {α β : Type} {E F : α → List β} : ∀ {l : List α}, (∀ y ∈ l, E y = F y) → l.flatMap E = l.flatMap F
  | [], _ => rfl
  | y :: l, h => by rw [List.flatMap_cons, List.flatMap_cons, h y List.mem_cons_self, flat_congr fun z hz => h z (List.mem_cons_of_mem _ hz)]
theorem map_filter_key (l : List Cel) (row : Int) : (l.filter fun x => x.row == row).map (fun x => (x.col, x.up)) = ((l.map fun x => (x.row, x.col, x.up)).filter fun p => p.1 == row).map fun p => p.2 := by
  rw [List.filter_map, List.map_map]
  rfl
theorem rowC_front {c : UInt8} {t : List UInt8} (hok : sheetOk (c :: t) = true) (row : Int) : rowC (c :: t) row = (stackC t).flatMap fun y =>
    ((if under c == y.up then [(moveR c t y.row, moveQ c t y.col, !y.up), (stayR c t y.row, stayQ c t y.col, y.up)] else [(stayR c t y.row, stayQ c t y.col, y.up), (moveR c t y.row, moveQ c t y.col, !y.up)]).filter fun p => p.1 == row).map fun p => p.2 := by
  unfold rowC
  rw [map_filter_key, stack_front hok, flat_map, flat_filter, flat_map]
  refine flat_congr fun y hy => ?_
  rw [spread_key hok hy]
theorem flat_if {α β : Type} (p : α → Bool) (g : α → List β) : ∀ l : List α, (l.flatMap fun y => if p y then g y else []) = (l.filter p).flatMap g
  | [] => rfl
  | y :: l => by
    rw [List.flatMap_cons, flat_if p g l]
    cases h : p y
    · simp [h]
    · simp [h]
theorem flat_of_map {α β γ : Type} (f : α → β) (g : β → List γ) : ∀ l : List α, (l.map f).flatMap g = l.flatMap fun y => g (f y)
  | [] => rfl
  | y :: l => by rw [List.map_cons, List.flatMap_cons, flat_of_map f g l, List.flatMap_cons]
theorem flat_single {α β : Type} (f : α → β) : ∀ l : List α, (l.flatMap fun y => [f y]) = l.map f
  | [] => rfl
  | y :: l => by rw [List.flatMap_cons, flat_single f l]; rfl
/-- A first letter of the width: each cell of the row is spread over two. -/
theorem rowC_wide {c : UInt8} {t : List UInt8} (hok : sheetOk (c :: t) = true) (hh : high (c.toNat : Int) = false) (row : Int) : rowC (c :: t) row = (rowC t row).flatMap (twoOf c t) := by
  rw [rowC_front hok]
  have e1 : ∀ r, stayR c t r = r := fun r => by unfold stayR; rw [hh]; rfl
  have e3 : ∀ r, moveR c t r = r := fun r => by unfold moveR; rw [hh]; rfl
  unfold rowC
  rw [flat_of_map, ← flat_if]
  refine flat_congr fun y _ => ?_
  rw [e1, e3]
  unfold twoOf
  cases h : (y.row == row) <;> cases h2 : (under c == y.up) <;> simp [h]
/-- A first letter of the height: the cells of the row are those of another row, turned or not. -/
theorem rowC_high {c : UInt8} {t : List UInt8} (hok : sheetOk (c :: t) = true) (hh : high (c.toNat : Int) = true) {row : Int} (h1 : 0 ≤ row) (h2 : row < rowsOf (c :: t)) :
    ∃ (row' : Int) (b : Bool), 0 ≤ row' ∧ row' < rowsOf t ∧ rowC (c :: t) row = (rowC t row').map fun p => (p.1, p.2 ^^ b) := by
  rw [rowsOf_cons, hh] at h2
  simp only [if_true] at h2
  have e1 : ∀ r, stayR c t r = offS (fstC c) (rowsOf t) + r := fun r => by unfold stayR; rw [hh]; rfl
  have e2 : ∀ q, stayQ c t q = q := fun q => by unfold stayQ; rw [hh]; rfl
  have e3 : ∀ r, moveR c t r = offM (fstC c) (rowsOf t) - r := fun r => by unfold moveR; rw [hh]; rfl
  have e4 : ∀ q, moveQ c t q = q := fun q => by unfold moveQ; rw [hh]; rfl
  have apart : ∀ q p : Int, 0 ≤ q → q < rowsOf t → 0 ≤ p → p < rowsOf t → offS (fstC c) (rowsOf t) + q ≠ offM (fstC c) (rowsOf t) - p := fun q p _ _ _ _ => by
    unfold offS offM
    cases fstC c <;> simp <;> omega
  rcases high_cases (fstC c) h1 (show row < 2 * (rowsOf t : Nat) by omega) with ⟨q, q1, q2, e⟩ | ⟨q, q1, q2, e⟩
  · refine ⟨q, false, q1, q2, ?_⟩
    rw [rowC_front hok]
    unfold rowC
    rw [List.map_map, ← flat_single, ← flat_if]
    refine flat_congr fun y hy => ?_
    obtain ⟨y1, y2, _, _⟩ := in_range (ok_tail hok) hy
    rw [e1, e2, e3, e4, e]
    have a1 : (offM (fstC c) (rowsOf t) - y.row == offS (fstC c) (rowsOf t) + q) = false := by rw [beq_eq_false_iff_ne]; exact fun h => apart q y.row q1 q2 y1 y2 h.symm
    have a2 : (offS (fstC c) (rowsOf t) + y.row == offS (fstC c) (rowsOf t) + q) = (y.row == q) := by
      rw [Bool.eq_iff_iff, beq_iff_eq, beq_iff_eq]; omega
    cases h : (y.row == q) <;> cases h2 : (under c == y.up) <;> simp [a1, a2, h]
  · refine ⟨q, true, q1, q2, ?_⟩
    rw [rowC_front hok]
    unfold rowC
    rw [List.map_map, ← flat_single, ← flat_if]
    refine flat_congr fun y hy => ?_
    obtain ⟨y1, y2, _, _⟩ := in_range (ok_tail hok) hy
    rw [e1, e2, e3, e4, e]
    have a1 : (offS (fstC c) (rowsOf t) + y.row == offM (fstC c) (rowsOf t) - q) = false := by rw [beq_eq_false_iff_ne]; exact apart y.row q y1 y2 q1 q2
    have a2 : (offM (fstC c) (rowsOf t) - y.row == offM (fstC c) (rowsOf t) - q) = (y.row == q) := by
      rw [Bool.eq_iff_iff, beq_iff_eq, beq_iff_eq]; omega
    cases h : (y.row == q) <;> cases h2 : (under c == y.up) <;> simp [a1, a2, h]
theorem two_vary {c c' : UInt8} {t t' : List UInt8} (b : Bool) (hh : high (c.toNat : Int) = false) (hh' : high (c'.toNat : Int) = false) (hf : fstC c' = fstC c) (hu : under c' = (under c ^^ b)) (hC : colsOf t' = colsOf t) (p : Int × Bool) :
    twoOf c t (p.1, p.2 ^^ b) = (twoOf c' t' p).map fun p => (p.1, p.2 ^^ b) := by
  have e2 : ∀ q, stayQ c' t' q = stayQ c t q := fun q => by unfold stayQ; rw [hh, hh', hf, hC]
  have e4 : ∀ q, moveQ c' t' q = moveQ c t q := fun q => by unfold moveQ; rw [hh, hh', hf, hC]
  unfold twoOf
  simp only [e2, e4, hu]
  cases under c <;> cases b <;> cases p.2 <;> simp
theorem rowC_one {l : List UInt8} (hok : sheetOk l = true) (h1 : rowsOf l = 1) : rowC l 0 = (stackC l).map fun x => (x.col, x.up) := by
  unfold rowC
  rw [List.filter_eq_self.2]
  intro x hx
  have := in_range hok hx
  rw [beq_iff_eq]
  omega
theorem wide_rows {l : List UInt8} (h : ∀ x ∈ l, wide (x.toNat : Int) = true) : rowsOf l = 1 := no_high_rows fun x hx => (over_wide (h x hx)).2.2.1
theorem filter_w {l : List UInt8} : ∀ x ∈ l.filter isWide, wide (x.toNat : Int) = true := fun _ hx => (List.mem_filter.1 hx).2
theorem filter_c (l : List UInt8) : colsOf (l.filter isWide) = colsOf l := by
  unfold colsOf
  rw [List.countP_filter]
  exact congrArg (fun n => 2 ^ n) (List.countP_congr fun x _ => by simp [isWide])
/-- Each row is folded as a sheet of one row. -/
theorem row_stack : ∀ {l : List UInt8}, sheetOk l = true → ∀ {row : Int}, 0 ≤ row → row < rowsOf l → ∃ (n : Nat) (b : Bool), n < 2 ^ (l.filter isWide).length ∧
    rowC l row = (rowC (vary n (l.filter isWide)) 0).map fun p => (p.1, p.2 ^^ b)
  | [], _, row, h1, h2 => by
    have : rowsOf [] = 1 := rfl
    obtain rfl : row = 0 := by omega
    exact ⟨0, false, by decide, by decide⟩
  | c :: t, hok, row, h1, h2 => by
    have hl := (ok_is hok).1 c List.mem_cons_self
    have h5 := (ok_is hok).2
    have ht := ok_tail hok
    cases hh : high (c.toNat : Int) with
    | true =>
      obtain ⟨row', b, r1, r2, e⟩ := rowC_high hok hh h1 h2
      obtain ⟨n, b', hn, e'⟩ := row_stack ht r1 r2
      have hw : isWide c = false := by unfold isWide; rw [letter_high hl, hh]; rfl
      rw [List.filter_cons_of_neg (by rw [hw]; simp)]
      refine ⟨n, b' ^^ b, hn, ?_⟩
      rw [e, e', List.map_map]
      refine List.map_congr_left fun p _ => ?_
      simp
    | false =>
      have hw : isWide c = true := by unfold isWide; rw [letter_high hl, hh]; rfl
      have h2' : row < rowsOf t := by rw [rowsOf_cons, hh] at h2; simpa using h2
      obtain ⟨n, b, hn, e⟩ := row_stack ht h1 h2'
      rw [List.filter_cons_of_pos hw, List.length_cons, Nat.pow_succ]
      have hlen : (t.filter isWide).length ≤ 4 := by
        have := List.length_filter_le isWide t
        rw [List.length_cons] at h5
        omega
      have hvw := vary_wide n _ (filter_w (l := t))
      have hvC : colsOf (vary n (t.filter isWide)) = colsOf t := by
        rw [← filter_c t, wide_cols hvw, wide_cols filter_w, vary_length]
      obtain ⟨o1, o2, o3, o4, o5, o6, o7⟩ := over_wide (c := c) hw
      have key : ∀ c' : UInt8, wide (c'.toNat : Int) = true → high (c'.toNat : Int) = false → fstC c' = fstC c → under c' = (under c ^^ b) →
          rowC (c :: t) row = (rowC (c' :: vary n (t.filter isWide)) 0).map fun p => (p.1, p.2 ^^ b) := fun c' k1 k2 k3 k4 => by
        have hok' : sheetOk (c' :: vary n (t.filter isWide)) = true := wide_ok (fun x hx => by
          rcases List.mem_cons.1 hx with rfl | hx
          · exact k1
          · exact hvw x hx) (by rw [List.length_cons, vary_length]; omega)
        rw [rowC_wide hok hh, rowC_wide hok' k2, e, flat_of_map, flat_map]
        exact flat_congr fun p _ => two_vary b hh k2 k3 k4 hvC p
      cases b with
      | false =>
        refine ⟨2 * n, false, by omega, ?_⟩
        have : vary (2 * n) (c :: t.filter isWide) = c :: vary n (t.filter isWide) := by
          show (if 2 * n % 2 = 1 then overC c else c) :: vary (2 * n / 2) (t.filter isWide) = _
          rw [if_neg (by omega), show 2 * n / 2 = n by omega]
        rw [this]
        exact key c hw hh rfl (by simp)
      | true =>
        refine ⟨2 * n + 1, true, by omega, ?_⟩
        have : vary (2 * n + 1) (c :: t.filter isWide) = overC c :: vary n (t.filter isWide) := by
          show (if (2 * n + 1) % 2 = 1 then overC c else c) :: vary ((2 * n + 1) / 2) (t.filter isWide) = _
          rw [if_pos (by omega), show (2 * n + 1) / 2 = n by omega]
        rw [this]
        exact key (overC c) o1 o2 o5 (by rw [o6]; simp)
/-- The columns of a row's cells. -/
def rowQ (l : List UInt8) (row : Int) : List Int := ((stackC l).filter fun x => x.row == row).map fun x => x.col
theorem row_cols {l : List UInt8} (hok : sheetOk l = true) {row : Int} (h1 : 0 ≤ row) (h2 : row < rowsOf l) : ∃ n, n < 2 ^ (l.filter isWide).length ∧ rowQ l row = (stackC (vary n (l.filter isWide))).map fun x => x.col := by
  obtain ⟨n, b, hn, e⟩ := row_stack hok h1 h2
  have h5 := (ok_is hok).2
  have hvw := vary_wide n _ (filter_w (l := l))
  have hok' := wide_ok hvw (by rw [vary_length]; exact Nat.le_trans (List.length_filter_le _ _) h5)
  refine ⟨n, hn, ?_⟩
  rw [rowC_one hok' (wide_rows hvw), List.map_map] at e
  have := congrArg (List.map Prod.fst) e
  unfold rowC at this
  rw [List.map_map, List.map_map] at this
  exact this
end Go.Proofs.Ytnpmpkolglmhdaa
