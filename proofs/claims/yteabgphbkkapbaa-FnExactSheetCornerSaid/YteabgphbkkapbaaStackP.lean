/- The walks of SheetCorner, of the program and of the reference. Conditions: each theorem's own premises. -/
import Derived.Test.YteabgphbkkapbaaStackO
namespace Go.Proofs.Yteabgphbkkapbaa
open Go.RowKit
theorem putC_left {un hi : Bool} {a b : List Cel} {x : Cel} (h : x ∈ a) : x ∈ putC un hi a b := by
  unfold putC
  cases un <;> simp [h]
theorem putC_right {un hi : Bool} {a b : List Cel} {x : Cel} (h : x ∈ b) : turnC hi x ∈ putC un hi a b := by
  have : turnC hi x ∈ b.reverse.map (turnC hi) := List.mem_map.2 ⟨x, by simpa using h, rfl⟩
  unfold putC
  cases un
  · exact List.mem_append_right _ this
  · exact List.mem_append_left _ this
/-- Each cell of R rows and C columns lies in one of the stacks. -/
def Covers (s : Sheet) (R C : Nat) : Prop := ∀ r c : Nat, r < R → c < C → ∃ r' c', r' < s.R ∧ c' < s.C ∧ ∃ x ∈ s.f r' c', x.row = r ∧ x.col = c
/-- A place behind a fold at which the place i ahead of it lies. -/
theorem place_of (fst : Bool) {half i : Nat} (h : i < 2 * half) : ∃ j, j < half ∧ (stays fst half j = i ∨ moves fst half j = i) := by
  unfold stays moves
  cases fst
  · by_cases hi : i < half
    · exact ⟨i, hi, .inl rfl⟩
    · exact ⟨2 * half - 1 - i, by omega, .inr (by simp; omega)⟩
  · by_cases hi : i < half
    · exact ⟨half - 1 - i, by omega, .inr (by simp; omega)⟩
    · exact ⟨i - half, by omega, .inl (by simp; omega)⟩
theorem covers_step {s : Sheet} {c : UInt8} {R C : Nat} (hF : Foldable s c) (h : Covers s R C) : Covers (stepS s c) R C := by
  intro r k hr hk
  obtain ⟨r', c', h1, h2, x, hx, e1, e2⟩ := h r k hr hk
  unfold stepS
  cases hi : high (c.toNat : Int) with
  | true =>
    obtain ⟨e, b⟩ := hF.h hi
    simp only [if_true]
    obtain ⟨j, hj, hp⟩ := place_of (fstC c) (show r' < 2 * (s.R / 2) by omega)
    refine ⟨j, c', hj, h2, ?_⟩
    rcases hp with hp | hp
    · refine ⟨x, ?_, e1, e2⟩
      unfold foldH
      exact putC_left (by rw [hp]; exact hx)
    · refine ⟨turnC true x, ?_, e1, e2⟩
      unfold foldH
      exact putC_right (by rw [hp]; exact hx)
  | false =>
    obtain ⟨e, b⟩ := hF.w hi
    simp only [Bool.false_eq_true, if_false]
    obtain ⟨j, hj, hp⟩ := place_of (fstC c) (show c' < 2 * (s.C / 2) by omega)
    refine ⟨r', j, h1, hj, ?_⟩
    rcases hp with hp | hp
    · refine ⟨x, ?_, e1, e2⟩
      unfold foldW
      exact putC_left (by rw [hp]; exact hx)
    · refine ⟨turnC false x, ?_, e1, e2⟩
      unfold foldW
      exact putC_right (by rw [hp]; exact hx)
theorem covers_to {l : List UInt8} (hok : sheetOk l = true) : ∀ k, k ≤ l.length → Covers (sheetTo l k) (rowsOf l) (colsOf l)
  | 0, _ => by
    rw [sheetTo_zero]
    intro r c hr hc
    exact ⟨r, c, hr, hc, ⟨r, c, true, true⟩, List.mem_singleton.2 rfl, rfl, rfl⟩
  | k + 1, hk => by
    rw [sheetTo_succ l k (by omega)]
    exact covers_step (foldable hok k (by omega)) (covers_to hok k (by omega))
/-- Each cell is in the stack. -/
theorem lv_some {l : List UInt8} {row col : Int} (hok : sheetOk l = true) (hin : inR (rowsOf l) (colsOf l) row col = true) : ∃ k, lv l row col = some k := by
  have hin : 0 ≤ row ∧ row < (rowsOf l : Int) ∧ 0 ≤ col ∧ col < (colsOf l : Int) := of_decide_eq_true hin
  obtain ⟨d1, d2⟩ := end_dims hok
  obtain ⟨r', c', h1, h2, x, hx, e1, e2⟩ := covers_to hok l.length (Nat.le_refl _) row.toNat col.toNat (by omega) (by omega)
  obtain rfl : r' = 0 := by omega
  obtain rfl : c' = 0 := by omega
  have hx : x ∈ stackC l := hx
  have e1 : x.row = row := by omega
  have e2 : x.col = col := by omega
  have hv : lv l row col = findC (stackC l) row col := by unfold lv; rw [if_pos hok]
  cases h : findC (stackC l) row col with
  | some k => exact ⟨k, by rw [hv, h]⟩
  | none =>
    obtain ⟨j, hj⟩ := List.mem_iff_getElem?.1 hx
    exact absurd ⟨e1, e2⟩ (find_none h j x hj)
theorem crease_full (l : List UInt8) (a b : Nat) : (creaseC l (some a) (some b)).size = 1 := by
  rw [creaseC_some]
  cases (celOf l (min a b)).up <;> rfl
theorem crease_empty {l : List UInt8} {a b : Option Nat} (h : (creaseC l a b).size = 1) : (∃ x, a = some x) ∧ ∃ y, b = some y := by
  cases a with
  | none => rw [creaseC_none] at h; exact absurd h (by decide)
  | some a =>
    cases b with
    | none => rw [creaseC_none2] at h; exact absurd h (by decide)
    | some b => exact ⟨⟨a, rfl⟩, ⟨b, rfl⟩⟩
/-- The four creases that meet at a corner. -/
def cornerS (l : List UInt8) (row col : Int) : ByteArray := rightC l row col ++ downC l row (col + 1) ++ rightC l (row + 1) col ++ downC l row col
/-- There is such a corner. -/
def cornerB (l : List UInt8) (row col : Int) : Bool := sheetOk l && inR (rowsOf l) (colsOf l) row col && inR (rowsOf l) (colsOf l) (row + 1) (col + 1)
theorem corner_size (l : List UInt8) (row col : Int) : (cornerS l row col).size = (rightC l row col).size + (downC l row (col + 1)).size + (rightC l (row + 1) col).size + (downC l row col).size := by
  unfold cornerS
  rw [ByteArray.size_append, ByteArray.size_append, ByteArray.size_append]
theorem corner_yes {l : List UInt8} {row col : Int} (h : cornerB l row col = true) : (cornerS l row col).size = 4 := by
  unfold cornerB at h
  simp only [Bool.and_eq_true] at h
  obtain ⟨⟨hok, h1⟩, h2⟩ := h
  have h1' : 0 ≤ row ∧ row < (rowsOf l : Int) ∧ 0 ≤ col ∧ col < (colsOf l : Int) := of_decide_eq_true h1
  have h2' : 0 ≤ row + 1 ∧ row + 1 < (rowsOf l : Int) ∧ 0 ≤ col + 1 ∧ col + 1 < (colsOf l : Int) := of_decide_eq_true h2
  obtain ⟨a, ha⟩ := lv_some hok h1
  obtain ⟨b, hb⟩ := lv_some hok (row := row) (col := col + 1) (decide_eq_true (by omega))
  obtain ⟨c, hc⟩ := lv_some hok (row := row + 1) (col := col) (decide_eq_true (by omega))
  obtain ⟨d, hd⟩ := lv_some hok h2
  rw [corner_size]
  unfold rightC downC
  rw [ha, hb, hc, hd, crease_full, crease_full, crease_full, crease_full]
theorem corner_no {l : List UInt8} {row col : Int} (h : cornerB l row col = false) : (cornerS l row col).size ≠ 4 := by
  intro e
  rw [corner_size] at e
  have s1 := crease_small l (lv l row col) (lv l row (col + 1))
  have s2 := crease_small l (lv l row (col + 1)) (lv l (row + 1) (col + 1))
  have s3 := crease_small l (lv l (row + 1) col) (lv l (row + 1) (col + 1))
  have s4 := crease_small l (lv l row col) (lv l (row + 1) col)
  unfold rightC downC at e
  obtain ⟨⟨a, ha⟩, _⟩ := crease_empty (show (creaseC l (lv l row col) (lv l row (col + 1))).size = 1 by omega)
  obtain ⟨_, d, hd⟩ := crease_empty (show (creaseC l (lv l row (col + 1)) (lv l (row + 1) (col + 1))).size = 1 by omega)
  have h1 := lv_in ha
  have h2 := lv_in hd
  unfold cornerB at h
  rw [h1.1, h1.2.2.2.2, h2.2.2.2.2] at h
  simp at h
theorem corner_bd (l : List UInt8) (row col : Int) : (cornerS l row col).size ≤ 4 := by
  rw [corner_size]
  have s1 := crease_small l (lv l row col) (lv l row (col + 1))
  have s2 := crease_small l (lv l row (col + 1)) (lv l (row + 1) (col + 1))
  have s3 := crease_small l (lv l (row + 1) col) (lv l (row + 1) (col + 1))
  have s4 := crease_small l (lv l row col) (lv l (row + 1) col)
  unfold rightC downC
  omega
def cornerT (l : List UInt8) (row col : Int) : ByteArray := if cornerB l row col then cornerS l row col else ⟨#[]⟩
set_option maxRecDepth 100000 in
set_option maxHeartbeats 4000000 in
theorem specSheetCorner (s : ByteArray) (row col : Int) (w : World) (hs : s.size ≤ maxLen) :
    Calls Try.prog 23 #[.string s, .int .i64 row, .int .i64 col] w fun e w' => e = .returned (.tuple #[.string (cornerT (bl s) row col), .bool (cornerB (bl s) row col)]) ∧ Below w.heap.size w w' := by
  by_cases hrow : 0 ≤ row ∧ row ≤ 1000
  · by_cases hcol : 0 ≤ col ∧ col ≤ 1000
    · obtain ⟨A, hA⟩ : ∃ A, A = rightC (bl s) row col := ⟨_, rfl⟩
      obtain ⟨B, hB⟩ : ∃ B, B = downC (bl s) row (col + 1) := ⟨_, rfl⟩
      obtain ⟨C, hC⟩ : ∃ C, C = rightC (bl s) (row + 1) col := ⟨_, rfl⟩
      obtain ⟨D, hD⟩ : ∃ D, D = downC (bl s) row col := ⟨_, rfl⟩
      have sA : A.size ≤ 1 := by rw [hA]; exact crease_small _ _ _
      have sB : B.size ≤ 1 := by rw [hB]; exact crease_small _ _ _
      have sC : C.size ≤ 1 := by rw [hC]; exact crease_small _ _ _
      have sD : D.size ≤ 1 := by rw [hD]; exact crease_small _ _ _
      have C1 := fun w => specSheetRight s row col w hs
      have C2 := fun w => specSheetDown s row (col + 1) w hs
      have C3 := fun w => specSheetRight s (row + 1) col w hs
      have C4 := fun w => specSheetDown s row col w hs
      have hS : cornerS (bl s) row col = A ++ B ++ C ++ D := by unfold cornerS; rw [hA, hB, hC, hD]
      have hz : (A ++ B ++ C ++ D).size = A.size + B.size + C.size + D.size := by rw [ByteArray.size_append, ByteArray.size_append, ByteArray.size_append]
      rw [← hA] at C1
      rw [← hB] at C2
      rw [← hC] at C3
      rw [← hD] at C4
      have H1 := Lib.hid C1
      have H2 := Lib.hid C2
      have H3 := Lib.hid C3
      have H4 := Lib.hid C4
      clear hA hB hC hD C1 C2 C3 C4
      obtain ⟨k1, k2⟩ := hrow
      obtain ⟨k3, k4⟩ := hcol
      cases hb : cornerB (bl s) row col with
      | true =>
        have h4 := corner_yes hb
        have HT : Hid (cornerT (bl s) row col = A ++ B ++ C ++ D) := by show _ = _; unfold cornerT; rw [hb, if_pos rfl, hS]
        rw [hS, hz] at h4
        have HS := Lib.hid hS
        have HB := Lib.hid hb
        have hA1 : A.size = 1 := by omega
        have hB1 : B.size = 1 := by omega
        have hC1 : C.size = 1 := by omega
        have hD1 : D.size = 1 := by omega
        clear hS hb h4 hz
        go_enter Try.func23, Try.ntmps23
        go_wp2_with fail
        refine (l6In_yes _ _ _ _ k1 k2).mono ?_
        rintro e w1 ⟨rfl, rfl⟩
        go_wp2_with fail
        refine (l6In_yes _ _ _ _ k3 k4).mono ?_
        rintro e w1 ⟨rfl, rfl⟩
        go_wp2_with fail
        refine (H1.out _).mono ?_
        rintro e w2 ⟨rfl, hb2⟩
        have hz2 := hb2.size
        go_wp2_with fail
        refine (H2.out _).mono ?_
        rintro e w3 ⟨rfl, hb3⟩
        have hz3 := hb3.size
        go_wp2_with fail
        refine (H3.out _).mono ?_
        rintro e w4 ⟨rfl, hb4⟩
        have hz4 := hb4.size
        go_wp2_with fail
        refine (H4.out _).mono ?_
        rintro e w5 ⟨rfl, hb5⟩
        go_wp2_with fail
        go_ret2
        rw [HT.out]
        exact ⟨rfl, hb2.trans ((hb3.trans ((hb4.trans (hb5.mono hz4)).mono hz3)).mono hz2)⟩
      | false =>
        have h4 := corner_no hb
        have HT : Hid (cornerT (bl s) row col = ⟨#[]⟩) := by show _ = _; unfold cornerT; rw [hb]; rfl
        rw [hS, hz] at h4
        have h5 : (((A.size + B.size + C.size + D.size : Nat) : Int) != 4) = true := by rw [bne_iff_ne]; omega
        have h6 : ((A.size : Int) + (B.size : Int) + (C.size : Int) + (D.size : Int) != 4) = true := by rw [bne_iff_ne]; omega
        have HS := Lib.hid hS
        have HB := Lib.hid hb
        clear hS hb h4 hz
        go_enter Try.func23, Try.ntmps23
        go_wp2_with fail
        refine (l6In_yes _ _ _ _ k1 k2).mono ?_
        rintro e w1 ⟨rfl, rfl⟩
        go_wp2_with fail
        refine (l6In_yes _ _ _ _ k3 k4).mono ?_
        rintro e w1 ⟨rfl, rfl⟩
        go_wp2_with fail
        refine (H1.out _).mono ?_
        rintro e w2 ⟨rfl, hb2⟩
        have hz2 := hb2.size
        go_wp2_with fail
        refine (H2.out _).mono ?_
        rintro e w3 ⟨rfl, hb3⟩
        have hz3 := hb3.size
        go_wp2_with fail
        refine (H3.out _).mono ?_
        rintro e w4 ⟨rfl, hb4⟩
        have hz4 := hb4.size
        go_wp2_with fail
        refine (H4.out _).mono ?_
        rintro e w5 ⟨rfl, hb5⟩
        go_wp2_with fail
        go_ret2
        rw [HT.out]
        exact ⟨rfl, hb2.trans ((hb3.trans ((hb4.trans (hb5.mono hz4)).mono hz3)).mono hz2)⟩
    · have hn : lv (bl s) row col = none := lv_far fun h => hcol ⟨h.2.2.1, h.2.2.2⟩
      have hb : cornerB (bl s) row col = false := by
        cases h : cornerB (bl s) row col with
        | false => rfl
        | true =>
          unfold cornerB at h
          simp only [Bool.and_eq_true] at h
          obtain ⟨k, hk⟩ := lv_some h.1.1 h.1.2
          rw [hn] at hk
          simp at hk
      have HT : Hid (cornerT (bl s) row col = ⟨#[]⟩) := by show _ = _; unfold cornerT; rw [hb]; rfl
      have HB := Lib.hid hb
      obtain ⟨k1, k2⟩ := hrow
      have HC := Lib.hid hcol
      clear hb hn hcol
      rw [HT.out, HB.out]
      go_enter Try.func23, Try.ntmps23
      go_wp2_with fail
      refine (l6In_yes _ _ _ _ k1 k2).mono ?_
      rintro e w1 ⟨rfl, rfl⟩
      go_wp2_with fail
      refine (l6In_no _ _ _ _ HC.out).mono ?_
      rintro e w1 ⟨rfl, rfl⟩
      go_wp2_with fail
      go_ret2
      exact ⟨rfl, Below.refl _ _⟩
  · have hn : lv (bl s) row col = none := lv_far fun h => hrow ⟨h.1, h.2.1⟩
    have hb : cornerB (bl s) row col = false := by
      cases h : cornerB (bl s) row col with
      | false => rfl
      | true =>
        unfold cornerB at h
        simp only [Bool.and_eq_true] at h
        obtain ⟨k, hk⟩ := lv_some h.1.1 h.1.2
        rw [hn] at hk
        simp at hk
    have HT : Hid (cornerT (bl s) row col = ⟨#[]⟩) := by show _ = _; unfold cornerT; rw [hb]; rfl
    have HB := Lib.hid hb
    have HC := Lib.hid hrow
    clear hb hn hrow
    rw [HT.out, HB.out]
    go_enter Try.func23, Try.ntmps23
    go_wp2_with fail
    refine (l6In_no _ _ _ _ HC.out).mono ?_
    rintro e w1 ⟨rfl, rfl⟩
    go_wp2_with fail
    go_ret2
    exact ⟨rfl, Below.refl _ _⟩
set_option maxRecDepth 100000 in
set_option maxHeartbeats 4000000 in
theorem implSheetCorner (s : ByteArray) (row col : Int) (w : World) (hs : s.size ≤ maxLen) :
    Calls Try.prog 24 #[.string s, .int .i64 row, .int .i64 col] w fun e w' => e = .returned (.tuple #[.string (cornerT (bl s) row col), .bool (cornerB (bl s) row col)]) ∧ Below w.heap.size w w' := by
  have C0 := fun w => sizeOf s w hs
  cases hok : sheetOk (bl s) with
  | false =>
    have hb : cornerB (bl s) row col = false := by unfold cornerB; rw [hok]; rfl
    have HT : Hid (cornerT (bl s) row col = ⟨#[]⟩) := by show _ = _; unfold cornerT; rw [hb]; rfl
    have HB := Lib.hid hb
    rw [hok] at C0
    have HC := Lib.hid C0
    rw [HT.out, HB.out]
    clear hb hok C0
    go_enter Try.func24, Try.ntmps24
    go_wp2_with fail
    refine (HC.out _).mono ?_
    rintro e w1 ⟨rfl, hb1⟩
    have hz1 := hb1.size
    go_wp2_with fail
    go_ret2
    exact ⟨rfl, (by repeat (first | exact Below.refl _ _ | assumption | (refine Below.setCell ?_ (by first | omega | (simp; done) | (simp; omega)) _) | (refine Below.alloc ?_ (by first | omega | (simp; done) | (simp; omega)) _) | (refine below_drewN ?_ _) | (refine Below.drew ?_)))⟩
  | true =>
    have hr0 : sheetRows (bl s) = rowsOf (bl s) := by unfold sheetRows; rw [hok]; rfl
    have hc0 : sheetCols (bl s) = colsOf (bl s) := by unfold sheetCols; rw [hok]; rfl
    rw [hr0, hc0, hok] at C0
    have hRb := (rowsOf_bd _ (ok_is hok).2).2
    have hCb := (colsOf_bd _ (ok_is hok).2).2
    cases h1 : inR (rowsOf (bl s)) (colsOf (bl s)) row col with
    | false =>
      have hb : cornerB (bl s) row col = false := by unfold cornerB; rw [h1, Bool.and_false]; rfl
      have HT : Hid (cornerT (bl s) row col = ⟨#[]⟩) := by show _ = _; unfold cornerT; rw [hb]; rfl
      have HB := Lib.hid hb
      have HC := Lib.hid C0
      have H1 := Lib.hid h1
      rw [HT.out, HB.out]
      clear hb hok C0 h1 hr0 hc0
      go_enter Try.func24, Try.ntmps24
      go_wp2_with fail
      refine (HC.out _).mono ?_
      rintro e w1 ⟨rfl, hb1⟩
      have hz1 := hb1.size
      go_wp2_with fail
      refine (has _ _ _ _ _).mono ?_
      rintro e w2 ⟨rfl, hb2⟩
      rw [H1.out]
      have hbel2 : Below w.heap.size w w2 := (hb1.alloc hz1 _).trans (hb2.mono (by simp; omega))
      go_wp2_with fail
      go_ret2
      exact ⟨rfl, hbel2⟩
    | true =>
      have h1' : 0 ≤ row ∧ row < (rowsOf (bl s) : Int) ∧ 0 ≤ col ∧ col < (colsOf (bl s) : Int) := of_decide_eq_true h1
      obtain ⟨R, hR⟩ : ∃ R, R = rowsOf (bl s) := ⟨_, rfl⟩
      obtain ⟨C, hC⟩ : ∃ C, C = colsOf (bl s) := ⟨_, rfl⟩
      have HBE : Hid (cornerB (bl s) row col = inR R C (row + 1) (col + 1)) := by show _ = _; unfold cornerB; rw [hok, h1, hR, hC]; rfl
      rw [← hR, ← hC] at C0 h1 h1'
      rw [← hR] at hRb
      rw [← hC] at hCb
      obtain ⟨k1, k2, k3, k4⟩ := h1'
      have k5 : row ≤ 32 := by omega
      have k6 : col ≤ 32 := by omega
      have HC := Lib.hid C0
      have H1 := Lib.hid h1
      clear C0 h1 hR hC hr0 hc0 hok
      cases h2 : inR R C (row + 1) (col + 1) with
      | false =>
        rw [h2] at HBE
        have HT : Hid (cornerT (bl s) row col = ⟨#[]⟩) := by show _ = _; unfold cornerT; rw [HBE.out]; rfl
        rw [HT.out, HBE.out]
        have H2 := Lib.hid h2
        clear h2
        go_enter Try.func24, Try.ntmps24
        go_wp2_with fail
        refine (HC.out _).mono ?_
        rintro e w1 ⟨rfl, hb1⟩
        have hz1 := hb1.size
        go_wp2_with fail
        refine (has _ _ _ _ _).mono ?_
        rintro e w2 ⟨rfl, hb2⟩
        rw [H1.out]
        have hz2 : w1.heap.size + 1 ≤ w2.heap.size := by simpa using hb2.size
        have c0 : w2.cell? ⟨w1.heap.size, 0, none⟩ = some (.int .i64 R) := (hb2.cell (p := ⟨w1.heap.size, 0, none⟩) (by simp)).trans (World.cell?_alloc_mark w1 _ _ (0, 0) 0)
        have c1 : w2.cell? ⟨w1.heap.size, 1, none⟩ = some (.int .i64 C) := (hb2.cell (p := ⟨w1.heap.size, 1, none⟩) (by simp)).trans (World.cell?_alloc_mark w1 _ _ (0, 0) 1)
        have hbel2 : Below w.heap.size w w2 := (hb1.alloc hz1 _).trans (hb2.mono (by simp; omega))
        go_wp2_with fail
        refine (has _ _ _ _ _).mono ?_
        rintro e w3 ⟨rfl, hb3⟩
        rw [H2.out]
        have hbel3 : Below w.heap.size w w3 := hbel2.trans (hb3.mono (by omega))
        go_wp2_with fail
        go_ret2
        exact ⟨rfl, hbel3⟩
      | true =>
        rw [h2] at HBE
        have HT : Hid (cornerT (bl s) row col = cornerS (bl s) row col) := by show _ = _; unfold cornerT; rw [HBE.out]; rfl
        rw [HT.out, HBE.out]
        have H2 := Lib.hid h2
        clear h2
        obtain ⟨A, hA⟩ : ∃ A, A = rightC (bl s) row col := ⟨_, rfl⟩
        obtain ⟨B, hB⟩ : ∃ B, B = downC (bl s) row (col + 1) := ⟨_, rfl⟩
        obtain ⟨E, hE⟩ : ∃ E, E = rightC (bl s) (row + 1) col := ⟨_, rfl⟩
        obtain ⟨D, hD⟩ : ∃ D, D = downC (bl s) row col := ⟨_, rfl⟩
        have sA : A.size ≤ 1 := by rw [hA]; exact crease_small _ _ _
        have sB : B.size ≤ 1 := by rw [hB]; exact crease_small _ _ _
        have sC : E.size ≤ 1 := by rw [hE]; exact crease_small _ _ _
        have sD : D.size ≤ 1 := by rw [hD]; exact crease_small _ _ _
        have C1 := fun w => implSheetRight s row col w hs
        have C2 := fun w => implSheetDown s row (col + 1) w hs
        have C3 := fun w => implSheetRight s (row + 1) col w hs
        have C4 := fun w => implSheetDown s row col w hs
        have HS : Hid (cornerS (bl s) row col = A ++ B ++ E ++ D) := by show _ = _; unfold cornerS; rw [hA, hB, hE, hD]
        rw [HS.out]
        rw [← hA] at C1
        rw [← hB] at C2
        rw [← hE] at C3
        rw [← hD] at C4
        have J1 := Lib.hid C1
        have J2 := Lib.hid C2
        have J3 := Lib.hid C3
        have J4 := Lib.hid C4
        clear hA hB hE hD C1 C2 C3 C4
        go_enter Try.func24, Try.ntmps24
        go_wp2_with fail
        refine (HC.out _).mono ?_
        rintro e w1 ⟨rfl, hb1⟩
        have hz1 := hb1.size
        go_wp2_with fail
        refine (has _ _ _ _ _).mono ?_
        rintro e w2 ⟨rfl, hb2⟩
        rw [H1.out]
        have hz2 : w1.heap.size + 1 ≤ w2.heap.size := by simpa using hb2.size
        have c0 : w2.cell? ⟨w1.heap.size, 0, none⟩ = some (.int .i64 R) := (hb2.cell (p := ⟨w1.heap.size, 0, none⟩) (by simp)).trans (World.cell?_alloc_mark w1 _ _ (0, 0) 0)
        have c1 : w2.cell? ⟨w1.heap.size, 1, none⟩ = some (.int .i64 C) := (hb2.cell (p := ⟨w1.heap.size, 1, none⟩) (by simp)).trans (World.cell?_alloc_mark w1 _ _ (0, 0) 1)
        have hbel2 : Below w.heap.size w w2 := (hb1.alloc hz1 _).trans (hb2.mono (by simp; omega))
        go_wp2_with fail
        refine (has _ _ _ _ _).mono ?_
        rintro e w3 ⟨rfl, hb3⟩
        rw [H2.out]
        have hbel3 : Below w.heap.size w w3 := hbel2.trans (hb3.mono (by omega))
        have hz3 := hbel3.size
        clear hb1 hb2 hb3 hbel2
        go_wp2_with fail
        refine (J1.out _).mono ?_
        rintro e w4 ⟨rfl, hb4⟩
        have hz4 := hb4.size
        go_wp2_with fail
        refine (J2.out _).mono ?_
        rintro e w5 ⟨rfl, hb5⟩
        have hz5 := hb5.size
        go_wp2_with fail
        refine (J3.out _).mono ?_
        rintro e w6 ⟨rfl, hb6⟩
        have hz6 := hb6.size
        go_wp2_with fail
        refine (J4.out _).mono ?_
        rintro e w7 ⟨rfl, hb7⟩
        go_wp2_with fail
        go_ret2
        exact ⟨rfl, hbel3.trans ((hb4.trans ((hb5.trans ((hb6.trans (hb7.mono hz6)).mono hz5)).mono hz4)).mono hz3)⟩
end Go.Proofs.Yteabgphbkkapbaa
