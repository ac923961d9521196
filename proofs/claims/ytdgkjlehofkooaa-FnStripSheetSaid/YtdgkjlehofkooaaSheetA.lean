/- The walks of the functions of chapter 4 that only look at the letters of a text: which letters fold, the size of a sheet. Conditions: each theorem's own premises. -/
import Derived.Test.YtdgkjlehofkooaaChecked
import Derived.Test.YtdgkjlehofkooaaBase
import Derived.Deep.QuietTactic
import Derived.BigQuiet
namespace Go.Proofs.Ytdgkjlehofkooaa
set_option maxRecDepth 100000
open Go.RowKit
def wide (c : Int) : Bool := c == 82 || c == 76 || c == 114 || c == 108
def high (c : Int) : Bool := c == 85 || c == 68 || c == 117 || c == 100
def letter (c : UInt8) : Bool := wide c.toNat || high c.toNat
/-- A text folds a sheet. -/
def sheetOk (l : List UInt8) : Bool := l.all letter && decide (l.length ≤ 5)
def colsOf (l : List UInt8) : Nat := 2 ^ l.countP (fun c => wide c.toNat)
def rowsOf (l : List UInt8) : Nat := 2 ^ l.countP (fun c => high c.toNat)
/-- The numbers of rows and of columns that SheetSize returns. -/
def sheetRows (l : List UInt8) : Nat := if sheetOk l then rowsOf l else 0
def sheetCols (l : List UInt8) : Nat := if sheetOk l then colsOf l else 0
theorem wide_not_high {c : Int} (h : wide c = true) : high c = false := by
  simp only [wide, high, Bool.or_eq_true, beq_iff_eq, Bool.or_eq_false_iff, beq_eq_false_iff_ne] at *
  omega
theorem cols_step (s : ByteArray) (k : Nat) (h : k < s.size) : colsOf ((bl s).take (k + 1)) = if wide (s[k].toNat : Int) then colsOf ((bl s).take k) * 2 else colsOf ((bl s).take k) := by
  rw [bl_take s k h]
  unfold colsOf
  rw [List.countP_append, List.countP_singleton]
  cases wide (s[k].toNat : Int) <;> simp [Nat.pow_succ]
theorem rows_step (s : ByteArray) (k : Nat) (h : k < s.size) : rowsOf ((bl s).take (k + 1)) = if high (s[k].toNat : Int) then rowsOf ((bl s).take k) * 2 else rowsOf ((bl s).take k) := by
  rw [bl_take s k h]
  unfold rowsOf
  rw [List.countP_append, List.countP_singleton]
  cases high (s[k].toNat : Int) <;> simp [Nat.pow_succ]
theorem colsOf_bd (l : List UInt8) (h : l.length ≤ 5) : 1 ≤ colsOf l ∧ colsOf l ≤ 32 := by
  unfold colsOf
  have h1 := List.countP_le_length (p := fun c : UInt8 => wide c.toNat) (l := l)
  have h2 : 2 ^ l.countP (fun c : UInt8 => wide c.toNat) ≤ 2 ^ 5 := Nat.pow_le_pow_right (by omega) (by omega)
  have h3 : 0 < 2 ^ l.countP (fun c : UInt8 => wide c.toNat) := Nat.two_pow_pos _
  omega
theorem rowsOf_bd (l : List UInt8) (h : l.length ≤ 5) : 1 ≤ rowsOf l ∧ rowsOf l ≤ 32 := by
  unfold rowsOf
  have h1 := List.countP_le_length (p := fun c : UInt8 => high c.toNat) (l := l)
  have h2 : 2 ^ l.countP (fun c : UInt8 => high c.toNat) ≤ 2 ^ 5 := Nat.pow_le_pow_right (by omega) (by omega)
  have h3 : 0 < 2 ^ l.countP (fun c : UInt8 => high c.toNat) := Nat.two_pow_pos _
  omega
theorem all_take_step {p : UInt8 → Bool} (s : ByteArray) (k : Nat) (h : k < s.size) : ((bl s).take (k + 1)).all p = (((bl s).take k).all p && p s[k]) := by
  rw [bl_take s k h, List.all_append]
  simp
theorem all_false {p : UInt8 → Bool} (s : ByteArray) (k : Nat) (h : k < s.size) (hp : p s[k] = false) : (bl s).all p = false := by
  rw [List.all_eq_false]
  exact ⟨s[k], List.mem_of_getElem? (bl_get s k h), by simp [hp]⟩
theorem all_true {p : UInt8 → Bool} (s : ByteArray) (h : (bl s).all p = true) (k : Nat) (hk : k < s.size) : p s[k] = true := by
  rw [List.all_eq_true] at h
  exact h _ (List.mem_of_getElem? (bl_get s k hk))

theorem l4Wide (c : Int) (w : World) : Calls Try.prog 41 #[.int .u8 c] w fun e w' => e = .returned (.bool (wide c)) ∧ w = w' := by
  go_enter Try.func41, Try.ntmps41
  go_wp2
  all_goals
    go_ret
    exact ⟨ret_bool (by simp [wide, *]), rfl⟩
theorem l4High (c : Int) (w : World) : Calls Try.prog 64 #[.int .u8 c] w fun e w' => e = .returned (.bool (high c)) ∧ w = w' := by
  go_enter Try.func64, Try.ntmps64
  go_wp2
  all_goals
    go_ret
    exact ⟨ret_bool (by simp [high, *]), rfl⟩
set_option maxHeartbeats 400000 in
theorem specSheetValid (s : ByteArray) (w : World) (hs : s.size ≤ maxLen) : Calls Try.prog 46 #[.string s] w fun e w' => e = .returned (.bool (sheetOk (bl s))) ∧ w = w' := by
  unfold maxLen at hs
  go_enter Try.func46, Try.ntmps46
  go_wp2
  go_loop [3] (fun i => ∃ k : Nat, k ≤ s.size ∧ i = .int .i64 k ∧ Hid (((bl s).take k).all letter = true)) (fun i => s.size - (intOf i).toNat)
  case atStart => exact ⟨0, Nat.zero_le _, rfl, Lib.hid rfl⟩
  case round =>
    obtain ⟨k, hk, rfl, HA⟩ := hrel
    by_cases hlt : k < s.size
    · cases hw : wide (s[k].toNat : Int) with
      | true =>
        have HN : Hid (((bl s).take (k + 1)).all letter = true) := by
          show _ = _
          rw [all_take_step s k hlt, HA.out]
          simp [letter, hw]
        go_wp2_with (first | (go_at_call 41; refine (l4Wide _ _).mono ?_; rintro e w' ⟨rfl, rfl⟩))
        go_round
        case rel => exact ⟨k + 1, by omega, by go_num, HN⟩
        case measure => simp [intOf]; omega
      | false =>
        cases hh : high (s[k].toNat : Int) with
        | true =>
          have HN : Hid (((bl s).take (k + 1)).all letter = true) := by
            show _ = _
            rw [all_take_step s k hlt, HA.out]
            simp [letter, hh]
          go_wp2_with (first | (go_at_call 41; refine (l4Wide _ _).mono ?_; rintro e w' ⟨rfl, rfl⟩) | (go_at_call 64; refine (l4High _ _).mono ?_; rintro e w' ⟨rfl, rfl⟩))
          go_round
          case rel => exact ⟨k + 1, by omega, by go_num, HN⟩
          case measure => simp [intOf]; omega
        | false =>
          have HN : Hid (sheetOk (bl s) = false) := by
            show _ = _
            unfold sheetOk
            rw [all_false s k hlt (by simp [letter, hw, hh])]
            rfl
          go_wp2_with (first | (go_at_call 41; refine (l4Wide _ _).mono ?_; rintro e w' ⟨rfl, rfl⟩) | (go_at_call 64; refine (l4High _ _).mono ?_; rintro e w' ⟨rfl, rfl⟩))
          go_ret
          exact ⟨ret_bool HN.out.symm, rfl⟩
    · have HN : Hid (sheetOk (bl s) = decide ((s.size : Int) ≤ 5)) := by
        show _ = _
        obtain rfl : k = s.size := by omega
        unfold sheetOk
        have := HA.out
        rw [bl_full] at this
        rw [this, bl_length]
        simp only [Bool.true_and, decide_eq_decide]
        omega
      go_wp2
      go_ret
      exact ⟨ret_bool HN.out.symm, rfl⟩
theorem sizeOf_many (s : ByteArray) (w : World) (h5 : 5 < s.size) (hs : s.size ≤ maxLen) : Calls Try.prog 33 #[.string s] w fun e w' => e = .returned (.tuple #[.agg #[.int .i64 0, .int .i64 0], .bool false]) ∧ Below w.heap.size w w' := by
  unfold maxLen at hs
  go_enter Try.func33, Try.ntmps33
  go_wp2
  exact bodyPost_ret (v := .tuple #[.agg #[.int .i64 0, .int .i64 0], .bool false]) (by simp [results, Try.results33, go_sem]) rfl ⟨rfl, (by repeat (first | exact Below.refl _ _ | assumption | (refine Below.setCell ?_ (by first | omega | (simp; done) | (simp; omega)) _) | (refine Below.alloc ?_ (by first | omega | (simp; done) | (simp; omega)) _) | (refine below_drewN ?_ _) | (refine Below.drew ?_)))⟩
set_option maxHeartbeats 1000000 in
theorem sizeOf_few (s : ByteArray) (w : World) (h5 : s.size ≤ 5) :
    Calls Try.prog 33 #[.string s] w fun e w' => e = .returned (.tuple #[.agg #[.int .i64 (sheetRows (bl s)), .int .i64 (sheetCols (bl s))], .bool (sheetOk (bl s))]) ∧ Below w.heap.size w w' := by
  go_enter Try.func33, Try.ntmps33
  go_wp2
  go_loopw [5] (fun i wr => ∃ k : Nat, ∃ R C : Nat, k ≤ s.size ∧ i = .int .i64 k ∧ R ≤ 32 ∧ C ≤ 32 ∧ Hid (R = rowsOf ((bl s).take k) ∧ C = colsOf ((bl s).take k) ∧ ((bl s).take k).all letter = true) ∧
      wr = (w.alloc (Obj.cells #[Value.int IntKind.i64 0, Value.int IntKind.i64 0] 54)).alloc (Obj.cells #[Value.int IntKind.i64 R, Value.int IntKind.i64 C] 54)) (fun i _ => s.size - (intOf i).toNat)
  case atStart => exact ⟨0, 1, 1, Nat.zero_le _, rfl, by omega, by omega, Lib.hid ⟨rfl, rfl, rfl⟩, rfl⟩
  case round =>
    obtain ⟨k, R, C, hk, rfl, hR, hC, HRC, rfl⟩ := hrel
    by_cases hlt : k < s.size
    · have HB1 : colsOf ((bl s).take (k + 1)) ≤ 32 := (colsOf_bd _ (by rw [List.length_take]; omega)).2
      have HB2 : rowsOf ((bl s).take (k + 1)) ≤ 32 := (rowsOf_bd _ (by rw [List.length_take]; omega)).2
      have HCS := Lib.hid (cols_step s k hlt)
      have HRS := Lib.hid (rows_step s k hlt)
      have HAS := Lib.hid (all_take_step (p := letter) s k hlt)
      go_wp2
      all_goals first
        | (have hw : wide (s[k].toNat : Int) = true := by simp [wide, *]
           have hc : colsOf ((bl s).take (k + 1)) = C * 2 := by rw [HCS.out, if_pos hw, HRC.out.2.1]
           have hr : rowsOf ((bl s).take (k + 1)) = R := by rw [HRS.out, wide_not_high hw, HRC.out.1]; rfl
           have ha : ((bl s).take (k + 1)).all letter = true := by rw [HAS.out, HRC.out.2.2]; simp [letter, hw]
           go_roundw
           case rel => exact ⟨k + 1, R, C * 2, by omega, by go_num, hR, by omega, Lib.hid ⟨hr.symm, hc.symm, ha⟩, by go_num⟩
           case measure => simp [intOf]; omega)
        | (have hw : wide (s[k].toNat : Int) = false := by simp [wide, *]
           have hh : high (s[k].toNat : Int) = true := by simp [high, *]
           have hc : colsOf ((bl s).take (k + 1)) = C := by rw [HCS.out, hw, HRC.out.2.1]; rfl
           have hr : rowsOf ((bl s).take (k + 1)) = R * 2 := by rw [HRS.out, if_pos hh, HRC.out.1]
           have ha : ((bl s).take (k + 1)).all letter = true := by rw [HAS.out, HRC.out.2.2]; simp [letter, hh]
           go_roundw
           case rel => exact ⟨k + 1, R * 2, C, by omega, by go_num, by omega, hC, Lib.hid ⟨hr.symm, hc.symm, ha⟩, by go_num⟩
           case measure => simp [intOf]; omega)
        | skip
      have hno : sheetOk (bl s) = false := by
        unfold sheetOk
        rw [all_false s k hlt (by simp [letter, wide, high, *])]
        rfl
      have h1 : sheetRows (bl s) = 0 := by unfold sheetRows; rw [hno]; rfl
      have h2 : sheetCols (bl s) = 0 := by unfold sheetCols; rw [hno]; rfl
      rw [hno, h1, h2]
      exact bodyPost_ret (v := .tuple #[.agg #[.int .i64 0, .int .i64 0], .bool false]) (by simp [results, Try.results33, go_sem]) rfl ⟨rfl, (by repeat (first | exact Below.refl _ _ | assumption | (refine Below.setCell ?_ (by first | omega | (simp; done) | (simp; omega)) _) | (refine Below.alloc ?_ (by first | omega | (simp; done) | (simp; omega)) _) | (refine below_drewN ?_ _) | (refine Below.drew ?_)))⟩
    · obtain rfl : k = s.size := by omega
      have hyes : sheetOk (bl s) = true ∧ sheetRows (bl s) = R ∧ sheetCols (bl s) = C := by
        have := HRC.out
        rw [bl_full] at this
        have hok : sheetOk (bl s) = true := by
          unfold sheetOk
          rw [this.2.2, bl_length]
          simp [h5]
        exact ⟨hok, by unfold sheetRows; rw [if_pos hok]; exact this.1.symm, by unfold sheetCols; rw [if_pos hok]; exact this.2.1.symm⟩
      have HY := Lib.hid hyes
      clear hyes
      go_wp2
      rw [HY.out.1, HY.out.2.1, HY.out.2.2]
      exact bodyPost_ret (v := .tuple #[.agg #[.int .i64 R, .int .i64 C], .bool true]) (by simp [results, Try.results33, go_sem]) rfl ⟨rfl, (by repeat (first | exact Below.refl _ _ | assumption | (refine Below.setCell ?_ (by first | omega | (simp; done) | (simp; omega)) _) | (refine Below.alloc ?_ (by first | omega | (simp; done) | (simp; omega)) _) | (refine below_drewN ?_ _) | (refine Below.drew ?_)))⟩
theorem sizeOf (s : ByteArray) (w : World) (hs : s.size ≤ maxLen) :
    Calls Try.prog 33 #[.string s] w fun e w' => e = .returned (.tuple #[.agg #[.int .i64 (sheetRows (bl s)), .int .i64 (sheetCols (bl s))], .bool (sheetOk (bl s))]) ∧ Below w.heap.size w w' := by
  by_cases h5 : s.size ≤ 5
  · exact sizeOf_few s w h5
  · have hok : sheetOk (bl s) = false := by
      unfold sheetOk
      rw [bl_length]
      simp [h5]
    have h1 : sheetRows (bl s) = 0 := by unfold sheetRows; rw [hok]; rfl
    have h2 : sheetCols (bl s) = 0 := by unfold sheetCols; rw [hok]; rfl
    rw [hok, h1, h2]
    exact sizeOf_many s w (by omega) hs
theorem implSheetSize (s : ByteArray) (w : World) (hs : s.size ≤ maxLen) :
    Calls Try.prog 10 #[.string s] w fun e w' => e = .returned (.tuple #[.int .i64 (sheetRows (bl s)), .int .i64 (sheetCols (bl s)), .bool (sheetOk (bl s))]) ∧ Below w.heap.size w w' := by
  go_enter Try.func10, Try.ntmps10
  go_wp2_with (go_at_call 33; refine (sizeOf _ _ hs).mono ?_; rintro e w' ⟨rfl, hb⟩; obtain ⟨hc, hf⟩ := bcell hb; have hz := hb.size)
  go_quiet (fail)
  go_wp2
  go_ret3
  exact ⟨rfl, (by repeat (first | exact Below.refl _ _ | assumption | (refine Below.setCell ?_ (by first | omega | (simp; done) | (simp; omega)) _) | (refine Below.alloc ?_ (by first | omega | (simp; done) | (simp; omega)) _) | (refine below_drewN ?_ _) | (refine Below.drew ?_)))⟩
set_option maxHeartbeats 400000 in
theorem specSheetSize (s : ByteArray) (w : World) (hs : s.size ≤ maxLen) :
    Calls Try.prog 54 #[.string s] w fun e w' => e = .returned (.tuple #[.int .i64 (sheetRows (bl s)), .int .i64 (sheetCols (bl s)), .bool (sheetOk (bl s))]) ∧ w = w' := by
  cases hok : sheetOk (bl s) with
  | false =>
    have h1 : sheetRows (bl s) = 0 := by unfold sheetRows; rw [hok]; rfl
    have h2 : sheetCols (bl s) = 0 := by unfold sheetCols; rw [hok]; rfl
    rw [h1, h2]
    clear h1 h2
    have HOK := Lib.hid hok
    clear hok
    go_enter Try.func54, Try.ntmps54
    go_wp2_with (go_at_call 46; refine (specSheetValid _ _ hs).mono ?_; rintro e w' ⟨rfl, rfl⟩; rw [HOK.out])
    go_ret3
    exact ⟨rfl, rfl⟩
  | true =>
    have h1 : sheetRows (bl s) = rowsOf (bl s) := by unfold sheetRows; rw [hok]; rfl
    have h2 : sheetCols (bl s) = colsOf (bl s) := by unfold sheetCols; rw [hok]; rfl
    rw [h1, h2]
    clear h1 h2
    have h5 : s.size ≤ 5 := by
      unfold sheetOk at hok
      rw [bl_length] at hok
      simp only [Bool.and_eq_true, decide_eq_true_eq] at hok
      exact hok.2
    have HL : Hid (∀ k (hk : k < s.size), letter s[k] = true) := by
      unfold sheetOk at hok
      simp only [Bool.and_eq_true] at hok
      exact all_true s hok.1
    have HOK := Lib.hid hok
    clear hok
    go_enter Try.func54, Try.ntmps54
    go_wp2_with (go_at_call 46; refine (specSheetValid _ _ hs).mono ?_; rintro e w' ⟨rfl, rfl⟩; rw [HOK.out])
    go_loop [5, 6, 7] (fun r c i => ∃ k : Nat, ∃ R C : Nat, k ≤ s.size ∧ i = .int .i64 k ∧ R ≤ 32 ∧ C ≤ 32 ∧ r = .int .i64 R ∧ c = .int .i64 C ∧ Hid (R = rowsOf ((bl s).take k) ∧ C = colsOf ((bl s).take k))) (fun _ _ i => s.size - (intOf i).toNat)
    case atStart => exact ⟨0, 1, 1, Nat.zero_le _, rfl, by omega, by omega, rfl, rfl, Lib.hid ⟨rfl, rfl⟩⟩
    case round =>
      obtain ⟨k, R, C, hk, rfl, hR, hC, rfl, rfl, HRC⟩ := hrel
      by_cases hlt : k < s.size
      · have HB1 : colsOf ((bl s).take (k + 1)) ≤ 32 := (colsOf_bd _ (by rw [List.length_take]; omega)).2
        have HB2 : rowsOf ((bl s).take (k + 1)) ≤ 32 := (rowsOf_bd _ (by rw [List.length_take]; omega)).2
        have HCS := Lib.hid (cols_step s k hlt)
        have HRS := Lib.hid (rows_step s k hlt)
        cases hw : wide (s[k].toNat : Int) with
        | true =>
          go_wp2_with (first | (go_at_call 41; refine (l4Wide _ _).mono ?_; rintro e w' ⟨rfl, rfl⟩))
          have hc : colsOf ((bl s).take (k + 1)) = 2 * C := by rw [HCS.out, if_pos hw, HRC.out.2]; omega
          have hr : rowsOf ((bl s).take (k + 1)) = R := by rw [HRS.out, wide_not_high hw, HRC.out.1]; rfl
          go_round
          case rel => exact ⟨k + 1, R, 2 * C, by omega, by go_num, hR, by omega, rfl, by go_num, Lib.hid ⟨hr.symm, hc.symm⟩⟩
          case measure => simp [intOf]; omega
        | false =>
          go_wp2_with (first | (go_at_call 41; refine (l4Wide _ _).mono ?_; rintro e w' ⟨rfl, rfl⟩))
          have hh : high (s[k].toNat : Int) = true := by
            have := HL.out k hlt
            unfold letter at this
            rw [hw] at this
            simpa using this
          have hc : colsOf ((bl s).take (k + 1)) = C := by rw [HCS.out, hw, HRC.out.2]; rfl
          have hr : rowsOf ((bl s).take (k + 1)) = 2 * R := by rw [HRS.out, if_pos hh, HRC.out.1]; omega
          go_round
          case rel => exact ⟨k + 1, 2 * R, C, by omega, by go_num, by omega, hC, by go_num, rfl, Lib.hid ⟨hr.symm, hc.symm⟩⟩
          case measure => simp [intOf]; omega
      · obtain rfl : k = s.size := by omega
        have HY := HRC.out
        rw [bl_full] at HY
        have HZ := Lib.hid HY
        clear HY
        go_wp2
        go_ret3
        rw [HZ.out.1, HZ.out.2]
        exact ⟨rfl, rfl⟩
end Go.Proofs.Ytdgkjlehofkooaa
