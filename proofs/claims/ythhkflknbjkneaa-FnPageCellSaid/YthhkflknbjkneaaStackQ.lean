/- The walks of PageFront and PageBack, of the program and of the reference. Conditions: each theorem's own premises. -/
import Derived.Test.YthhkflknbjkneaaStackM
namespace Go.Proofs.Ythhkflknbjkneaa
open Go.RowKit
theorem area_eq : ∀ l : List UInt8, (∀ c ∈ l, letter c = true) → rowsOf l * colsOf l = 2 ^ l.length
  | [], _ => rfl
  | c :: l, h => by
    have ih := area_eq l fun x hx => h x (List.mem_cons_of_mem _ hx)
    rw [rowsOf_cons, colsOf_cons, letter_high (h c List.mem_cons_self), List.length_cons, Nat.pow_succ, ← ih]
    cases high (c.toNat : Int)
    · simp only [Bool.not_false, if_true, Bool.false_eq_true, if_false]
      rw [Nat.mul_left_comm]
      omega
    · simp only [Bool.not_true, if_true, Bool.false_eq_true, if_false]
      rw [Nat.mul_assoc]
      omega
/-- The upper page of the cell at a level. -/
def upperC (l : List UInt8) (k : Nat) : Int := 2 * ((stackC l).length - 1 - k) + 1
/-- The page on the front of a cell, or -1. -/
def frontC (l : List UInt8) (row col : Int) : Int :=
  match lv l row col with
  | some k => if (celOf l k).up then upperC l k else upperC l k + 1
  | none => -1
/-- The page on the back of a cell, or -1. -/
def backC (l : List UInt8) (row col : Int) : Int :=
  match lv l row col with
  | some k => if (celOf l k).up then upperC l k + 1 else upperC l k
  | none => -1
theorem frontC_some {l : List UInt8} {row col : Int} {k : Nat} (h : lv l row col = some k) : frontC l row col = if (celOf l k).up then upperC l k else upperC l k + 1 := by unfold frontC; rw [h]
theorem frontC_none {l : List UInt8} {row col : Int} (h : lv l row col = none) : frontC l row col = -1 := by unfold frontC; rw [h]
theorem backC_some {l : List UInt8} {row col : Int} {k : Nat} (h : lv l row col = some k) : backC l row col = if (celOf l k).up then upperC l k + 1 else upperC l k := by unfold backC; rw [h]
theorem backC_none {l : List UInt8} {row col : Int} (h : lv l row col = none) : backC l row col = -1 := by unfold backC; rw [h]
theorem upper_bd {l : List UInt8} {row col : Int} {k : Nat} (h : lv l row col = some k) : ∃ q : Nat, upperC l k = 2 * (q : Int) + 1 ∧ q ≤ 31 ∧ q + 1 + k = (stackC l).length := by
  have hk := lv_lt h
  have hb := (stackC_bd (lv_in h).1).2
  refine ⟨(stackC l).length - 1 - k, ?_, by omega, by omega⟩
  unfold upperC
  omega
/-- The two pages, and whether there are. -/
def pagesC (l : List UInt8) (row col : Int) : Int × Int × Bool :=
  match lv l row col with
  | some _ => (frontC l row col, backC l row col, true)
  | none => (0, 0, false)
theorem ret_pages {a b a' b' : Int} {c : Bool} (h1 : a = a') (h2 : b = b') : Ending.returned (.tuple #[.int .i64 a, .int .i64 b, .bool c]) = .returned (.tuple #[.int .i64 a', .int .i64 b', .bool c]) := by rw [h1, h2]
set_option maxHeartbeats 2000000 in
theorem pagesOf (s : ByteArray) (row col : Int) (w : World) (hs : s.size ≤ maxLen) :
    Calls Try.prog 26 #[.string s, .int .i64 row, .int .i64 col] w fun e w' => e = .returned (.tuple #[.int .i64 (pagesC (bl s) row col).1, .int .i64 (pagesC (bl s) row col).2.1, .bool (pagesC (bl s) row col).2.2]) ∧ Below w.heap.size w w' := by
  have C1 := fun w => cellAt s row col w hs
  cases hv : lv (bl s) row col with
  | none =>
    have hc : cellAtC (bl s) row col = (0, ⟨0, 0, false, false⟩, false) := by unfold cellAtC; rw [hv]
    have HP : Hid (pagesC (bl s) row col = (0, 0, false)) := by show _ = _; unfold pagesC; rw [hv]
    rw [hc] at C1
    have HC := Lib.hid C1
    clear C1 hv hc
    rw [HP.out]
    go_enter Try.func26, Try.ntmps26
    go_wp2_with fail
    refine (HC.out _).mono ?_
    rintro e w1 ⟨rfl, hb⟩
    have hz := hb.size
    go_wp2_with fail
    go_ret3
    exact ⟨rfl, (by repeat (first | exact Below.refl _ _ | assumption | (refine Below.setCell ?_ (by first | omega | (simp; done) | (simp; omega)) _) | (refine Below.alloc ?_ (by first | omega | (simp; done) | (simp; omega)) _) | (refine below_drewN ?_ _) | (refine Below.drew ?_)))⟩
  | some k =>
    have hc : cellAtC (bl s) row col = (k, celOf (bl s) k, true) := by unfold cellAtC; rw [hv]
    have HP : Hid (pagesC (bl s) row col = (if (celOf (bl s) k).up then upperC (bl s) k else upperC (bl s) k + 1, if (celOf (bl s) k).up then upperC (bl s) k + 1 else upperC (bl s) k, true)) := by
      show _ = _
      unfold pagesC
      rw [hv, frontC_some hv, backC_some hv]
    obtain ⟨q, hq, hq1, hq2⟩ := upper_bd hv
    have hok := (lv_in hv).1
    have C2 := fun w => sizeOf s w hs
    have hr0 : sheetRows (bl s) = rowsOf (bl s) := by unfold sheetRows; rw [hok]; rfl
    have hc0 : sheetCols (bl s) = colsOf (bl s) := by unfold sheetCols; rw [hok]; rfl
    rw [hr0, hc0, hok] at C2
    have har := area_eq (bl s) (ok_is hok).1
    rw [← stackC_length, ← hq2] at har
    have hRb := (rowsOf_bd _ (ok_is hok).2).2
    have hCb := (colsOf_bd _ (ok_is hok).2).2
    obtain ⟨R, hR⟩ : ∃ R, R = rowsOf (bl s) := ⟨_, rfl⟩
    obtain ⟨C, hC⟩ : ∃ C, C = colsOf (bl s) := ⟨_, rfl⟩
    rw [← hR, ← hC] at C2 har
    rw [← hR] at hRb
    rw [← hC] at hCb
    rw [hc] at C1
    rw [hq] at HP
    have hk : k ≤ 31 := by have := (stackC_bd hok).2; omega
    have hm : (R : Int) * (C : Int) = (q : Int) + 1 + (k : Int) := by rw [← Int.natCast_mul, har]; omega
    have hmw : IntKind.i64.wrap ((R : Int) * (C : Int)) = (q : Int) + 1 + (k : Int) := by rw [hm, IntKind.wrap_i64]; omega
    obtain ⟨p, hp⟩ : ∃ p, p = celOf (bl s) k := ⟨_, rfl⟩
    rw [← hp] at C1 HP
    have HC := Lib.hid C1
    have HC2 := Lib.hid C2
    have HM := Lib.hid hm
    have HMW := Lib.hid hmw
    clear C1 C2 hv hc hq har hR hC hp hr0 hc0 hm hmw hok
    cases hu : p.up with
    | true =>
      rw [hu] at HC HP
      rw [HP.out]
      clear hu
      go_enter Try.func26, Try.ntmps26
      go_wp2_with fail
      refine (HC.out _).mono ?_
      rintro e w1 ⟨rfl, hb⟩
      have hz := hb.size
      go_wp2_with fail
      refine (HC2.out _).mono ?_
      rintro e w2 ⟨rfl, hb2⟩
      have hz2 : w1.heap.size + 1 ≤ w2.heap.size := by simpa using hb2.size
      have hb12 : Below w.heap.size w w2 := (hb.alloc hz _).trans (hb2.mono (by simp; omega))
      obtain ⟨d1, d2, d3, d4, f1, f2, f3, f4⟩ := ((Four.new w1 (.int .i64 p.row) (.int .i64 p.col) (.bool true) (.bool p.head) 28).below hb2 (Nat.le_refl _)).keep (Below.heap_alloc w2 (.cells #[.int .i64 R, .int .i64 C] 53) _ (by omega))
      have hm := HM.out
      have hmw := HMW.out
      clear hb2
      go_wp2_with fail
      first | go_quiet (fail) | skip
      go_wp2_with fail
      first | go_quiet (fail) | skip
      go_wp2_with fail
      go_ret3
      clear hm hmw
      exact ⟨ret_pages (by simp; try omega) (by simp; try omega), (by repeat (first | exact Below.refl _ _ | assumption | (refine Below.setCell ?_ (by first | omega | (simp; done) | (simp; omega)) _) | (refine Below.alloc ?_ (by first | omega | (simp; done) | (simp; omega)) _) | (refine below_drewN ?_ _) | (refine Below.drew ?_)))⟩
    | false =>
      rw [hu] at HC HP
      rw [HP.out]
      clear hu
      go_enter Try.func26, Try.ntmps26
      go_wp2_with fail
      refine (HC.out _).mono ?_
      rintro e w1 ⟨rfl, hb⟩
      have hz := hb.size
      go_wp2_with fail
      refine (HC2.out _).mono ?_
      rintro e w2 ⟨rfl, hb2⟩
      have hz2 : w1.heap.size + 1 ≤ w2.heap.size := by simpa using hb2.size
      have hb12 : Below w.heap.size w w2 := (hb.alloc hz _).trans (hb2.mono (by simp; omega))
      obtain ⟨d1, d2, d3, d4, f1, f2, f3, f4⟩ := ((Four.new w1 (.int .i64 p.row) (.int .i64 p.col) (.bool false) (.bool p.head) 28).below hb2 (Nat.le_refl _)).keep (Below.heap_alloc w2 (.cells #[.int .i64 R, .int .i64 C] 53) _ (by omega))
      have hm := HM.out
      have hmw := HMW.out
      clear hb2
      go_wp2_with fail
      first | go_quiet (fail) | skip
      go_wp2_with fail
      first | go_quiet (fail) | skip
      go_wp2_with fail
      go_ret3
      clear hm hmw
      exact ⟨ret_pages (by simp; try omega) (by simp; try omega), (by repeat (first | exact Below.refl _ _ | assumption | (refine Below.setCell ?_ (by first | omega | (simp; done) | (simp; omega)) _) | (refine Below.alloc ?_ (by first | omega | (simp; done) | (simp; omega)) _) | (refine below_drewN ?_ _) | (refine Below.drew ?_)))⟩
theorem implPageFront (s : ByteArray) (row col : Int) (w : World) (hs : s.size ≤ maxLen) :
    Calls Try.prog 10 #[.string s, .int .i64 row, .int .i64 col] w fun e w' => e = .returned (.int .i64 (frontC (bl s) row col)) ∧ Below w.heap.size w w' := by
  have C1 := fun w => pagesOf s row col w hs
  cases hv : lv (bl s) row col with
  | none =>
    have hp : pagesC (bl s) row col = (0, 0, false) := by unfold pagesC; rw [hv]
    have HF := Lib.hid (frontC_none hv)
    rw [hp] at C1
    have HC := Lib.hid C1
    clear C1 hv hp
    rw [HF.out]
    go_enter Try.func10, Try.ntmps10
    go_wp2_with fail
    refine (HC.out _).mono ?_
    rintro e w1 ⟨rfl, hb⟩
    go_wp2_with fail
    go_ret
    exact ⟨rfl, hb⟩
  | some k =>
    have hp : pagesC (bl s) row col = (frontC (bl s) row col, backC (bl s) row col, true) := by unfold pagesC; rw [hv]
    rw [hp] at C1
    have HC := Lib.hid C1
    clear C1 hv hp
    go_enter Try.func10, Try.ntmps10
    go_wp2_with fail
    refine (HC.out _).mono ?_
    rintro e w1 ⟨rfl, hb⟩
    go_wp2_with fail
    go_ret
    exact ⟨rfl, hb⟩
theorem implPageBack (s : ByteArray) (row col : Int) (w : World) (hs : s.size ≤ maxLen) :
    Calls Try.prog 12 #[.string s, .int .i64 row, .int .i64 col] w fun e w' => e = .returned (.int .i64 (backC (bl s) row col)) ∧ Below w.heap.size w w' := by
  have C1 := fun w => pagesOf s row col w hs
  cases hv : lv (bl s) row col with
  | none =>
    have hp : pagesC (bl s) row col = (0, 0, false) := by unfold pagesC; rw [hv]
    have HF := Lib.hid (backC_none hv)
    rw [hp] at C1
    have HC := Lib.hid C1
    clear C1 hv hp
    rw [HF.out]
    go_enter Try.func12, Try.ntmps12
    go_wp2_with fail
    refine (HC.out _).mono ?_
    rintro e w1 ⟨rfl, hb⟩
    go_wp2_with fail
    go_ret
    exact ⟨rfl, hb⟩
  | some k =>
    have hp : pagesC (bl s) row col = (frontC (bl s) row col, backC (bl s) row col, true) := by unfold pagesC; rw [hv]
    rw [hp] at C1
    have HC := Lib.hid C1
    clear C1 hv hp
    go_enter Try.func12, Try.ntmps12
    go_wp2_with fail
    refine (HC.out _).mono ?_
    rintro e w1 ⟨rfl, hb⟩
    go_wp2_with fail
    go_ret
    exact ⟨rfl, hb⟩
set_option maxHeartbeats 1000000 in
theorem specPageFront (s : ByteArray) (row col : Int) (w : World) (hs : s.size ≤ maxLen) :
    Calls Try.prog 9 #[.string s, .int .i64 row, .int .i64 col] w fun e w' => e = .returned (.int .i64 (frontC (bl s) row col)) ∧ Below w.heap.size w w' := by
  have C1 := fun w => specSheetLevel s row col w hs
  cases hv : lv (bl s) row col with
  | none =>
    have HF := Lib.hid (frontC_none hv)
    have e0 : lvI none = -1 := rfl
    rw [hv, e0] at C1
    have HC := Lib.hid C1
    clear C1 hv e0
    rw [HF.out]
    go_enter Try.func9, Try.ntmps9
    go_wp2_with fail
    refine (HC.out _).mono ?_
    rintro e w1 ⟨rfl, hb⟩
    go_wp2_with fail
    go_ret
    exact ⟨rfl, hb⟩
  | some k =>
    have HF := Lib.hid (frontC_some hv)
    obtain ⟨q, hq, hq1, hq2⟩ := upper_bd hv
    obtain ⟨hok, hp, _⟩ := lv_in hv
    have hk : k ≤ 31 := by have := (stackC_bd hok).2; omega
    have e0 : lvI (some k) = (k : Int) := rfl
    rw [hv, e0] at C1
    have HC := Lib.hid C1
    have HP := Lib.hid hp
    have HOK := Lib.hid hok
    obtain ⟨n, hn⟩ : ∃ n, (stackC (bl s)).length = n := ⟨_, rfl⟩
    rw [hn] at hq2
    have HN := Lib.hid hn
    have HQ := Lib.hid hq
    have k1 : (0 : Int) ≤ (k : Int) := by omega
    have k2 : (k : Int) < (n : Int) := by omega
    have k3 : n ≤ 32 := by rw [← hn]; exact (stackC_bd hok).2
    clear C1 hv e0 hp hok hn hq
    rw [HF.out, HQ.out]
    obtain ⟨p, hp⟩ : ∃ p, p = celOf (bl s) k := ⟨_, rfl⟩
    rw [← hp] at HP ⊢
    clear hp
    cases hu : p.up with
    | true =>
      go_enter Try.func9, Try.ntmps9
      go_wp2_with fail
      refine (HC.out _).mono ?_
      rintro e w1 ⟨rfl, hb⟩
      have hz := hb.size
      go_wp2_with fail
      refine (l4Stack s _ HOK.out).mono ?_
      rintro e w2 ⟨g, cap, rfl, hr, hb2⟩
      rw [HN.out]
      obtain ⟨c1, c2, c3, c4⟩ := hr.at HP.out
      rw [hu] at c3
      clear hr
      go_wp2_with fail
      go_ret
      exact ⟨ret_int (by simp; try omega), hb.trans (hb2.mono hz)⟩
    | false =>
      go_enter Try.func9, Try.ntmps9
      go_wp2_with fail
      refine (HC.out _).mono ?_
      rintro e w1 ⟨rfl, hb⟩
      have hz := hb.size
      go_wp2_with fail
      refine (l4Stack s _ HOK.out).mono ?_
      rintro e w2 ⟨g, cap, rfl, hr, hb2⟩
      rw [HN.out]
      obtain ⟨c1, c2, c3, c4⟩ := hr.at HP.out
      rw [hu] at c3
      clear hr
      go_wp2_with fail
      go_ret
      exact ⟨ret_int (by simp; try omega), hb.trans (hb2.mono hz)⟩
set_option maxHeartbeats 1000000 in
theorem specPageBack (s : ByteArray) (row col : Int) (w : World) (hs : s.size ≤ maxLen) :
    Calls Try.prog 11 #[.string s, .int .i64 row, .int .i64 col] w fun e w' => e = .returned (.int .i64 (backC (bl s) row col)) ∧ Below w.heap.size w w' := by
  have C1 := fun w => specPageFront s row col w hs
  cases hv : lv (bl s) row col with
  | none =>
    have HF := Lib.hid (backC_none hv)
    rw [frontC_none hv] at C1
    have HC := Lib.hid C1
    clear C1 hv
    rw [HF.out]
    go_enter Try.func11, Try.ntmps11
    go_wp2_with fail
    refine (HC.out _).mono ?_
    rintro e w1 ⟨rfl, hb⟩
    go_wp2_with fail
    go_ret
    exact ⟨rfl, hb⟩
  | some k =>
    have HF := Lib.hid (backC_some hv)
    obtain ⟨q, hq, hq1, hq2⟩ := upper_bd hv
    rw [frontC_some hv, hq] at C1
    have HQ := Lib.hid hq
    clear hv hq
    rw [HF.out, HQ.out]
    cases hu : (celOf (bl s) k).up with
    | true =>
      rw [hu] at C1
      have HC := Lib.hid C1
      have e1 : ((2 * (q : Int) + 1) % 2 == 1) = true := by rw [beq_iff_eq]; omega
      clear C1 hu
      go_enter Try.func11, Try.ntmps11
      go_wp2_with fail
      refine (HC.out _).mono ?_
      rintro e w1 ⟨rfl, hb⟩
      simp only [if_true]
      go_wp2_with fail
      go_ret
      exact ⟨ret_int (by simp; try omega), hb⟩
    | false =>
      rw [hu] at C1
      have HC := Lib.hid C1
      have e1 : ((2 * (q : Int) + 1 + 1) % 2 == 1) = false := by rw [beq_eq_false_iff_ne]; omega
      clear C1 hu
      go_enter Try.func11, Try.ntmps11
      go_wp2_with fail
      refine (HC.out _).mono ?_
      rintro e w1 ⟨rfl, hb⟩
      simp only [Bool.false_eq_true, if_false]
      go_wp2_with fail
      go_ret
      exact ⟨ret_int (by simp; try omega), hb⟩
end Go.Proofs.Ythhkflknbjkneaa
