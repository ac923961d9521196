/- The walks of the creases of a folded sheet, of the program and of the reference. Conditions: each theorem's own premises. -/
import Derived.Test.YtdgkjlehofkooaaStackL
namespace Go.Proofs.Ytdgkjlehofkooaa
set_option maxRecDepth 100000
open Go.RowKit
/-- The crease between two cells, told by their levels. -/
def creaseC (l : List UInt8) : Option Nat → Option Nat → ByteArray
  | some a, some b => if (celOf l (min a b)).up then ⟨#[86]⟩ else ⟨#[77]⟩
  | _, _ => ⟨#[]⟩
theorem creaseC_none (l : List UInt8) (o : Option Nat) : creaseC l none o = ⟨#[]⟩ := rfl
theorem creaseC_none2 (l : List UInt8) (o : Option Nat) : creaseC l o none = ⟨#[]⟩ := by cases o <;> rfl
theorem creaseC_some (l : List UInt8) (a b : Nat) : creaseC l (some a) (some b) = if (celOf l (min a b)).up then ⟨#[86]⟩ else ⟨#[77]⟩ := rfl
def rightC (l : List UInt8) (row col : Int) : ByteArray := creaseC l (lv l row col) (lv l row (col + 1))
def downC (l : List UInt8) (row col : Int) : ByteArray := creaseC l (lv l row col) (lv l (row + 1) col)
theorem lv_far {l : List UInt8} {row col : Int} (h : ¬ (0 ≤ row ∧ row ≤ 1000 ∧ 0 ≤ col ∧ col ≤ 1000)) : lv l row col = none := by
  cases e : lv l row col with
  | none => rfl
  | some k =>
    obtain ⟨hok, _, _, _, hin⟩ := lv_in e
    have h5 := (ok_is hok).2
    have b1 := (rowsOf_bd l h5).2
    have b2 := (colsOf_bd l h5).2
    have hin : 0 ≤ row ∧ row < (rowsOf l : Int) ∧ 0 ≤ col ∧ col < (colsOf l : Int) := of_decide_eq_true hin
    exact absurd ⟨by omega, by omega, by omega, by omega⟩ h
theorem lv_lt {l : List UInt8} {row col : Int} {k : Nat} (h : lv l row col = some k) : k < (stackC l).length := by
  obtain ⟨_, hk, _⟩ := lv_in h
  exact (List.getElem?_eq_some_iff.1 hk).1
theorem crease_small (l : List UInt8) (a b : Option Nat) : (creaseC l a b).size ≤ 1 := by
  cases a with
  | none => exact Nat.zero_le _
  | some a =>
    cases b with
    | none => exact Nat.zero_le _
    | some b =>
      rw [creaseC_some]
      cases (celOf l (min a b)).up <;> exact Nat.le_refl 1
theorem l6In_yes (n lo hi : Int) (w : World) (h1 : lo ≤ n) (h2 : n ≤ hi) : Calls Try.prog 30 #[.int .i64 n, .int .i64 lo, .int .i64 hi] w fun e w' => e = .returned (.bool true) ∧ w = w' := by
  go_enter Try.func30, Try.ntmps30
  go_wp2
  go_ret
  exact ⟨rfl, rfl⟩
theorem l6In_no (n lo hi : Int) (w : World) (h : ¬ (lo ≤ n ∧ n ≤ hi)) : Calls Try.prog 30 #[.int .i64 n, .int .i64 lo, .int .i64 hi] w fun e w' => e = .returned (.bool false) ∧ w = w' := by
  by_cases h1 : lo ≤ n
  · have h2 : ¬ n ≤ hi := fun h2 => h ⟨h1, h2⟩
    clear h
    go_enter Try.func30, Try.ntmps30
    go_wp2
    go_ret
    exact ⟨rfl, rfl⟩
  · clear h
    go_enter Try.func30, Try.ntmps30
    go_wp2
    go_ret
    exact ⟨rfl, rfl⟩
set_option maxHeartbeats 1000000 in
theorem l4Crease (s : ByteArray) (oa ob : Option Nat) (w : World) (h : ∀ a, oa = some a → ∀ b, ob = some b → sheetOk (bl s) = true ∧ a < (stackC (bl s)).length ∧ b < (stackC (bl s)).length) :
    Calls Try.prog 31 #[.string s, .int .i64 (lvI oa), .int .i64 (lvI ob)] w fun e w' => e = .returned (.string (creaseC (bl s) oa ob)) ∧ Below w.heap.size w w' := by
  cases oa with
  | none =>
    rw [creaseC_none]
    have e1 : lvI none = -1 := rfl
    rw [e1]
    clear h e1
    go_enter Try.func31, Try.ntmps31
    go_wp2
    go_ret
    exact ⟨rfl, Below.refl _ _⟩
  | some a =>
    cases ob with
    | none =>
      rw [creaseC_none2]
      have e1 : lvI none = -1 := rfl
      have e2 : lvI (some a) = (a : Int) := rfl
      rw [e1, e2]
      clear h e1 e2
      go_enter Try.func31, Try.ntmps31
      go_wp2
      go_ret
      exact ⟨rfl, Below.refl _ _⟩
    | some b =>
      obtain ⟨hok, h1, h2⟩ := h a rfl b rfl
      have hn := (stackC_bd hok).2
      have e1 : lvI (some b) = (b : Int) := rfl
      have e2 : lvI (some a) = (a : Int) := rfl
      rw [e1, e2]
      clear e1 e2 h
      obtain ⟨n, hnn⟩ : ∃ n, (stackC (bl s)).length = n := ⟨_, rfl⟩
      rw [hnn] at h1 h2 hn
      by_cases hab : b < a
      · have t1 : (b : Int) < (a : Int) := by omega
        obtain ⟨p, hp⟩ : ∃ p, (stackC (bl s))[b]? = some p := ⟨_, List.getElem?_eq_getElem (by omega)⟩
        have HC : Hid (creaseC (bl s) (some a) (some b) = if p.up then ⟨#[86]⟩ else ⟨#[77]⟩) := by
          show _ = _
          rw [creaseC_some, show min a b = b from by omega]
          unfold celOf
          rw [hp]
          rfl
        have HP := Lib.hid hp
        have HOK := Lib.hid hok
        have HNN := Lib.hid hnn
        have k1 : (0 : Int) ≤ (b : Int) := by omega
        have k2 : (b : Int) < (n : Int) := by omega
        clear hp hok hnn
        cases hu : p.up with
        | true =>
          have HU := Lib.hid hu
          clear hu
          go_enter Try.func31, Try.ntmps31
          go_wp2_with fail
          refine (l4Stack s _ HOK.out).mono ?_
          rintro e w1 ⟨g, cap, rfl, hr, hb⟩
          rw [HNN.out]
          obtain ⟨c1, c2, c3, c4⟩ := hr.at HP.out
          rw [HU.out] at c3
          clear hr
          go_wp2_with fail
          go_ret
          rw [HC.out, HU.out]
          exact ⟨rfl, hb⟩
        | false =>
          have HU := Lib.hid hu
          clear hu
          go_enter Try.func31, Try.ntmps31
          go_wp2_with fail
          refine (l4Stack s _ HOK.out).mono ?_
          rintro e w1 ⟨g, cap, rfl, hr, hb⟩
          rw [HNN.out]
          obtain ⟨c1, c2, c3, c4⟩ := hr.at HP.out
          rw [HU.out] at c3
          clear hr
          go_wp2_with fail
          go_ret
          rw [HC.out, HU.out]
          exact ⟨rfl, hb⟩
      · have t1 : (a : Int) ≤ (b : Int) := by omega
        obtain ⟨p, hp⟩ : ∃ p, (stackC (bl s))[a]? = some p := ⟨_, List.getElem?_eq_getElem (by omega)⟩
        have HC : Hid (creaseC (bl s) (some a) (some b) = if p.up then ⟨#[86]⟩ else ⟨#[77]⟩) := by
          show _ = _
          rw [creaseC_some, show min a b = a from by omega]
          unfold celOf
          rw [hp]
          rfl
        have HP := Lib.hid hp
        have HOK := Lib.hid hok
        have HNN := Lib.hid hnn
        have k1 : (0 : Int) ≤ (a : Int) := by omega
        have k2 : (a : Int) < (n : Int) := by omega
        clear hp hok hnn
        cases hu : p.up with
        | true =>
          have HU := Lib.hid hu
          clear hu
          go_enter Try.func31, Try.ntmps31
          go_wp2_with fail
          refine (l4Stack s _ HOK.out).mono ?_
          rintro e w1 ⟨g, cap, rfl, hr, hb⟩
          rw [HNN.out]
          obtain ⟨c1, c2, c3, c4⟩ := hr.at HP.out
          rw [HU.out] at c3
          clear hr
          go_wp2_with fail
          go_ret
          rw [HC.out, HU.out]
          exact ⟨rfl, hb⟩
        | false =>
          have HU := Lib.hid hu
          clear hu
          go_enter Try.func31, Try.ntmps31
          go_wp2_with fail
          refine (l4Stack s _ HOK.out).mono ?_
          rintro e w1 ⟨g, cap, rfl, hr, hb⟩
          rw [HNN.out]
          obtain ⟨c1, c2, c3, c4⟩ := hr.at HP.out
          rw [HU.out] at c3
          clear hr
          go_wp2_with fail
          go_ret
          rw [HC.out, HU.out]
          exact ⟨rfl, hb⟩
theorem lv_pair {l : List UInt8} {r1 c1 r2 c2 : Int} : ∀ a, lv l r1 c1 = some a → ∀ b, lv l r2 c2 = some b → sheetOk l = true ∧ a < (stackC l).length ∧ b < (stackC l).length := fun _ ha _ hb => ⟨(lv_in ha).1, lv_lt ha, lv_lt hb⟩
set_option maxHeartbeats 1000000 in
theorem specSheetRight (s : ByteArray) (row col : Int) (w : World) (hs : s.size ≤ maxLen) :
    Calls Try.prog 9 #[.string s, .int .i64 row, .int .i64 col] w fun e w' => e = .returned (.string (rightC (bl s) row col)) ∧ Below w.heap.size w w' := by
  by_cases hin : 0 ≤ col ∧ col ≤ 1000
  · obtain ⟨h1, h2⟩ := hin
    have C := fun w => l4Crease s (lv (bl s) row col) (lv (bl s) row (col + 1)) w lv_pair
    have HC := Lib.hid C
    clear C
    go_enter Try.func9, Try.ntmps9
    go_wp2_with fail
    refine (l6In_yes _ _ _ _ h1 h2).mono ?_
    rintro e w1 ⟨rfl, rfl⟩
    go_wp2_with fail
    refine (specSheetLevel s _ _ _ hs).mono ?_
    rintro e w2 ⟨rfl, hb2⟩
    have hz2 := hb2.size
    go_wp2_with fail
    refine (specSheetLevel s _ _ _ hs).mono ?_
    rintro e w3 ⟨rfl, hb3⟩
    have hz3 := hb3.size
    go_wp2_with fail
    refine (HC.out _).mono ?_
    rintro e w4 ⟨rfl, hb4⟩
    go_wp2_with fail
    go_ret
    exact ⟨rfl, hb2.trans ((hb3.trans (hb4.mono hz3)).mono hz2)⟩
  · have HV : Hid (rightC (bl s) row col = ⟨#[]⟩) := by show _ = _; unfold rightC; rw [lv_far (fun h => hin ⟨h.2.2.1, h.2.2.2⟩)]; rfl
    rw [HV.out]
    go_enter Try.func9, Try.ntmps9
    go_wp2_with fail
    refine (l6In_no _ _ _ _ hin).mono ?_
    rintro e w1 ⟨rfl, rfl⟩
    go_wp2_with fail
    go_ret
    exact ⟨rfl, Below.refl _ _⟩
set_option maxHeartbeats 1000000 in
theorem creaseOf (s : ByteArray) (r1 c1 r2 c2 : Int) (w : World) (hs : s.size ≤ maxLen) :
    Calls Try.prog 29 #[.string s, .int .i64 r1, .int .i64 c1, .int .i64 r2, .int .i64 c2] w fun e w' => e = .returned (.string (creaseC (bl s) (lv (bl s) r1 c1) (lv (bl s) r2 c2))) ∧ Below w.heap.size w w' := by
  have C1 := fun w => cellAt s r1 c1 w hs
  have C2 := fun w => cellAt s r2 c2 w hs
  cases hv1 : lv (bl s) r1 c1 with
  | none =>
    rw [creaseC_none]
    have hc : cellAtC (bl s) r1 c1 = (0, ⟨0, 0, false, false⟩, false) := by unfold cellAtC; rw [hv1]
    rw [hc] at C1
    have HC := Lib.hid C1
    clear C1 C2 hv1 hc
    go_enter Try.func29, Try.ntmps29
    go_wp2_with fail
    refine (HC.out _).mono ?_
    rintro e w1 ⟨rfl, hb⟩
    have hz := hb.size
    go_wp2_with fail
    go_ret
    exact ⟨rfl, (by repeat (first | exact Below.refl _ _ | assumption | (refine Below.setCell ?_ (by first | omega | (simp; done) | (simp; omega)) _) | (refine Below.alloc ?_ (by first | omega | (simp; done) | (simp; omega)) _) | (refine below_drewN ?_ _) | (refine Below.drew ?_)))⟩
  | some a =>
    have hc1 : cellAtC (bl s) r1 c1 = (a, celOf (bl s) a, true) := by unfold cellAtC; rw [hv1]
    rw [hc1] at C1
    have HC1 := Lib.hid C1
    have hlt := lv_lt hv1
    have hok := (lv_in hv1).1
    have ha := (stackC_bd hok).2
    clear C1 hv1 hc1
    cases hv2 : lv (bl s) r2 c2 with
    | none =>
      rw [creaseC_none2]
      have hc : cellAtC (bl s) r2 c2 = (0, ⟨0, 0, false, false⟩, false) := by unfold cellAtC; rw [hv2]
      rw [hc] at C2
      have HC2 := Lib.hid C2
      clear C2 hv2 hc hok
      go_enter Try.func29, Try.ntmps29
      go_wp2_with fail
      refine (HC1.out _).mono ?_
      rintro e w1 ⟨rfl, hb⟩
      have hz := hb.size
      go_wp2_with fail
      refine (HC2.out _).mono ?_
      rintro e w2 ⟨rfl, hb2⟩
      have hz2 : w1.heap.size + 1 ≤ w2.heap.size := by simpa using hb2.size
      have hb12 : Below w.heap.size w w2 := (hb.alloc hz _).trans (hb2.mono (by simp; omega))
      go_wp2_with fail
      go_ret
      exact ⟨rfl, (by repeat (first | exact Below.refl _ _ | assumption | (refine Below.setCell ?_ (by first | omega | (simp; done) | (simp; omega)) _) | (refine Below.alloc ?_ (by first | omega | (simp; done) | (simp; omega)) _) | (refine below_drewN ?_ _) | (refine Below.drew ?_)))⟩
    | some b =>
      have hc2 : cellAtC (bl s) r2 c2 = (b, celOf (bl s) b, true) := by unfold cellAtC; rw [hv2]
      rw [hc2] at C2
      have HC2 := Lib.hid C2
      have hlt2 := lv_lt hv2
      clear C2 hv2 hc2
      obtain ⟨n, hnn⟩ : ∃ n, (stackC (bl s)).length = n := ⟨_, rfl⟩
      rw [hnn] at hlt hlt2 ha
      obtain ⟨pa, hpa⟩ : ∃ p, p = celOf (bl s) a := ⟨_, rfl⟩
      obtain ⟨pb, hpb⟩ : ∃ p, p = celOf (bl s) b := ⟨_, rfl⟩
      have HX : Hid (creaseC (bl s) (some a) (some b) = if (if b < a then pb.up else pa.up) then ⟨#[86]⟩ else ⟨#[77]⟩) := by
        show _ = _
        rw [creaseC_some]
        by_cases hba : b < a
        · rw [if_pos hba, show min a b = b from by omega, hpb]
        · rw [if_neg hba, show min a b = a from by omega, hpa]
      rw [← hpa] at HC1
      rw [← hpb] at HC2
      clear hpa hpb hnn hok
      by_cases hba : b < a
      · have t1 : (b : Int) < (a : Int) := by omega
        have HX2 : Hid (creaseC (bl s) (some a) (some b) = if pb.up then ⟨#[86]⟩ else ⟨#[77]⟩) := by show _ = _; rw [HX.out, if_pos hba]
        clear HX
        cases hu : pb.up with
        | true =>
          have HU := Lib.hid hu
          rw [hu] at HC2 HX2
          clear hu
          go_enter Try.func29, Try.ntmps29
          go_wp2_with fail
          refine (HC1.out _).mono ?_
          rintro e w1 ⟨rfl, hb⟩
          have hz := hb.size
          go_wp2_with fail
          refine (HC2.out _).mono ?_
          rintro e w2 ⟨rfl, hb2⟩
          have hz2 : w1.heap.size + 1 ≤ w2.heap.size := by simpa using hb2.size
          have hb12 : Below w.heap.size w w2 := (hb.alloc hz _).trans (hb2.mono (by simp; omega))
          obtain ⟨d1, d2, d3, d4, f1, f2, f3, f4⟩ := ((Four.new w1 (.int .i64 pa.row) (.int .i64 pa.col) (.bool pa.up) (.bool pa.head) 35).below hb2 (Nat.le_refl _)).keep (Below.heap_alloc w2 (.cells #[.int .i64 pb.row, .int .i64 pb.col, .bool true, .bool pb.head] 35) _ (by omega))
          clear hb2
          go_wp2_with fail
          go_ret
          exact ⟨by rw [HX2.out]; rfl, (by repeat (first | exact Below.refl _ _ | assumption | (refine Below.setCell ?_ (by first | omega | (simp; done) | (simp; omega)) _) | (refine Below.alloc ?_ (by first | omega | (simp; done) | (simp; omega)) _) | (refine below_drewN ?_ _) | (refine Below.drew ?_)))⟩
        | false =>
          have HU := Lib.hid hu
          rw [hu] at HC2 HX2
          clear hu
          go_enter Try.func29, Try.ntmps29
          go_wp2_with fail
          refine (HC1.out _).mono ?_
          rintro e w1 ⟨rfl, hb⟩
          have hz := hb.size
          go_wp2_with fail
          refine (HC2.out _).mono ?_
          rintro e w2 ⟨rfl, hb2⟩
          have hz2 : w1.heap.size + 1 ≤ w2.heap.size := by simpa using hb2.size
          have hb12 : Below w.heap.size w w2 := (hb.alloc hz _).trans (hb2.mono (by simp; omega))
          obtain ⟨d1, d2, d3, d4, f1, f2, f3, f4⟩ := ((Four.new w1 (.int .i64 pa.row) (.int .i64 pa.col) (.bool pa.up) (.bool pa.head) 35).below hb2 (Nat.le_refl _)).keep (Below.heap_alloc w2 (.cells #[.int .i64 pb.row, .int .i64 pb.col, .bool false, .bool pb.head] 35) _ (by omega))
          clear hb2
          go_wp2_with fail
          go_ret
          exact ⟨by rw [HX2.out]; rfl, (by repeat (first | exact Below.refl _ _ | assumption | (refine Below.setCell ?_ (by first | omega | (simp; done) | (simp; omega)) _) | (refine Below.alloc ?_ (by first | omega | (simp; done) | (simp; omega)) _) | (refine below_drewN ?_ _) | (refine Below.drew ?_)))⟩
      · have t1 : ¬ (b : Int) < (a : Int) := by omega
        have HX2 : Hid (creaseC (bl s) (some a) (some b) = if pa.up then ⟨#[86]⟩ else ⟨#[77]⟩) := by show _ = _; rw [HX.out, if_neg hba]
        clear HX
        cases hu : pa.up with
        | true =>
          have HU := Lib.hid hu
          rw [hu] at HC1 HX2
          clear hu
          go_enter Try.func29, Try.ntmps29
          go_wp2_with fail
          refine (HC1.out _).mono ?_
          rintro e w1 ⟨rfl, hb⟩
          have hz := hb.size
          go_wp2_with fail
          refine (HC2.out _).mono ?_
          rintro e w2 ⟨rfl, hb2⟩
          have hz2 : w1.heap.size + 1 ≤ w2.heap.size := by simpa using hb2.size
          have hb12 : Below w.heap.size w w2 := (hb.alloc hz _).trans (hb2.mono (by simp; omega))
          obtain ⟨d1, d2, d3, d4, f1, f2, f3, f4⟩ := ((Four.new w1 (.int .i64 pa.row) (.int .i64 pa.col) (.bool true) (.bool pa.head) 35).below hb2 (Nat.le_refl _)).keep (Below.heap_alloc w2 (.cells #[.int .i64 pb.row, .int .i64 pb.col, .bool pb.up, .bool pb.head] 35) _ (by omega))
          clear hb2
          go_wp2_with fail
          go_ret
          exact ⟨by rw [HX2.out]; rfl, (by repeat (first | exact Below.refl _ _ | assumption | (refine Below.setCell ?_ (by first | omega | (simp; done) | (simp; omega)) _) | (refine Below.alloc ?_ (by first | omega | (simp; done) | (simp; omega)) _) | (refine below_drewN ?_ _) | (refine Below.drew ?_)))⟩
        | false =>
          have HU := Lib.hid hu
          rw [hu] at HC1 HX2
          clear hu
          go_enter Try.func29, Try.ntmps29
          go_wp2_with fail
          refine (HC1.out _).mono ?_
          rintro e w1 ⟨rfl, hb⟩
          have hz := hb.size
          go_wp2_with fail
          refine (HC2.out _).mono ?_
          rintro e w2 ⟨rfl, hb2⟩
          have hz2 : w1.heap.size + 1 ≤ w2.heap.size := by simpa using hb2.size
          have hb12 : Below w.heap.size w w2 := (hb.alloc hz _).trans (hb2.mono (by simp; omega))
          obtain ⟨d1, d2, d3, d4, f1, f2, f3, f4⟩ := ((Four.new w1 (.int .i64 pa.row) (.int .i64 pa.col) (.bool false) (.bool pa.head) 35).below hb2 (Nat.le_refl _)).keep (Below.heap_alloc w2 (.cells #[.int .i64 pb.row, .int .i64 pb.col, .bool pb.up, .bool pb.head] 35) _ (by omega))
          clear hb2
          go_wp2_with fail
          go_ret
          exact ⟨by rw [HX2.out]; rfl, (by repeat (first | exact Below.refl _ _ | assumption | (refine Below.setCell ?_ (by first | omega | (simp; done) | (simp; omega)) _) | (refine Below.alloc ?_ (by first | omega | (simp; done) | (simp; omega)) _) | (refine below_drewN ?_ _) | (refine Below.drew ?_)))⟩
set_option maxHeartbeats 1000000 in
theorem implSheetRight (s : ByteArray) (row col : Int) (w : World) (hs : s.size ≤ maxLen) :
    Calls Try.prog 8 #[.string s, .int .i64 row, .int .i64 col] w fun e w' => e = .returned (.string (rightC (bl s) row col)) ∧ Below w.heap.size w w' := by
  by_cases hin : 0 ≤ col ∧ col ≤ 1000
  · obtain ⟨h1, h2⟩ := hin
    go_enter Try.func8, Try.ntmps8
    go_wp2_with fail
    refine (creaseOf s _ _ _ _ _ hs).mono ?_
    rintro e w1 ⟨rfl, hb⟩
    go_wp2_with fail
    go_ret
    exact ⟨rfl, hb⟩
  · have HV : Hid (rightC (bl s) row col = ⟨#[]⟩) := by show _ = _; unfold rightC; rw [lv_far (fun h => hin ⟨h.2.2.1, h.2.2.2⟩)]; rfl
    have HN : Hid (lv (bl s) row col = none) := lv_far (fun h => hin ⟨h.2.2.1, h.2.2.2⟩)
    rw [HV.out]
    clear hin
    go_enter Try.func8, Try.ntmps8
    go_wp2_with fail
    refine (creaseOf s _ _ _ _ _ hs).mono ?_
    rintro e w1 ⟨rfl, hb⟩
    rw [HN.out, creaseC_none]
    go_wp2_with fail
    go_ret
    exact ⟨rfl, hb⟩
end Go.Proofs.Ytdgkjlehofkooaa
