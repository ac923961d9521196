/- The law FnSheetHalf, walked: it returns true. Conditions: each theorem's own premises. -/
import Derived.Test.YtnpmpkolglmhdaaPlainG
import Derived.Test.YtnpmpkolglmhdaaDrawS
namespace Go.Proofs.Ytnpmpkolglmhdaa
open Go.RowKit
theorem crease_val {l : List UInt8} {a b : Nat} : creaseC l (some a) (some b) = ⟨#[86]⟩ ∨ creaseC l (some a) (some b) = ⟨#[77]⟩ := by
  rw [creaseC_some]
  cases (celOf l (min a b)).up
  · right; rfl
  · left; rfl
/-- Two cells: the text is not empty. -/
theorem two_long {l : List UInt8} {row col : Int} {a b : Nat} (ha : lv l row col = some a) (hb : lv l row (col + 1) = some b) : ∃ c t, l = c :: t := by
  cases l with
  | cons c t => exact ⟨c, t, rfl⟩
  | nil =>
    have h1 := lv_lt ha
    have h2 := lv_lt hb
    have hlen : (stackC ([] : List UInt8)).length = 1 := rfl
    obtain ⟨_, _, _, e1, _⟩ := lv_in ha
    obtain ⟨_, _, _, e2, _⟩ := lv_in hb
    have e0 : a = 0 := by omega
    have e3 : b = 0 := by omega
    subst e0 e3
    omega
set_option maxRecDepth 100000 in
set_option maxHeartbeats 2000000 in
theorem fnSheetHalf_walk (w : World) (a0 : Option Addr) (len0 cap0 : Nat) (z0 : List Int) (w0 : IsRow .u8 w a0 len0 cap0 z0) :
    Calls Try.prog 8 #[.slice a0 len0 cap0] w fun e w' => e = .returned (.bool true) ∧ Below w.heap.size w w' := by
  have HW := Lib.hid w0
  clear w0
  by_cases hl : 1048576 < len0
  · go_enter Try.func8, Try.ntmps8
    go_wp2
    go_ret
    exact ⟨rfl, Below.refl _ _⟩
  · go_enter Try.func8, Try.ntmps8
    go_wp2_with fail
    refine (drawSheetRight _ _ _ _ _ HW.out HW.out.le).mono ?_
    rintro e w1 ⟨s, row, col, rfl, hs, r1, r2, c1, c2, hb1⟩
    have hz1 := hb1.size
    have hsl : s.size ≤ maxLen := by unfold maxLen; omega
    have C1 := fun w => implSheetRight s row col w hsl
    have C2 := fun w => specSheetRight s row col w hsl
    obtain ⟨o, ho⟩ : ∃ o, o = rightC (bl s) row col := ⟨_, rfl⟩
    rw [← ho] at C1 C2
    have HC1 := Lib.hid C1
    have HC2 := Lib.hid C2
    clear C1 C2
    by_cases hab : ∃ a b, lv (bl s) row col = some a ∧ lv (bl s) row (col + 1) = some b
    · obtain ⟨a, b, ha, hb⟩ := hab
      obtain ⟨c, t, hct⟩ := two_long ha hb
      have hov : o = ⟨#[86]⟩ ∨ o = ⟨#[77]⟩ := by
        rw [ho]
        unfold rightC
        rw [ha, hb]
        exact crease_val
      have hok := (lv_in ha).1
      have hlen : (bl s).length = t.length + 1 := by rw [hct]; rfl
      have hs0 : 0 < s.size := by rw [← bl_length]; omega
      have hc0 : s[0] = c := by
        have := bl_get s 0 hs0
        rw [hct] at this
        exact (Option.some.inj this).symm
      have hext : bl (s.extract 1 s.size) = t := by rw [bl_right, hct]; rfl
      have hs5 : s.size ≤ 5 := by rw [← bl_length]; exact (ok_is hok).2
      have hin : 0 ≤ row ∧ row < (rowsOf (bl s) : Int) ∧ 0 ≤ col + 1 ∧ col + 1 < (colsOf (bl s) : Int) := of_decide_eq_true (lv_in hb).2.2.2.2
      have hcol : 0 ≤ col := (of_decide_eq_true (lv_in ha).2.2.2.2 : 0 ≤ row ∧ row < (rowsOf (bl s) : Int) ∧ 0 ≤ col ∧ col < (colsOf (bl s) : Int)).2.2.1
      have to : (o.toList == o.toList) = true := by simp
      have hct' := hok
      rw [hct] at hct'
      by_cases hR : c = 82 ∨ c = 114
      · have hRw : rowsOf (bl s) = rowsOf t := by rw [hct, rowsOf_cons]; rcases hR with rfl | rfl <;> rfl
        have hCw : colsOf (bl s) = 2 * colsOf t := by rw [hct, colsOf_cons]; rcases hR with rfl | rfl <;> rfl
        have hCb := colsOf_bd (bl s) (by rw [bl_length]; exact hs5)
        have hRb := rowsOf_bd (bl s) (by rw [bl_length]; exact hs5)
        have C3 := fun w => implSheetSize s w hsl
        have hr0 : sheetRows (bl s) = rowsOf (bl s) := by unfold sheetRows; rw [hok]; rfl
        have hcc0 : sheetCols (bl s) = colsOf (bl s) := by unfold sheetCols; rw [hok]; rfl
        rw [hr0, hcc0, hok] at C3
        have C4 := fun w => implSheetRight (s.extract 1 s.size) row col w (by rw [size_right]; omega)
        rw [hext] at C4
        obtain ⟨R, hRR⟩ : ∃ R, R = rowsOf (bl s) := ⟨_, rfl⟩
        obtain ⟨H, hHH⟩ : ∃ H, H = colsOf t := ⟨_, rfl⟩
        rw [← hRR, hCw, ← hHH] at C3
        rw [hCw, ← hHH] at hCb
        rw [← hRR] at hRb
        have hbelow : col + 1 < (H : Int) → rightC t row col = o := fun h => by
          obtain ⟨x, y, hx, hy, hxy⟩ := lv_two (t := t) (row := row) (col := col) (ok_tail hct') hin.1 (by rw [← hRw]; exact hin.2.1) hcol (by rw [← hHH]; exact h)
          rw [ho, hct]
          exact (right_left hR hct' hx hy hxy).symm
        have hmid : col + 1 = (H : Int) → o = if under c then ⟨#[77]⟩ else ⟨#[86]⟩ := fun h => by
          obtain ⟨x, hx⟩ := lv_some (l := t) (row := row) (col := col) (ok_tail hct') (decide_eq_true ⟨hin.1, by rw [← hRw]; exact hin.2.1, hcol, by rw [← hHH]; omega⟩)
          rw [ho, hct]
          exact right_mid hR hct' hx (by rw [← hHH]; exact h)
        obtain ⟨C, hC⟩ : ∃ C, C = 2 * H := ⟨_, rfl⟩
        rw [← hC] at C3 hCb
        have q1 : (C : Int).tdiv 2 = (H : Int) := by
          rw [Int.tdiv_eq_ediv_of_nonneg (by omega)]
          omega
        have hH16 : H ≤ 16 := by omega
        have hH0 : (0 : Int) ≤ (H : Int) := by omega
        have HC3 := Lib.hid C3
        have HS0 : Hid ((((s[0].toNat : Int) != 82) = (c == 114)) ∧ (((s[0].toNat : Int) != 114) = (c == 82)) ∧ (((s[0].toNat : Int) == 82) = (c == 82))) := by
          show _ ∧ _
          rw [hc0]
          rcases hR with rfl | rfl <;> decide
        have HM : Hid (col + 1 = (H : Int) → o = if under c then ⟨#[77]⟩ else ⟨#[86]⟩) := hmid
        have hlt1 : 1 ≤ s.size := hs0
        by_cases hcase : col + 1 < (H : Int)
        · rw [hbelow hcase] at C4
          have HC4 := Lib.hid C4
          clear C3 C4 hbelow hmid hc0 ho hct hok hext hlen hr0 hcc0 hRR hHH hRw hCw ha hb hct' hin hC
          rcases hR with rfl | rfl
          all_goals
            obtain ⟨t1, t2, t3⟩ := HS0.out
            simp only [show ((82 : UInt8) == 114) = false from by decide, show ((82 : UInt8) == 82) = true from by decide, show ((114 : UInt8) == 114) = true from by decide, show ((114 : UInt8) == 82) = false from by decide] at t1 t2 t3
            rcases hov with rfl | rfl
            all_goals
              go_wp2_with fail
              refine (HC1.out _).mono ?_
              rintro e w2 ⟨rfl, hb2⟩
              have hz2 := hb2.size
              go_wp2_with fail
              refine (HC2.out _).mono ?_
              rintro e w3 ⟨rfl, hb3⟩
              have hz3 := hb3.size
              go_wp2_with fail
              refine (HC3.out _).mono ?_
              rintro e w4 ⟨rfl, hb4⟩
              have hz4 := hb4.size
              go_wp2_with fail
              refine (HC4.out _).mono ?_
              rintro e w5 ⟨rfl, hb5⟩
              go_wp2_with fail
              go_ret
              exact ⟨rfl, hb1.trans ((hb2.trans ((hb3.trans ((hb4.trans (hb5.mono hz4)).mono hz3)).mono hz2)).mono hz1)⟩
        · clear C3 C4 hbelow hmid hc0 ho hct hok hext hlen hr0 hcc0 hRR hHH hRw hCw ha hb hct' hin hC
          rcases hR with rfl | rfl
          all_goals
            obtain ⟨t1, t2, t3⟩ := HS0.out
            simp only [show ((82 : UInt8) == 114) = false from by decide, show ((82 : UInt8) == 82) = true from by decide, show ((114 : UInt8) == 114) = true from by decide, show ((114 : UInt8) == 82) = false from by decide] at t1 t2 t3
            by_cases hm : col + 1 = (H : Int)
            · have ho1 := HM.out hm
              have hu1 : under 82 = false := by decide
              have hu2 : under 114 = true := by decide
              simp only [hu1, hu2, if_true, Bool.false_eq_true, if_false] at ho1
              subst ho1
              have hgt : ¬ ((H : Int) < col + 1) := by omega
              clear hm hov
              go_wp2_with fail
              refine (HC1.out _).mono ?_
              rintro e w2 ⟨rfl, hb2⟩
              have hz2 := hb2.size
              go_wp2_with fail
              refine (HC2.out _).mono ?_
              rintro e w3 ⟨rfl, hb3⟩
              have hz3 := hb3.size
              go_wp2_with fail
              refine (HC3.out _).mono ?_
              rintro e w4 ⟨rfl, hb4⟩
              go_wp2_with fail
              go_ret
              exact ⟨rfl, hb1.trans ((hb2.trans ((hb3.trans (hb4.mono hz3)).mono hz2)).mono hz1)⟩
            · have hgt : (H : Int) < col + 1 := by omega
              clear hm
              rcases hov with rfl | rfl
              all_goals
                go_wp2_with fail
                refine (HC1.out _).mono ?_
                rintro e w2 ⟨rfl, hb2⟩
                have hz2 := hb2.size
                go_wp2_with fail
                refine (HC2.out _).mono ?_
                rintro e w3 ⟨rfl, hb3⟩
                have hz3 := hb3.size
                go_wp2_with fail
                refine (HC3.out _).mono ?_
                rintro e w4 ⟨rfl, hb4⟩
                go_wp2_with fail
                go_ret
                exact ⟨rfl, hb1.trans ((hb2.trans ((hb3.trans (hb4.mono hz3)).mono hz2)).mono hz1)⟩
      · have t82 : ((s[0].toNat : Int) != 82) = true := by
          rw [hc0, bne_iff_ne]
          intro e
          exact hR (.inl (byte_eq (n := 82) (by rw [beq_iff_eq]; exact e)))
        have t114 : ((s[0].toNat : Int) != 114) = true := by
          rw [hc0, bne_iff_ne]
          intro e
          exact hR (.inr (byte_eq (n := 114) (by rw [beq_iff_eq]; exact e)))
        clear hct' hin hct hext hlen hok hc0 ho ha hb hR
        rcases hov with rfl | rfl
        all_goals
          go_wp2_with fail
          refine (HC1.out _).mono ?_
          rintro e w2 ⟨rfl, hb2⟩
          have hz2 := hb2.size
          go_wp2_with fail
          refine (HC2.out _).mono ?_
          rintro e w3 ⟨rfl, hb3⟩
          go_wp2_with fail
          go_ret
          exact ⟨rfl, hb1.trans ((hb2.trans (hb3.mono hz2)).mono hz1)⟩
    · have ho0 : o = ⟨#[]⟩ := by
        rw [ho]
        unfold rightC
        cases ha : lv (bl s) row col with
        | none => rw [creaseC_none]
        | some a =>
          cases hb : lv (bl s) row (col + 1) with
          | none => rw [creaseC_none2]
          | some b => exact absurd ⟨a, b, ha, hb⟩ hab
      subst ho0
      clear ho hab
      go_wp2_with fail
      refine (HC1.out _).mono ?_
      rintro e w2 ⟨rfl, hb2⟩
      have hz2 := hb2.size
      go_wp2_with fail
      refine (HC2.out _).mono ?_
      rintro e w3 ⟨rfl, hb3⟩
      go_wp2_with fail
      go_ret
      exact ⟨rfl, hb1.trans ((hb2.trans (hb3.mono hz2)).mono hz1)⟩
end Go.Proofs.Ytnpmpkolglmhdaa
