/- The law FnPageCell, walked: it returns true. Conditions: each theorem's own premises. -/
import Derived.Test.YthhkflknbjkneaaLawStackD
import Derived.Test.YthhkflknbjkneaaPlainB
import Derived.Test.YthhkflknbjkneaaDrawT
namespace Go.Proofs.Ythhkflknbjkneaa
open Go.RowKit
theorem page_told {l : List UInt8} {page : Int} (h : (pageC l page).2 = true) : ∃ (k : Nat) (x : Cel) (f b : Int), pageC l page = (x, true) ∧ lv l x.row x.col = some k ∧ frontC l x.row x.col = f ∧ backC l x.row x.col = b ∧
    (((f == page) = true ∧ (x.up == (page % 2 == 1)) = true) ∨ ((f == page) = false ∧ (b == page) = true ∧ (x.up == (page % 2 == 1)) = false)) ∧ k ≤ 31 ∧ 1 ≤ page ∧ page ≤ 64 ∧
    ∃ (y : Cel) (p : Bool) (j : Int), pageC l (page + 1) = (y, p) ∧ lvI (lv l y.row y.col) = j ∧ (p = false ∨ j = k ∨ j = (k : Int) - 1) ∧ -1 ≤ j ∧ j ≤ 64 := by
  have hc : sheetOk l = true ∧ 1 ≤ page ∧ page ≤ 2 * (stackC l).length := by
    by_cases e : sheetOk l = true ∧ 1 ≤ page ∧ page ≤ 2 * (stackC l).length
    · exact e
    · unfold pageC at h
      rw [if_neg e] at h
      cases h
  obtain ⟨hok, h1, h2⟩ := hc
  have hN := stackC_bd hok
  obtain ⟨N, hN2⟩ : ∃ N, N = (stackC l).length := ⟨_, rfl⟩
  rw [← hN2] at hN h2
  obtain ⟨k, hk⟩ : ∃ k, k = N - 1 - ((page - 1) / 2).toNat := ⟨_, rfl⟩
  have hkN : k < (stackC l).length := by rw [← hN2]; omega
  obtain ⟨x, hx⟩ : ∃ x, (stackC l)[k]? = some x := ⟨_, List.getElem?_eq_getElem hkN⟩
  have hcx : celOf l k = x := by unfold celOf; rw [hx]; rfl
  have hlv := lv_atB hok hx
  have hU : upperC l k = 2 * ((page - 1) / 2) + 1 := by unfold upperC; rw [← hN2]; omega
  refine ⟨k, x, _, _, by rw [← hcx]; exact pageC_at hok hkN (by rw [← hN2]; omega) h1, hlv, rfl, rfl, ?_, by omega, h1, by omega, ?_⟩
  · rw [frontC_some hlv, backC_some hlv, hcx, hU]
    rcases Int.emod_two_eq page with e | e
    · rw [e]
      cases x.up
      · left
        simp
        omega
      · right
        simp
        omega
    · rw [e]
      cases x.up
      · right
        simp
        omega
      · left
        simp
        omega
  · by_cases h3 : page + 1 ≤ 2 * N
    · obtain ⟨k', hk'⟩ : ∃ k', k' = N - 1 - (page / 2).toNat := ⟨_, rfl⟩
      have hkN' : k' < (stackC l).length := by rw [← hN2]; omega
      obtain ⟨y, hy⟩ : ∃ y, (stackC l)[k']? = some y := ⟨_, List.getElem?_eq_getElem hkN'⟩
      have hcy : celOf l k' = y := by unfold celOf; rw [hy]; rfl
      refine ⟨y, true, k', by rw [← hcy]; exact pageC_at hok hkN' (by rw [← hN2]; omega) (by omega), by rw [lv_atB hok hy]; rfl, by right; omega, by omega, by omega⟩
    · refine ⟨⟨0, 0, false, false⟩, false, _, by unfold pageC; rw [if_neg (by rw [← hN2]; omega)], rfl, Or.inl rfl, ?_, ?_⟩
      · cases h4 : lv l (⟨0, 0, false, false⟩ : Cel).row (⟨0, 0, false, false⟩ : Cel).col with
        | none => show (-1 : Int) ≤ -1; omega
        | some q => show (-1 : Int) ≤ (q : Int); omega
      · cases h4 : lv l (⟨0, 0, false, false⟩ : Cel).row (⟨0, 0, false, false⟩ : Cel).col with
        | none => show (-1 : Int) ≤ 64; omega
        | some q =>
          have := lv_lt h4
          show (q : Int) ≤ 64
          omega
set_option maxRecDepth 100000 in
set_option maxHeartbeats 2000000 in
theorem fnPageCell_walk (w : World) (a0 : Option Addr) (len0 cap0 : Nat) (z0 : List Int) (w0 : IsRow .u8 w a0 len0 cap0 z0) :
    Calls Try.prog 5 #[.slice a0 len0 cap0] w fun e w' => e = .returned (.bool true) ∧ Below w.heap.size w w' := by
  have HW := Lib.hid w0
  clear w0
  by_cases hl : 1048576 < len0
  · go_enter Try.func5, Try.ntmps5
    go_wp2
    go_ret
    exact ⟨rfl, Below.refl _ _⟩
  · go_enter Try.func5, Try.ntmps5
    go_wp2_with fail
    refine (drawPageCell _ _ _ _ _ HW.out HW.out.le).mono ?_
    rintro e w1 ⟨s, page, rfl, hs, pg1, pg2, hb1⟩
    have hz1 := hb1.size
    have hsl : s.size ≤ maxLen := by unfold maxLen; omega
    have C1 := fun w => implPageCell s page w hsl
    have C2 := fun w => specPageCell s page w hsl
    cases hp : (pageC (bl s) page).2 with
    | false =>
      rw [hp] at C1 C2
      obtain ⟨x, hx⟩ : ∃ x, x = (pageC (bl s) page).1 := ⟨_, rfl⟩
      rw [← hx] at C1 C2
      have HC1 := Lib.hid C1
      have HC2 := Lib.hid C2
      clear C1 C2 hx hp
      go_wp2_with fail
      refine (HC1.out _).mono ?_
      rintro e w2 ⟨rfl, hb2⟩
      have hz2 := hb2.size
      have hb12 : Below w.heap.size w w2 := hb1.trans (hb2.mono hz1)
      have hz12 := hb12.size
      go_wp2_with fail
      refine (HC2.out _).mono ?_
      rintro e w3 ⟨rfl, hb3⟩
      have hz3 : w2.heap.size + 1 ≤ w3.heap.size := by simpa using hb3.size
      have D5 := (Four.new w2 (.int .i64 x.row) (.int .i64 x.col) (.bool x.up) (.bool x.head) 28).below hb3 (Nat.le_refl _)
      obtain ⟨d1, d2, d3, d4, _, _, _, _⟩ := D5.keep (Below.heap_alloc w3 (.cells #[.int .i64 x.row, .int .i64 x.col, .bool x.up, .bool x.head] 28) _ D5.lt)
      obtain ⟨d5, d6, d7, d8, _, _, _, _⟩ := Four.new w3 (.int .i64 x.row) (.int .i64 x.col) (.bool x.up) (.bool x.head) 28
      have hb13 : Below w.heap.size w (w3.alloc (.cells #[.int .i64 x.row, .int .i64 x.col, .bool x.up, .bool x.head] 28)) := ((hb12.alloc hz12 _).trans (hb3.mono (by simp; omega))).alloc (by omega) _
      clear D5
      go_wp2_with fail
      first | go_quiet (fail) | skip
      go_wp2_with fail
      go_ret
      first | exact ⟨rfl, hb13⟩ | exact ⟨rfl, below_drewN hb13 _⟩
    | true =>
      obtain ⟨k, x, f, b, e1, e2, e3, e4, ht, hk, q1, q2, y, p, j, e5, e6, hj, j1, j2⟩ := page_told hp
      have C3 := fun w => implPageFront s x.row x.col w hsl
      have C4 := fun w => implPageBack s x.row x.col w hsl
      have C5 := fun w => implSheetLevel s x.row x.col w hsl
      have C6 := fun w => implPageCell s (page + 1) w hsl
      have C7 := fun w => implSheetLevel s y.row y.col w hsl
      rw [e1] at C1 C2
      rw [e3] at C3
      rw [e4] at C4
      rw [e2] at C5
      have e7 : lvI (some k) = (k : Int) := rfl
      rw [e7] at C5
      rw [e5] at C6
      rw [e6] at C7
      have HC1 := Lib.hid C1
      have HC2 := Lib.hid C2
      have HC3 := Lib.hid C3
      have HC4 := Lib.hid C4
      have HC5 := Lib.hid C5
      have HC6 := Lib.hid C6
      have HC7 := Lib.hid C7
      have HT := Lib.hid ht
      have HJ := Lib.hid hj
      clear C1 C2 C3 C4 C5 C6 C7 e1 e2 e3 e4 e5 e6 e7 ht hj hp
      go_wp2_with fail
      refine (HC1.out _).mono ?_
      rintro e w2 ⟨rfl, hb2⟩
      have hz2 := hb2.size
      have hb12 : Below w.heap.size w w2 := hb1.trans (hb2.mono hz1)
      have hz12 := hb12.size
      go_wp2_with fail
      refine (HC2.out _).mono ?_
      rintro e w3 ⟨rfl, hb3⟩
      have hz3 : w2.heap.size + 1 ≤ w3.heap.size := by simpa using hb3.size
      have D5 := (Four.new w2 (.int .i64 x.row) (.int .i64 x.col) (.bool x.up) (.bool x.head) 28).below hb3 (Nat.le_refl _)
      have D6 := D5.keep (Below.heap_alloc w3 (.cells #[.int .i64 x.row, .int .i64 x.col, .bool x.up, .bool x.head] 28) _ D5.lt)
      have HD6 := Lib.hid D6
      obtain ⟨d1, d2, d3, d4, _, _, _, _⟩ := D6
      obtain ⟨d5, d6, d7, d8, _, _, _, _⟩ := Four.new w3 (.int .i64 x.row) (.int .i64 x.col) (.bool x.up) (.bool x.head) 28
      have hb13 : Below w.heap.size w (w3.alloc (.cells #[.int .i64 x.row, .int .i64 x.col, .bool x.up, .bool x.head] 28)) := ((hb12.alloc hz12 _).trans (hb3.mono (by simp; omega))).alloc (by omega) _
      have hz13 := hb13.size
      clear D5 hb1 hb2 hb3 hb12
      go_wp2_with fail
      first | go_quiet (fail) | skip
      go_wp2_with fail
      refine (HC3.out _).mono ?_
      rintro e w4 ⟨rfl, hb4⟩
      have D4 := HD6.out.below hb4 (Nat.le_refl _)
      have HD4 := Lib.hid D4
      obtain ⟨m1, m2, m3, m4, _, _, _, _⟩ := D4
      have hb14 := hb13.trans (hb4.mono hz13)
      have hz14 := hb14.size
      clear hb4 hb13
      go_wp2_with fail
      refine (HC4.out _).mono ?_
      rintro e w5 ⟨rfl, hb5⟩
      have D4 := HD4.out.below hb5 (Nat.le_refl _)
      have HD5 := Lib.hid D4
      obtain ⟨n1, n2, n3, n4, _, _, _, _⟩ := D4
      have hb15 := hb14.trans (hb5.mono hz14)
      have hz15 := hb15.size
      clear hb5 hb14
      go_wp2_with fail
      refine (HC5.out _).mono ?_
      rintro e w6 ⟨rfl, hb6⟩
      have D4 := HD5.out.below hb6 (Nat.le_refl _)
      have HD6 := Lib.hid D4
      have hb16 := hb15.trans (hb6.mono hz15)
      have hz16 := hb16.size
      clear hb6 hb15 D4
      go_wp2_with fail
      refine (HC6.out _).mono ?_
      rintro e w7 ⟨rfl, hb7⟩
      have D4 := HD6.out.below hb7 (Nat.le_refl _)
      have D7 := D4.keep (Below.heap_alloc w7 (.cells #[.int .i64 y.row, .int .i64 y.col, .bool y.up, .bool y.head] 28) _ D4.lt)
      have HD7 := Lib.hid D7
      obtain ⟨g5, g6, g7, g8, _, _, _, _⟩ := Four.new w7 (.int .i64 y.row) (.int .i64 y.col) (.bool y.up) (.bool y.head) 28
      have hb17 : Below w.heap.size w (w7.alloc (.cells #[.int .i64 y.row, .int .i64 y.col, .bool y.up, .bool y.head] 28)) := (hb16.trans (hb7.mono hz16)).alloc (hb16.trans (hb7.mono hz16)).size _
      have hz17 := hb17.size
      clear hb7 hb16 D4 D7
      go_wp2_with fail
      refine (HC7.out _).mono ?_
      rintro e w8 ⟨rfl, hb8⟩
      obtain ⟨o1, o2, o3, o4, _, _, _, _⟩ := HD7.out.below hb8 (Nat.le_refl _)
      have hb18 := hb17.trans (hb8.mono hz17)
      clear hb8 hb17
      have tj : p = false ∨ (p = true ∧ (j != (k : Int)) = false) ∨ (p = true ∧ (j != (k : Int)) = true ∧ (j != (k : Int) - 1) = false) := by
        rcases HJ.out with h | h | h
        · exact Or.inl h
        · cases p
          · exact Or.inl rfl
          · exact Or.inr (Or.inl ⟨rfl, by simp [h]⟩)
        · cases p
          · exact Or.inl rfl
          · refine Or.inr (Or.inr ⟨rfl, ?_, by simp [h]⟩)
            rw [bne_iff_ne]
            omega
      have ht := HT.out
      rcases tj with rfl | ⟨rfl, tj⟩ | ⟨rfl, tj, tj2⟩
      all_goals rcases ht with ⟨t1, t3⟩ | ⟨t1, t2, t3⟩
      all_goals go_wp2_with fail
      all_goals go_ret
      all_goals first | exact ⟨rfl, hb18⟩ | exact ⟨ret_bool t3, hb18⟩ | exact ⟨ret_bool (by simp [t3]), hb18⟩
end Go.Proofs.Ythhkflknbjkneaa
