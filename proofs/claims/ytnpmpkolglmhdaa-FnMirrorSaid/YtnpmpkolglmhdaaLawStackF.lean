/- The laws FnOver and FnMirror, walked: each returns true. Conditions: each theorem's own premises. -/
import Derived.Test.YtnpmpkolglmhdaaSame
import Derived.Test.YtnpmpkolglmhdaaDrawS
import Derived.Test.YtnpmpkolglmhdaaPlainV
import Derived.Test.YtnpmpkolglmhdaaStackL
namespace Go.Proofs.Ytnpmpkolglmhdaa
open Go.RowKit
theorem over_twice {c : UInt8} (h : letter c = true) : overC (overC c) = c := by
  rcases letter_is h with rfl | rfl | rfl | rfl | rfl | rfl | rfl | rfl <;> decide
theorem mir_twice {c : UInt8} (h : letter c = true) : mirC (mirC c) = c := by
  rcases letter_is h with rfl | rfl | rfl | rfl | rfl | rfl | rfl | rfl <;> decide
theorem overL_is {l : List UInt8} (hok : sheetOk l = true) : overL l = l.map overC := by
  unfold overL
  rw [if_pos hok]
  rfl
theorem mirL_is {l : List UInt8} (hok : sheetOk l = true) : mirL l = l.map mirC := by
  unfold mirL
  rw [if_pos hok]
theorem overL_ok {l : List UInt8} (hok : sheetOk l = true) : sheetOk (overL l) = true := by
  rw [overL_is hok]
  exact ok_map hok fun c hc => (over_is hc).2.2.2.2
theorem mirL_ok {l : List UInt8} (hok : sheetOk l = true) : sheetOk (mirL l) = true := by
  rw [mirL_is hok]
  exact ok_map hok fun c hc => (mir_is hc).2.2.2.2.2
theorem overL_twice {l : List UInt8} (hok : sheetOk l = true) : overL (overL l) = l := by
  rw [overL_is (overL_ok hok), overL_is hok, List.map_map]
  exact (List.map_congr_left fun c hc => over_twice ((ok_is hok).1 c hc)).trans (List.map_id _)
theorem mirL_twice {l : List UInt8} (hok : sheetOk l = true) : mirL (mirL l) = l := by
  rw [mirL_is (mirL_ok hok), mirL_is hok, List.map_map]
  exact (List.map_congr_left fun c hc => mir_twice ((ok_is hok).1 c hc)).trans (List.map_id _)
theorem lists_ne (l : List UInt8) : (!(l == l)) = false := by simp
set_option maxRecDepth 100000 in
set_option maxHeartbeats 8000000 in
theorem fnOver_walk (w : World) (a0 : Option Addr) (len0 cap0 : Nat) (z0 : List Int) (w0 : IsRow .u8 w a0 len0 cap0 z0) :
    Calls Try.prog 3 #[.slice a0 len0 cap0] w fun e w' => e = .returned (.bool true) ∧ Below w.heap.size w w' := by
  have HW := Lib.hid w0
  clear w0
  by_cases hl : 1048576 < len0
  · go_enter Try.func3, Try.ntmps3
    go_wp2
    go_ret
    exact ⟨rfl, Below.refl _ _⟩
  · go_enter Try.func3, Try.ntmps3
    go_wp2_with fail
    refine (drawSheetOver _ _ _ _ _ HW.out HW.out.le).mono ?_
    rintro e w1 ⟨s, rfl, hs, hb1⟩
    have hz1 := hb1.size
    have hsl : s.size ≤ maxLen := by unfold maxLen; omega
    have C1 := fun w => implSheetOver s w hsl
    have C2 := fun w => specSheetOver s w hsl
    obtain ⟨o, ho⟩ : ∃ o, o = mkS (overL (bl s)) := ⟨_, rfl⟩
    rw [← ho] at C1 C2
    have to : (o.toList == o.toList) = true := by simp
    cases hok : sheetOk (bl s) with
    | false =>
      rw [hok] at C1 C2
      have HC1 := Lib.hid C1
      have HC2 := Lib.hid C2
      clear C1 C2 hok ho
      go_wp2_with fail
      refine (HC1.out _).mono ?_
      rintro e w2 ⟨rfl, hb2⟩
      have hz2 := hb2.size
      go_wp2_with fail
      refine (HC2.out _).mono ?_
      rintro e w3 ⟨rfl, hb3⟩
      go_wp2_with fail
      go_ret
      exact ⟨by simp, hb1.trans ((hb2.trans (hb3.mono hz2)).mono hz1)⟩
    | true =>
      rw [hok] at C1 C2
      have hs5 : s.size ≤ 5 := by rw [← bl_length]; exact (ok_is hok).2
      have hob : bl o = overL (bl s) := by rw [ho, bl_mkS]
      have hoo : sheetOk (bl o) = true := by rw [hob]; exact overL_ok hok
      have hos : o.size ≤ 5 := by rw [← bl_length]; exact (ok_is hoo).2
      have hosl : o.size ≤ maxLen := by unfold maxLen; omega
      have C3 := fun w => implSheetOver o w hosl
      rw [hob, overL_twice hok, mkS_bl, ← hob, hoo] at C3
      obtain ⟨hn1, hn32⟩ := stackC_bd hok
      obtain ⟨cs, hcs⟩ : ∃ cs, cs = stackC (bl s) := ⟨_, rfl⟩
      obtain ⟨ds, hds⟩ : ∃ ds, ds = stackC (bl o) := ⟨_, rfl⟩
      have hcd : ds = cs.reverse := by rw [hds, hcs, hob, overL_is hok]; exact stack_over hok
      have HR1 : Hid (∀ w, Calls Try.prog 12 #[.string s] w (StackBack w cs)) := by rw [hcs]; exact fun w => implSheetStack s w hok
      have HR2 : Hid (∀ w, Calls Try.prog 12 #[.string o] w (StackBack w ds)) := by rw [hds]; exact fun w => implSheetStack o w hoo
      rw [← hcs] at hn1 hn32
      obtain ⟨n, hn⟩ : ∃ n, cs.length = n := ⟨_, rfl⟩
      have hnd : ds.length = n := by rw [hcd]; simp [hn]
      rw [hn] at hn1 hn32
      have HC1 := Lib.hid C1
      have HC2 := Lib.hid C2
      have HC3 := Lib.hid C3
      have HN := Lib.hid hn
      have HND := Lib.hid hnd
      have HCD := Lib.hid hcd
      clear C1 C2 C3 hn hnd hcd hcs hds hok hoo ho hob hosl
      go_wp2_with fail
      refine (HC1.out _).mono ?_
      rintro e w2 ⟨rfl, hb2⟩
      have hz2 := hb2.size
      go_wp2_with fail
      refine (HC2.out _).mono ?_
      rintro e w3 ⟨rfl, hb3⟩
      have hz3 := hb3.size
      go_wp2_with fail
      refine (HC3.out _).mono ?_
      rintro e w4 ⟨rfl, hb4⟩
      have hz4 := hb4.size
      go_wp2_with fail
      refine (HR1.out _).mono ?_
      rintro e w5 ⟨g5, c5, rfl, hg5, ho5, hb5⟩
      rw [HN.out] at ho5 ⊢
      have hz5 := hb5.size
      have hl5 : g5 < w5.heap.size := (ho5.lt _ rfl).2
      have hr5 := RowC.of_own ho5
      clear ho5
      go_wp2_with fail
      refine (HR2.out _).mono ?_
      rintro e w6 ⟨g6, c6, rfl, hg6, ho6, hb6⟩
      rw [HND.out] at ho6 ⊢
      have hz6 := hb6.size
      have hl6 : g6 < w6.heap.size := (ho6.lt _ rfl).2
      have hr6 := RowC.of_own ho6
      have hr56 := hr5.keep (hb6.block g5 hl5)
      clear ho6 hr5
      have hb16 : Below w.heap.size w w6 := hb1.trans ((hb2.trans ((hb3.trans ((hb4.trans ((hb5.trans (hb6.mono hz5)).mono hz4)).mono hz3)).mono hz2)).mono hz1)
      have hz16 := hb16.size
      have HA := Lib.hid hr56
      have HB := Lib.hid hr6
      clear hb1 hb2 hb3 hb4 hb5 hb6 hr56 hr6
      go_wp2_with fail
      go_loopw [14] (fun i wr => ∃ k : Nat, k ≤ n ∧ i = .int .i64 k ∧ Below w6.heap.size w6 wr) (fun i _ => n - (intOf i).toNat)
      case atStart => exact ⟨0, Nat.zero_le _, rfl, Below.refl _ _⟩
      case round =>
        obtain ⟨k, hk, rfl, hbel⟩ := hrel
        have hzr := hbel.size
        by_cases hlt : k < n
        · obtain ⟨j, hj⟩ : ∃ j, j = n - 1 - k := ⟨_, rfl⟩
          obtain ⟨x, hx⟩ : ∃ x, cs[k]? = some x := ⟨_, List.getElem?_eq_getElem (by rw [HN.out]; exact hlt)⟩
          have hy : ds[j]? = some x := by
            rw [HCD.out, List.getElem?_reverse (by rw [HN.out]; omega), HN.out, ← hx]
            congr 1
            omega
          obtain ⟨b1, b2, b3, b4⟩ := (HA.out.below hbel (by omega)).at hx
          obtain ⟨b5, b6, b7, b8⟩ := (HB.out.below hbel hl6).at hy
          have f1 : (n : Int) - 1 - (k : Int) = (j : Int) := by omega
          have f3 : (0 : Int) ≤ (j : Int) := by omega
          have f9 : (j : Int) < (n : Int) := by omega
          have f4 : (k : Int) < (n : Int) := by omega
          have f5 : (0 : Int) ≤ (k : Int) := by omega
          have f6 : IntKind.i64.wrap ((n : Int) - 1) = (n : Int) - 1 := by rw [IntKind.wrap_i64]; omega
          have f7 : IntKind.i64.wrap ((n : Int) - 1 - (k : Int)) = (j : Int) := by rw [f1, IntKind.wrap_i64]; omega
          have f8 : IntKind.i64.wrap (j : Int) = (j : Int) := by rw [IntKind.wrap_i64]; omega
          have hbA : Below wr.heap.size wr (wr.alloc (.cells #[.int .i64 x.row, .int .i64 x.col, .bool x.up, .bool x.head] 30)) := (Below.refl _ _).alloc (Nat.le_refl _) _
          have j1 := (hbA.cell (p := ⟨g5, k * 4, none⟩) (show g5 < wr.heap.size by omega)).trans b1
          have j2 := (hbA.cell (p := ⟨g5, k * 4 + 1, none⟩) (show g5 < wr.heap.size by omega)).trans b2
          have j3 := (hbA.cell (p := ⟨g5, k * 4 + 2, none⟩) (show g5 < wr.heap.size by omega)).trans b3
          have j4 := (hbA.cell (p := ⟨g5, k * 4 + 3, none⟩) (show g5 < wr.heap.size by omega)).trans b4
          obtain ⟨d1, d2, d3, d4, _, _, _, _⟩ := Four.new wr (.int .i64 x.row) (.int .i64 x.col) (.bool x.up) (.bool x.head) 30
          have hbz : Below w6.heap.size w6 (wr.alloc (.cells #[.int .i64 x.row, .int .i64 x.col, .bool x.up, .bool x.head] 30)) := hbel.alloc hzr _
          clear hx hy hj hbA
          go_wp2
          go_quiet (fail)
          go_wp2
          go_roundw
          case rel => exact ⟨k + 1, by omega, by go_num, below_drewN hbz _⟩
          case measure => simp [intOf]; omega
        · go_wp2
          go_ret
          exact ⟨rfl, hb16.trans (hbel.mono hz16)⟩
set_option maxRecDepth 100000 in
set_option maxHeartbeats 8000000 in
theorem fnMirror_walk (w : World) (a0 : Option Addr) (len0 cap0 : Nat) (z0 : List Int) (w0 : IsRow .u8 w a0 len0 cap0 z0) :
    Calls Try.prog 4 #[.slice a0 len0 cap0] w fun e w' => e = .returned (.bool true) ∧ Below w.heap.size w w' := by
  have HW := Lib.hid w0
  clear w0
  by_cases hl : 1048576 < len0
  · go_enter Try.func4, Try.ntmps4
    go_wp2
    go_ret
    exact ⟨rfl, Below.refl _ _⟩
  · go_enter Try.func4, Try.ntmps4
    go_wp2_with fail
    refine (drawSheetMirror _ _ _ _ _ HW.out HW.out.le).mono ?_
    rintro e w1 ⟨s, rfl, hs, hb1⟩
    have hz1 := hb1.size
    have hsl : s.size ≤ maxLen := by unfold maxLen; omega
    have C1 := fun w => implSheetMirror s w hsl
    have C2 := fun w => specSheetMirror s w hsl
    obtain ⟨o, ho⟩ : ∃ o, o = mkS (mirL (bl s)) := ⟨_, rfl⟩
    rw [← ho] at C1 C2
    have to : (o.toList == o.toList) = true := by simp
    cases hok : sheetOk (bl s) with
    | false =>
      rw [hok] at C1 C2
      have HC1 := Lib.hid C1
      have HC2 := Lib.hid C2
      clear C1 C2 hok ho
      go_wp2_with fail
      refine (HC1.out _).mono ?_
      rintro e w2 ⟨rfl, hb2⟩
      have hz2 := hb2.size
      go_wp2_with fail
      refine (HC2.out _).mono ?_
      rintro e w3 ⟨rfl, hb3⟩
      go_wp2_with fail
      go_ret
      exact ⟨by simp, hb1.trans ((hb2.trans (hb3.mono hz2)).mono hz1)⟩
    | true =>
      rw [hok] at C1 C2
      have hs5 : s.size ≤ 5 := by rw [← bl_length]; exact (ok_is hok).2
      have hob : bl o = mirL (bl s) := by rw [ho, bl_mkS]
      have hoo : sheetOk (bl o) = true := by rw [hob]; exact mirL_ok hok
      have hos : o.size ≤ 5 := by rw [← bl_length]; exact (ok_is hoo).2
      have hosl : o.size ≤ maxLen := by unfold maxLen; omega
      have C3 := fun w => implSheetMirror o w hosl
      rw [hob, mirL_twice hok, mkS_bl, ← hob, hoo] at C3
      obtain ⟨hn1, hn32⟩ := stackC_bd hok
      obtain ⟨cs, hcs⟩ : ∃ cs, cs = stackC (bl s) := ⟨_, rfl⟩
      obtain ⟨ds, hds⟩ : ∃ ds, ds = stackC (bl o) := ⟨_, rfl⟩
      have hcd : ds = cs.map fun x => ⟨x.row, colsOf (bl s) - 1 - x.col, x.up, x.head⟩ := by rw [hds, hcs, hob, mirL_is hok]; exact stack_mir hok
      have HR1 : Hid (∀ w, Calls Try.prog 12 #[.string s] w (StackBack w cs)) := by rw [hcs]; exact fun w => implSheetStack s w hok
      have HR2 : Hid (∀ w, Calls Try.prog 12 #[.string o] w (StackBack w ds)) := by rw [hds]; exact fun w => implSheetStack o w hoo
      rw [← hcs] at hn1 hn32
      obtain ⟨n, hn⟩ : ∃ n, cs.length = n := ⟨_, rfl⟩
      have hnd : ds.length = n := by rw [hcd]; simp [hn]
      rw [hn] at hn1 hn32
      have C4 := fun w => implSheetSize s w hsl
      rw [hok] at C4
      obtain ⟨cc, hcc⟩ : ∃ cc, cc = colsOf (bl s) := ⟨_, rfl⟩
      have hcc2 := (rowsOf_bd (bl s) (ok_is hok).2).2
      have hcc1 : 0 ≤ cc ∧ cc ≤ 32 := by
        have := (colsOf_bd (bl s) (ok_is hok).2).2
        rw [hcc]
        omega
      have hsc : (sheetCols (bl s) : Int) = cc := by rw [hcc]; unfold sheetCols; rw [if_pos hok]
      rw [hsc] at C4
      have HC4 := Lib.hid C4
      rw [← hcc] at hcd
      have HRG : Hid (∀ (k : Nat) x, cs[k]? = some x → 0 ≤ x.col ∧ x.col ≤ 32) := fun k x hx => by
        rw [hcs] at hx
        have := in_range hok (List.mem_of_getElem? hx)
        rw [← hcc] at this
        omega
      clear C4 hcc hcc2 hsc
      have HC1 := Lib.hid C1
      have HC2 := Lib.hid C2
      have HC3 := Lib.hid C3
      have HN := Lib.hid hn
      have HND := Lib.hid hnd
      have HCD := Lib.hid hcd
      clear C1 C2 C3 hn hnd hcd hcs hds hok hoo ho hob hosl
      go_wp2_with fail
      refine (HC1.out _).mono ?_
      rintro e w2 ⟨rfl, hb2⟩
      have hz2 := hb2.size
      go_wp2_with fail
      refine (HC2.out _).mono ?_
      rintro e w3 ⟨rfl, hb3⟩
      have hz3 := hb3.size
      go_wp2_with fail
      refine (HC3.out _).mono ?_
      rintro e w4 ⟨rfl, hb4⟩
      have hz4 := hb4.size
      go_wp2_with fail
      refine (HR1.out _).mono ?_
      rintro e w5 ⟨g5, c5, rfl, hg5, ho5, hb5⟩
      rw [HN.out] at ho5 ⊢
      have hz5 := hb5.size
      have hl5 : g5 < w5.heap.size := (ho5.lt _ rfl).2
      have hr5 := RowC.of_own ho5
      clear ho5
      go_wp2_with fail
      refine (HR2.out _).mono ?_
      rintro e w6 ⟨g6, c6, rfl, hg6, ho6, hb6⟩
      rw [HND.out] at ho6 ⊢
      have hz6 := hb6.size
      have hl6 : g6 < w6.heap.size := (ho6.lt _ rfl).2
      have hr6 := RowC.of_own ho6
      have hr56 := hr5.keep (hb6.block g5 hl5)
      clear ho6 hr5
      have hb16 : Below w.heap.size w w6 := hb1.trans ((hb2.trans ((hb3.trans ((hb4.trans ((hb5.trans (hb6.mono hz5)).mono hz4)).mono hz3)).mono hz2)).mono hz1)
      have hz16 := hb16.size
      have HA := Lib.hid hr56
      have HB := Lib.hid hr6
      clear hb1 hb2 hb3 hb4 hb5 hb6 hr56 hr6
      go_wp2_with fail
      refine (HC4.out _).mono ?_
      rintro e w7 ⟨rfl, hb7⟩
      have hz7 := hb7.size
      have HA7 := Lib.hid (HA.out.keep (hb7.block g5 (by omega)))
      have HB7 := Lib.hid (HB.out.keep (hb7.block g6 hl6))
      have hb17 : Below w.heap.size w w7 := hb16.trans (hb7.mono hz16)
      have hz17 := hb17.size
      clear hb16 hb7 HA HB
      go_wp2_with fail
      go_loopw [17] (fun i wr => ∃ k : Nat, k ≤ n ∧ i = .int .i64 k ∧ Below w7.heap.size w7 wr) (fun i _ => n - (intOf i).toNat)
      case atStart => exact ⟨0, Nat.zero_le _, rfl, Below.refl _ _⟩
      case round =>
        obtain ⟨k, hk, rfl, hbel⟩ := hrel
        have hzr := hbel.size
        by_cases hlt : k < n
        · obtain ⟨x, hx⟩ : ∃ x, cs[k]? = some x := ⟨_, List.getElem?_eq_getElem (by rw [HN.out]; exact hlt)⟩
          have hy : ds[k]? = some ⟨x.row, cc - 1 - x.col, x.up, x.head⟩ := by
            rw [HCD.out, List.getElem?_map, hx]
            rfl
          obtain ⟨x3, x4⟩ := HRG.out k x hx
          obtain ⟨b1, b2, b3, b4⟩ := (HA7.out.below hbel (by omega)).at hx
          obtain ⟨b5, b6, b7, b8⟩ := (HB7.out.below hbel (by omega)).at hy
          simp only at b5 b6 b7 b8
          have f1 : IntKind.i64.wrap ((cc : Int) - 1) = (cc : Int) - 1 := by rw [IntKind.wrap_i64]; omega
          have f2 : IntKind.i64.wrap ((cc : Int) - 1 - x.col) = (cc : Int) - 1 - x.col := by rw [IntKind.wrap_i64]; omega
          have f4 : (k : Int) < (n : Int) := by omega
          have f5 : (0 : Int) ≤ (k : Int) := by omega
          clear hx hy
          go_wp2
          go_quiet (fail)
          go_wp2
          go_roundw
          case rel => exact ⟨k + 1, by omega, by go_num, below_drewN hbel _⟩
          case measure => simp [intOf]; omega
        · go_wp2
          go_ret
          exact ⟨rfl, hb17.trans (hbel.mono hz17)⟩
end Go.Proofs.Ytnpmpkolglmhdaa
