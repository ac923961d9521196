/- The walks of has, cellAt and SheetLevel of the program, and of the creases of the program and of the reference. Conditions: each theorem's own premises. -/
import Derived.Test.YtdgkjlehofkooaaStackK
namespace Go.Proofs.Ytdgkjlehofkooaa
set_option maxRecDepth 100000
open Go.RowKit
/-- There is such a cell. -/
def inR (R C : Nat) (row col : Int) : Bool := decide (0 ≤ row ∧ row < R ∧ 0 ≤ col ∧ col < C)
set_option maxHeartbeats 1000000 in
theorem has (R C : Nat) (row col : Int) (w : World) : Calls Try.prog 55 #[.agg #[.int .i64 R, .int .i64 C], .int .i64 row, .int .i64 col] w fun e w' => e = .returned (.bool (inR R C row col)) ∧ Below w.heap.size w w' := by
  by_cases h1 : 0 ≤ row
  · by_cases h2 : row < (R : Int)
    · by_cases h3 : 0 ≤ col
      · by_cases h4 : col < (C : Int)
        · have HI : Hid (inR R C row col = true) := decide_eq_true ⟨h1, h2, h3, h4⟩
          go_enter Try.func55, Try.ntmps55
          go_wp2
          go_ret
          rw [HI.out]
          exact ⟨rfl, (by repeat (first | exact Below.refl _ _ | assumption | (refine Below.setCell ?_ (by first | omega | (simp; done) | (simp; omega)) _) | (refine Below.alloc ?_ (by first | omega | (simp; done) | (simp; omega)) _) | (refine below_drewN ?_ _) | (refine Below.drew ?_)))⟩
        · have HI : Hid (inR R C row col = false) := decide_eq_false fun h => h4 h.2.2.2
          go_enter Try.func55, Try.ntmps55
          go_wp2
          go_ret
          rw [HI.out]
          exact ⟨rfl, (by repeat (first | exact Below.refl _ _ | assumption | (refine Below.setCell ?_ (by first | omega | (simp; done) | (simp; omega)) _) | (refine Below.alloc ?_ (by first | omega | (simp; done) | (simp; omega)) _) | (refine below_drewN ?_ _) | (refine Below.drew ?_)))⟩
      · have HI : Hid (inR R C row col = false) := decide_eq_false fun h => h3 h.2.2.1
        go_enter Try.func55, Try.ntmps55
        go_wp2
        go_ret
        rw [HI.out]
        exact ⟨rfl, (by repeat (first | exact Below.refl _ _ | assumption | (refine Below.setCell ?_ (by first | omega | (simp; done) | (simp; omega)) _) | (refine Below.alloc ?_ (by first | omega | (simp; done) | (simp; omega)) _) | (refine below_drewN ?_ _) | (refine Below.drew ?_)))⟩
    · have HI : Hid (inR R C row col = false) := decide_eq_false fun h => h2 h.2.1
      go_enter Try.func55, Try.ntmps55
      go_wp2
      go_ret
      rw [HI.out]
      exact ⟨rfl, (by repeat (first | exact Below.refl _ _ | assumption | (refine Below.setCell ?_ (by first | omega | (simp; done) | (simp; omega)) _) | (refine Below.alloc ?_ (by first | omega | (simp; done) | (simp; omega)) _) | (refine below_drewN ?_ _) | (refine Below.drew ?_)))⟩
  · have HI : Hid (inR R C row col = false) := decide_eq_false fun h => h1 h.1
    go_enter Try.func55, Try.ntmps55
    go_wp2
    go_ret
    rw [HI.out]
    exact ⟨rfl, (by repeat (first | exact Below.refl _ _ | assumption | (refine Below.setCell ?_ (by first | omega | (simp; done) | (simp; omega)) _) | (refine Below.alloc ?_ (by first | omega | (simp; done) | (simp; omega)) _) | (refine below_drewN ?_ _) | (refine Below.drew ?_)))⟩
/-- The cell at a level. -/
def celOf (l : List UInt8) (k : Nat) : Cel := (stackC l)[k]?.getD ⟨0, 0, false, false⟩
/-- What cellAt returns: the level and the cell, or three zero values. -/
def cellAtC (l : List UInt8) (row col : Int) : Nat × Cel × Bool :=
  match lv l row col with
  | some k => (k, celOf l k, true)
  | none => (0, ⟨0, 0, false, false⟩, false)
theorem lv_in {l : List UInt8} {row col : Int} {k : Nat} (h : lv l row col = some k) : sheetOk l = true ∧ (stackC l)[k]? = some (celOf l k) ∧ (celOf l k).row = row ∧ (celOf l k).col = col ∧ inR (rowsOf l) (colsOf l) row col = true := by
  unfold lv at h
  cases hok : sheetOk l with
  | false => rw [hok] at h; simp at h
  | true =>
    rw [hok, if_pos rfl] at h
    obtain ⟨p, hp, h1, h2, _⟩ := find_some h
    have hc : celOf l k = p := by unfold celOf; rw [hp]; rfl
    rw [hc]
    have := in_range hok (List.mem_of_getElem? hp)
    refine ⟨rfl, hp, h1, h2, decide_eq_true ?_⟩
    omega
/-- Block g holds these four values, which may be written. -/
structure Four (w : World) (g : Nat) (a b c d : Value) : Prop where
  a1 : w.cell? ⟨g, 0, none⟩ = some a
  a2 : w.cell? ⟨g, 1, none⟩ = some b
  a3 : w.cell? ⟨g, 2, none⟩ = some c
  a4 : w.cell? ⟨g, 3, none⟩ = some d
  f1 : w.frozen? ⟨g, 0, none⟩ = false
  f2 : w.frozen? ⟨g, 1, none⟩ = false
  f3 : w.frozen? ⟨g, 2, none⟩ = false
  f4 : w.frozen? ⟨g, 3, none⟩ = false
theorem Four.new (w : World) (a b c d : Value) (T : TypeId) : Four (w.alloc (.cells #[a, b, c, d] T)) w.heap.size a b c d :=
  ⟨World.cell?_alloc_mark w _ T (0, 0) 0, World.cell?_alloc_mark w _ T (0, 0) 1, World.cell?_alloc_mark w _ T (0, 0) 2, World.cell?_alloc_mark w _ T (0, 0) 3,
    World.frozen?_alloc_mark w _ T 0 0 0, World.frozen?_alloc_mark w _ T 0 0 1, World.frozen?_alloc_mark w _ T 0 0 2, World.frozen?_alloc_mark w _ T 0 0 3⟩
theorem Four.keep {w w' : World} {g : Nat} {a b c d : Value} (h : Four w g a b c d) (hb : w'.heap[g]? = w.heap[g]?) : Four w' g a b c d :=
  have c := fun j => World.cell?_of_block (a := ⟨g, j, none⟩) hb
  have f := fun j => World.frozen?_of_block (a := ⟨g, j, none⟩) hb
  ⟨(c 0).trans h.a1, (c 1).trans h.a2, (c 2).trans h.a3, (c 3).trans h.a4, (f 0).trans h.f1, (f 1).trans h.f2, (f 2).trans h.f3, (f 3).trans h.f4⟩
theorem Four.lt {w : World} {g : Nat} {a b c d : Value} (h : Four w g a b c d) : g < w.heap.size := World.block_lt_of_cell? w _ h.a1
theorem Four.below {w w' : World} {g B : Nat} {a b c d : Value} (h : Four w g a b c d) (hb : Below B w w') (hB : w.heap.size ≤ B) : Four w' g a b c d := h.keep (hb.block g (Nat.lt_of_lt_of_le h.lt hB))
set_option maxRecDepth 100000 in
set_option maxHeartbeats 4000000 in
theorem cellAt (s : ByteArray) (row col : Int) (w : World) (hs : s.size ≤ maxLen) :
    Calls Try.prog 34 #[.string s, .int .i64 row, .int .i64 col] w fun e w' =>
      e = .returned (.tuple #[.int .i64 (cellAtC (bl s) row col).1, .agg #[.int .i64 (cellAtC (bl s) row col).2.1.row, .int .i64 (cellAtC (bl s) row col).2.1.col, .bool (cellAtC (bl s) row col).2.1.up, .bool (cellAtC (bl s) row col).2.1.head], .bool (cellAtC (bl s) row col).2.2]) ∧ Below w.heap.size w w' := by
  have C1 := fun w => sizeOf s w hs
  cases hok : sheetOk (bl s) with
  | false =>
    have hv : lv (bl s) row col = none := by unfold lv; rw [hok]; rfl
    have HV : Hid (cellAtC (bl s) row col = (0, ⟨0, 0, false, false⟩, false)) := by show _ = _; unfold cellAtC; rw [hv]
    rw [HV.out]
    rw [hok] at C1
    have HC := Lib.hid C1
    clear C1 hok hv
    go_enter Try.func34, Try.ntmps34
    go_wp2_with fail
    refine (HC.out _).mono ?_
    rintro e w1 ⟨rfl, hb1⟩
    have hz1 : w.heap.size + 1 ≤ w1.heap.size := by simpa using hb1.size
    have hbel : Below w.heap.size w w1 := ((Below.refl _ w).alloc (Nat.le_refl _) _).trans (hb1.mono (by simp))
    have D1 := (Four.new w (.int .i64 0) (.int .i64 0) (.bool false) (.bool false) 35).below hb1 (Nat.le_refl _)
    obtain ⟨d1, d2, d3, d4, f1, f2, f3, f4⟩ := D1.keep (Below.heap_alloc w1 (.cells #[.int .i64 (sheetRows (bl s)), .int .i64 (sheetCols (bl s))] 54) _ D1.lt)
    clear hb1
    go_wp2_with fail
    exact bodyPost_ret (v := .tuple #[.int .i64 0, .agg #[.int .i64 0, .int .i64 0, .bool false, .bool false], .bool false]) (by simp [results, Try.results34, go_sem, d1, d2, d3, d4]) rfl ⟨rfl, (by repeat (first | exact Below.refl _ _ | assumption | (refine Below.setCell ?_ (by first | omega | (simp; done) | (simp; omega)) _) | (refine Below.alloc ?_ (by first | omega | (simp; done) | (simp; omega)) _) | (refine below_drewN ?_ _) | (refine Below.drew ?_)))⟩
  | true =>
    have hr0 : sheetRows (bl s) = rowsOf (bl s) := by unfold sheetRows; rw [hok]; rfl
    have hc0 : sheetCols (bl s) = colsOf (bl s) := by unfold sheetCols; rw [hok]; rfl
    rw [hr0, hc0, hok] at C1
    have HC := Lib.hid C1
    clear C1 hr0 hc0
    cases hin : inR (rowsOf (bl s)) (colsOf (bl s)) row col with
    | false =>
      have hv : lv (bl s) row col = none := by
        cases e : lv (bl s) row col with
        | none => rfl
        | some k => have := (lv_in e).2.2.2.2; rw [hin] at this; simp at this
      have HV : Hid (cellAtC (bl s) row col = (0, ⟨0, 0, false, false⟩, false)) := by show _ = _; unfold cellAtC; rw [hv]
      rw [HV.out]
      have HIN := Lib.hid hin
      clear hin hv hok
      go_enter Try.func34, Try.ntmps34
      go_wp2_with fail
      refine (HC.out _).mono ?_
      rintro e w1 ⟨rfl, hb1⟩
      have hz1 : w.heap.size + 1 ≤ w1.heap.size := by simpa using hb1.size
      have hbel : Below w.heap.size w w1 := ((Below.refl _ w).alloc (Nat.le_refl _) _).trans (hb1.mono (by simp))
      have D1 := (Four.new w (.int .i64 0) (.int .i64 0) (.bool false) (.bool false) 35).below hb1 (Nat.le_refl _)
      clear hb1
      go_wp2_with fail
      refine (has _ _ _ _ _).mono ?_
      rintro e w2 ⟨rfl, hb2⟩
      rw [HIN.out]
      have hz2 : w1.heap.size + 1 ≤ w2.heap.size := by simpa using hb2.size
      have hbel2 : Below w.heap.size w w2 := (hbel.alloc (by omega) _).trans (hb2.mono (by simp; omega))
      obtain ⟨d1, d2, d3, d4, f1, f2, f3, f4⟩ := (D1.keep (Below.heap_alloc w1 _ _ D1.lt)).below hb2 (Nat.le_refl _)
      clear hb2 D1
      go_wp2_with fail
      exact bodyPost_ret (v := .tuple #[.int .i64 0, .agg #[.int .i64 0, .int .i64 0, .bool false, .bool false], .bool false]) (by simp [results, Try.results34, go_sem, d1, d2, d3, d4]) rfl ⟨rfl, (by repeat (first | exact Below.refl _ _ | assumption | (refine Below.setCell ?_ (by first | omega | (simp; done) | (simp; omega)) _) | (refine Below.alloc ?_ (by first | omega | (simp; done) | (simp; omega)) _) | (refine below_drewN ?_ _) | (refine Below.drew ?_)))⟩
    | true =>
      obtain ⟨hb1, hb2⟩ := stackC_bd hok
      obtain ⟨cs, hcs⟩ : ∃ cs, cs = stackC (bl s) := ⟨_, rfl⟩
      have HV : Hid (lv (bl s) row col = findC cs row col) := by show _ = _; unfold lv; rw [hok, hcs]; rfl
      have HCO : Hid (∀ k p, cs[k]? = some p → celOf (bl s) k = p) := fun k p hp => by unfold celOf; rw [← hcs, hp]; rfl
      have HR : Hid (∀ w, Calls Try.prog 13 #[.string s] w (StackBack w cs)) := by rw [hcs]; exact fun w => implSheetStack s w hok
      rw [← hcs] at hb1 hb2
      obtain ⟨n, hn⟩ : ∃ n, cs.length = n := ⟨_, rfl⟩
      have HN := Lib.hid hn
      have HIN := Lib.hid hin
      rw [hn] at hb1 hb2
      clear hcs hn hok hin
      go_enter Try.func34, Try.ntmps34
      go_wp2_with fail
      refine (HC.out _).mono ?_
      rintro e w1 ⟨rfl, hb1'⟩
      have hz1 : w.heap.size + 1 ≤ w1.heap.size := by simpa using hb1'.size
      have hbel : Below w.heap.size w w1 := ((Below.refl _ w).alloc (Nat.le_refl _) _).trans (hb1'.mono (by simp))
      have D1 := (Four.new w (.int .i64 0) (.int .i64 0) (.bool false) (.bool false) 35).below hb1' (Nat.le_refl _)
      clear hb1'
      go_wp2_with fail
      refine (has _ _ _ _ _).mono ?_
      rintro e w2 ⟨rfl, hb2'⟩
      rw [HIN.out]
      have hz2 : w1.heap.size + 1 ≤ w2.heap.size := by simpa using hb2'.size
      have hbel2 : Below w.heap.size w w2 := (hbel.alloc (by omega) _).trans (hb2'.mono (by simp; omega))
      have D2 := (D1.keep (Below.heap_alloc w1 _ _ D1.lt)).below hb2' (Nat.le_refl _)
      clear hb2' D1 hbel
      go_wp2_with fail
      refine (HR.out _).mono ?_
      rintro e w3 ⟨g, cap, rfl, _, ho, hb3⟩
      rw [HN.out] at ho ⊢
      have hz3 := hb3.size
      have hbel3 : Below w.heap.size w w3 := hbel2.trans (hb3.mono (by omega))
      have D3 := D2.below hb3 (Nat.le_refl _)
      have HRW := Lib.hid (RowC.of_own ho)
      clear ho hb3 D2 hbel2
      go_wp2_with fail
      go_loopw [37] (fun i wr => ∃ k : Nat, k ≤ n ∧ i = .int .i64 k ∧ Hid (∀ (j : Nat) (q : Cel), j < k → cs[j]? = some q → ¬ (q.row = row ∧ q.col = col)) ∧ Below w3.heap.size w3 wr) (fun i _ => n - (intOf i).toNat)
      case atStart => exact ⟨0, Nat.zero_le _, rfl, Lib.hid (fun j q hj => by omega), Below.refl _ _⟩
      case round =>
        obtain ⟨k, hk, rfl, HM, hbr⟩ := hrel
        have hzr := hbr.size
        have D4 := D3.below hbr (Nat.le_refl _)
        by_cases hlt : k < n
        · obtain ⟨p, hp⟩ : ∃ p, cs[k]? = some p := ⟨_, List.getElem?_eq_getElem (by rw [HN.out]; exact hlt)⟩
          obtain ⟨c1, c2, c3, c4⟩ := (HRW.out.below hbr HRW.out.1).at hp
          have HP := Lib.hid hp
          clear hp
          have hbrA : ∀ o, Below w3.heap.size w3 (wr.alloc o) := fun o => hbr.alloc hzr o
          have HBA := Lib.hid hbrA
          clear hbrA
          cases ha : (p.row == row) with
          | false =>
            have HM2 : Hid (∀ (j : Nat) (q : Cel), j < k + 1 → cs[j]? = some q → ¬ (q.row = row ∧ q.col = col)) := fun j q hj hq => by
              by_cases e : j = k
              · subst e
                rw [HP.out] at hq
                cases hq
                rintro ⟨h1, _⟩
                rw [h1] at ha
                simp at ha
              · exact HM.out j q (by omega) hq
            clear D4
            go_wp2_with fail
            go_roundw
            case rel => exact ⟨k + 1, by omega, by go_num, HM2, HBA.out _⟩
            case measure => simp [intOf]; omega
          | true =>
            cases hb' : (p.col == col) with
            | false =>
              have HM2 : Hid (∀ (j : Nat) (q : Cel), j < k + 1 → cs[j]? = some q → ¬ (q.row = row ∧ q.col = col)) := fun j q hj hq => by
                by_cases e : j = k
                · subst e
                  rw [HP.out] at hq
                  cases hq
                  rintro ⟨_, h1⟩
                  rw [h1] at hb'
                  simp at hb'
                · exact HM.out j q (by omega) hq
              clear D4
              go_wp2_with fail
              go_roundw
              case rel => exact ⟨k + 1, by omega, by go_num, HM2, HBA.out _⟩
              case measure => simp [intOf]; omega
            | true =>
              have HF : Hid (cellAtC (bl s) row col = (k, p, true)) := by
                show _ = _
                unfold cellAtC
                rw [HV.out, find_hit HP.out (by simpa using ha) (by simpa using hb') HM.out]
                simp only [HCO.out k p HP.out]
              obtain ⟨d1, d2, d3, d4, f1, f2, f3, f4⟩ := D4.keep (Below.heap_alloc wr (.cells #[.int .i64 p.row, .int .i64 p.col, .bool p.up, .bool p.head] 35) _ D4.lt)
              have hne : w.heap.size ≠ wr.heap.size := by omega
              have hbel4 := hbel3.trans (hbr.mono (by omega))
              clear D4
              go_wp2_with fail
              go_region
              all_goals
                go_wp2_with fail
                exact bodyPost_ret (v := .tuple #[.int .i64 k, .agg #[.int .i64 p.row, .int .i64 p.col, .bool p.up, .bool p.head], .bool true]) (by simp [results, Try.results34, go_sem, d1, d2, d3, d4]) rfl ⟨by rw [HF.out]; try rfl, (by repeat (first | exact Below.refl _ _ | assumption | (refine Below.setCell ?_ (by first | omega | (simp; done) | (simp; omega)) _) | (refine Below.alloc ?_ (by first | omega | (simp; done) | (simp; omega)) _) | (refine below_drewN ?_ _) | (refine Below.drew ?_)))⟩
        · obtain rfl : k = n := by omega
          have HF : Hid (cellAtC (bl s) row col = (0, ⟨0, 0, false, false⟩, false)) := by
            show _ = _
            unfold cellAtC
            rw [HV.out, find_miss fun j q hq => HM.out j q (by have := (List.getElem?_eq_some_iff.1 hq).1; rw [HN.out] at this; exact this) hq]
          have hbel4 := hbel3.trans (hbr.mono (by omega))
          obtain ⟨d1, d2, d3, d4, f1, f2, f3, f4⟩ := D4
          go_wp2_with fail
          exact bodyPost_ret (v := .tuple #[.int .i64 0, .agg #[.int .i64 0, .int .i64 0, .bool false, .bool false], .bool false]) (by simp [results, Try.results34, go_sem, d1, d2, d3, d4]) rfl ⟨by rw [HF.out]; try rfl, (by repeat (first | exact Below.refl _ _ | assumption | (refine Below.setCell ?_ (by first | omega | (simp; done) | (simp; omega)) _) | (refine Below.alloc ?_ (by first | omega | (simp; done) | (simp; omega)) _) | (refine below_drewN ?_ _) | (refine Below.drew ?_)))⟩
set_option maxHeartbeats 1000000 in
theorem implSheetLevel (s : ByteArray) (row col : Int) (w : World) (hs : s.size ≤ maxLen) :
    Calls Try.prog 12 #[.string s, .int .i64 row, .int .i64 col] w fun e w' => e = .returned (.int .i64 (lvI (lv (bl s) row col))) ∧ Below w.heap.size w w' := by
  have C1 := fun w => cellAt s row col w hs
  cases hv : lv (bl s) row col with
  | none =>
    have hc : cellAtC (bl s) row col = (0, ⟨0, 0, false, false⟩, false) := by unfold cellAtC; rw [hv]
    rw [hc] at C1
    have HC := Lib.hid C1
    clear C1 hv hc
    go_enter Try.func12, Try.ntmps12
    go_wp2_with fail
    refine (HC.out _).mono ?_
    rintro e w1 ⟨rfl, hb⟩
    have hz := hb.size
    go_wp2_with fail
    go_ret
    exact ⟨rfl, (by repeat (first | exact Below.refl _ _ | assumption | (refine Below.setCell ?_ (by first | omega | (simp; done) | (simp; omega)) _) | (refine Below.alloc ?_ (by first | omega | (simp; done) | (simp; omega)) _) | (refine below_drewN ?_ _) | (refine Below.drew ?_)))⟩
  | some k =>
    have hc : cellAtC (bl s) row col = (k, celOf (bl s) k, true) := by unfold cellAtC; rw [hv]
    rw [hc] at C1
    have HC := Lib.hid C1
    clear C1 hv hc
    go_enter Try.func12, Try.ntmps12
    go_wp2_with fail
    refine (HC.out _).mono ?_
    rintro e w1 ⟨rfl, hb⟩
    have hz := hb.size
    go_wp2_with fail
    go_ret
    exact ⟨rfl, (by repeat (first | exact Below.refl _ _ | assumption | (refine Below.setCell ?_ (by first | omega | (simp; done) | (simp; omega)) _) | (refine Below.alloc ?_ (by first | omega | (simp; done) | (simp; omega)) _) | (refine below_drewN ?_ _) | (refine Below.drew ?_)))⟩
end Go.Proofs.Ytdgkjlehofkooaa
