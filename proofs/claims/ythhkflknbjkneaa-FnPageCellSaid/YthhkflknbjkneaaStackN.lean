/- The walks of PageCell, of the program and of the reference, and of the laws' helpers on cells: equal, marked, held. Conditions: each theorem's own premises. -/
import Derived.Test.YthhkflknbjkneaaStackM
namespace Go.Proofs.Ythhkflknbjkneaa
open Go.RowKit
/-- The cell on which a page is, and whether there is one. -/
def pageC (l : List UInt8) (page : Int) : Cel × Bool :=
  if sheetOk l = true ∧ 1 ≤ page ∧ page ≤ 2 * (stackC l).length then (celOf l ((stackC l).length - 1 - ((page - 1) / 2).toNat), true) else (⟨0, 0, false, false⟩, false)
set_option maxRecDepth 100000 in
set_option maxHeartbeats 4000000 in
theorem specPageCell (s : ByteArray) (page : Int) (w : World) (hs : s.size ≤ maxLen) :
    Calls Try.prog 15 #[.string s, .int .i64 page] w fun e w' =>
      e = .returned (.tuple #[.agg #[.int .i64 (pageC (bl s) page).1.row, .int .i64 (pageC (bl s) page).1.col, .bool (pageC (bl s) page).1.up, .bool (pageC (bl s) page).1.head], .bool (pageC (bl s) page).2]) ∧ Below w.heap.size w w' := by
  cases hok : sheetOk (bl s) with
  | false =>
    have HV : Hid (pageC (bl s) page = (⟨0, 0, false, false⟩, false)) := by
      show _ = _
      unfold pageC
      rw [if_neg]
      rintro ⟨h, _⟩
      rw [hok] at h
      simp at h
    have HOK := Lib.hid hok
    clear hok
    go_enter Try.func15, Try.ntmps15
    go_wp2_with fail
    refine (specSheetStack_no s _ hs HOK.out).mono ?_
    rintro e w1 ⟨A, rfl, hb⟩
    have hz1 : w.heap.size + 1 ≤ w1.heap.size := by simpa using hb.size
    have hbel : Below w.heap.size w w1 := ((Below.refl _ w).alloc (Nat.le_refl _) _).trans (hb.mono (by simp))
    obtain ⟨d1, d2, d3, d4, f1, f2, f3, f4⟩ := (Four.new w (.int .i64 0) (.int .i64 0) (.bool false) (.bool false) 28).below hb (Nat.le_refl _)
    clear hb
    go_wp2_with fail
    refine (l6In_no _ _ _ _ (by simp; omega)).mono ?_
    rintro e w2 ⟨rfl, rfl⟩
    go_wp2_with fail
    exact bodyPost_ret (v := .tuple #[.agg #[.int .i64 0, .int .i64 0, .bool false, .bool false], .bool false]) (by simp [results, Try.results15, go_sem, d1, d2, d3, d4]) rfl ⟨by rw [HV.out], (by repeat (first | exact Below.refl _ _ | assumption | (refine Below.setCell ?_ (by first | omega | (simp; done) | (simp; omega)) _) | (refine Below.alloc ?_ (by first | omega | (simp; done) | (simp; omega)) _) | (refine below_drewN ?_ _) | (refine Below.drew ?_)))⟩
  | true =>
    obtain ⟨hb1, hb2⟩ := stackC_bd hok
    obtain ⟨n, hn⟩ : ∃ n, (stackC (bl s)).length = n := ⟨_, rfl⟩
    rw [hn] at hb1 hb2
    by_cases hin : 1 ≤ page ∧ page ≤ 2 * (n : Int)
    · obtain ⟨q, hq⟩ : ∃ q : Nat, (page - 1) / 2 = (q : Int) := ⟨((page - 1) / 2).toNat, by omega⟩
      have hqn : q < n := by omega
      obtain ⟨idx, hidx⟩ : ∃ idx : Nat, idx = n - 1 - q := ⟨_, rfl⟩
      obtain ⟨p, hp⟩ : ∃ p, (stackC (bl s))[idx]? = some p := ⟨_, List.getElem?_eq_getElem (by omega)⟩
      have HV : Hid (pageC (bl s) page = (p, true)) := by
        show _ = _
        unfold pageC
        rw [hn, if_pos ⟨hok, hin⟩, hq]
        have : n - 1 - (q : Int).toNat = idx := by omega
        rw [this]
        unfold celOf
        rw [hp]
        rfl
      have e1 : (n : Int) - 1 - (q : Int) = (idx : Int) := by omega
      have k1 : (0 : Int) ≤ (idx : Int) := by omega
      have k2 : (idx : Int) < (n : Int) := by omega
      obtain ⟨h1, h2⟩ := hin
      have HP := Lib.hid hp
      have HOK := Lib.hid hok
      have HN := Lib.hid hn
      have HE1 := Lib.hid e1
      have HQ := Lib.hid hq
      clear hp hok hn hidx e1 hq
      go_enter Try.func15, Try.ntmps15
      go_wp2_with fail
      refine (specSheetStack s _ HOK.out).mono ?_
      rintro e w1 ⟨g, cap, rfl, hr, hb⟩
      rw [HN.out]
      have hz1 : w.heap.size + 1 ≤ w1.heap.size := by simpa using hb.size
      have hbel : Below w.heap.size w w1 := ((Below.refl _ w).alloc (Nat.le_refl _) _).trans (hb.mono (by simp))
      obtain ⟨d1, d2, d3, d4, f1, f2, f3, f4⟩ := (Four.new w (.int .i64 0) (.int .i64 0) (.bool false) (.bool false) 28).below hb (Nat.le_refl _)
      obtain ⟨c1, c2, c3, c4⟩ := hr.at HP.out
      clear hb hr
      go_wp2_with fail
      refine (l6In_yes _ _ _ _ h1 h2).mono ?_
      rintro e w2 ⟨rfl, rfl⟩
      have hq := HQ.out
      have e1 := HE1.out
      go_wp2_with fail
      clear hq e1
      exact bodyPost_ret (v := .tuple #[.agg #[.int .i64 p.row, .int .i64 p.col, .bool p.up, .bool p.head], .bool true]) (by simp [results, Try.results15, go_sem, d1, d2, d3, d4]) rfl ⟨by rw [HV.out], (by repeat (first | exact Below.refl _ _ | assumption | (refine Below.setCell ?_ (by first | omega | (simp; done) | (simp; omega)) _) | (refine Below.alloc ?_ (by first | omega | (simp; done) | (simp; omega)) _) | (refine below_drewN ?_ _) | (refine Below.drew ?_)))⟩
    · have HV : Hid (pageC (bl s) page = (⟨0, 0, false, false⟩, false)) := by
        show _ = _
        unfold pageC
        rw [hn, if_neg]
        rintro ⟨_, h⟩
        exact hin h
      have HOK := Lib.hid hok
      have HN := Lib.hid hn
      have HI := Lib.hid hin
      clear hok hn hin
      go_enter Try.func15, Try.ntmps15
      go_wp2_with fail
      refine (specSheetStack s _ HOK.out).mono ?_
      rintro e w1 ⟨g, cap, rfl, hr, hb⟩
      rw [HN.out]
      have hz1 : w.heap.size + 1 ≤ w1.heap.size := by simpa using hb.size
      have hbel : Below w.heap.size w w1 := ((Below.refl _ w).alloc (Nat.le_refl _) _).trans (hb.mono (by simp))
      obtain ⟨d1, d2, d3, d4, f1, f2, f3, f4⟩ := (Four.new w (.int .i64 0) (.int .i64 0) (.bool false) (.bool false) 28).below hb (Nat.le_refl _)
      clear hb hr
      go_wp2_with fail
      refine (l6In_no _ _ _ _ HI.out).mono ?_
      rintro e w2 ⟨rfl, rfl⟩
      go_wp2_with fail
      exact bodyPost_ret (v := .tuple #[.agg #[.int .i64 0, .int .i64 0, .bool false, .bool false], .bool false]) (by simp [results, Try.results15, go_sem, d1, d2, d3, d4]) rfl ⟨by rw [HV.out], (by repeat (first | exact Below.refl _ _ | assumption | (refine Below.setCell ?_ (by first | omega | (simp; done) | (simp; omega)) _) | (refine Below.alloc ?_ (by first | omega | (simp; done) | (simp; omega)) _) | (refine below_drewN ?_ _) | (refine Below.drew ?_)))⟩
set_option maxRecDepth 100000 in
set_option maxHeartbeats 4000000 in
theorem implPageCell (s : ByteArray) (page : Int) (w : World) (hs : s.size ≤ maxLen) :
    Calls Try.prog 14 #[.string s, .int .i64 page] w fun e w' =>
      e = .returned (.tuple #[.agg #[.int .i64 (pageC (bl s) page).1.row, .int .i64 (pageC (bl s) page).1.col, .bool (pageC (bl s) page).1.up, .bool (pageC (bl s) page).1.head], .bool (pageC (bl s) page).2]) ∧ Below w.heap.size w w' := by
  cases hok : sheetOk (bl s) with
  | false =>
    have HV : Hid (pageC (bl s) page = (⟨0, 0, false, false⟩, false)) := by
      show _ = _
      unfold pageC
      rw [if_neg]
      rintro ⟨h, _⟩
      rw [hok] at h
      simp at h
    have HOK := Lib.hid hok
    clear hok
    go_enter Try.func14, Try.ntmps14
    go_wp2_with fail
    refine (implSheetStack_no s _ hs HOK.out).mono ?_
    rintro e w1 ⟨A, rfl, hb⟩
    have hz1 : w.heap.size + 1 ≤ w1.heap.size := by simpa using hb.size
    have hbel : Below w.heap.size w w1 := ((Below.refl _ w).alloc (Nat.le_refl _) _).trans (hb.mono (by simp))
    obtain ⟨d1, d2, d3, d4, f1, f2, f3, f4⟩ := (Four.new w (.int .i64 0) (.int .i64 0) (.bool false) (.bool false) 28).below hb (Nat.le_refl _)
    clear hb
    go_wp2_with fail
    exact bodyPost_ret (v := .tuple #[.agg #[.int .i64 0, .int .i64 0, .bool false, .bool false], .bool false]) (by simp [results, Try.results14, go_sem, d1, d2, d3, d4]) rfl ⟨by rw [HV.out], (by repeat (first | exact Below.refl _ _ | assumption | (refine Below.setCell ?_ (by first | omega | (simp; done) | (simp; omega)) _) | (refine Below.alloc ?_ (by first | omega | (simp; done) | (simp; omega)) _) | (refine below_drewN ?_ _) | (refine Below.drew ?_)))⟩
  | true =>
    obtain ⟨hb1, hb2⟩ := stackC_bd hok
    obtain ⟨n, hn⟩ : ∃ n, (stackC (bl s)).length = n := ⟨_, rfl⟩
    rw [hn] at hb1 hb2
    by_cases h1 : 1 ≤ page
    · by_cases h2 : page ≤ 2 * (n : Int)
      · obtain ⟨q, hq⟩ : ∃ q : Nat, (page - 1) / 2 = (q : Int) := ⟨((page - 1) / 2).toNat, by omega⟩
        have hqn : q < n := by omega
        obtain ⟨idx, hidx⟩ : ∃ idx : Nat, idx = n - 1 - q := ⟨_, rfl⟩
        obtain ⟨p, hp⟩ : ∃ p, (stackC (bl s))[idx]? = some p := ⟨_, List.getElem?_eq_getElem (by omega)⟩
        have HV : Hid (pageC (bl s) page = (p, true)) := by
          show _ = _
          unfold pageC
          rw [hn, if_pos ⟨hok, h1, h2⟩, hq]
          have : n - 1 - (q : Int).toNat = idx := by omega
          rw [this]
          unfold celOf
          rw [hp]
          rfl
        have e1 : (n : Int) - 1 - (q : Int) = (idx : Int) := by omega
        have k1 : (0 : Int) ≤ (idx : Int) := by omega
        have k2 : (idx : Int) < (n : Int) := by omega
        have HP := Lib.hid hp
        have HOK := Lib.hid hok
        have HN := Lib.hid hn
        have HE1 := Lib.hid e1
        have HQ := Lib.hid hq
        clear hp hok hn hidx e1 hq
        go_enter Try.func14, Try.ntmps14
        go_wp2_with fail
        refine (implSheetStack s _ HOK.out).mono ?_
        rintro e w1 ⟨g, cap, rfl, _, ho, hb⟩
        rw [HN.out] at ho ⊢
        have hz1 : w.heap.size + 1 ≤ w1.heap.size := by simpa using hb.size
        have hbel : Below w.heap.size w w1 := ((Below.refl _ w).alloc (Nat.le_refl _) _).trans (hb.mono (by simp))
        obtain ⟨d1, d2, d3, d4, f1, f2, f3, f4⟩ := (Four.new w (.int .i64 0) (.int .i64 0) (.bool false) (.bool false) 28).below hb (Nat.le_refl _)
        obtain ⟨c1, c2, c3, c4⟩ := (RowC.of_own ho).at HP.out
        have hq := HQ.out
        have e1 := HE1.out
        clear hb ho
        go_wp2_with fail
        clear hq e1
        exact bodyPost_ret (v := .tuple #[.agg #[.int .i64 p.row, .int .i64 p.col, .bool p.up, .bool p.head], .bool true]) (by simp [results, Try.results14, go_sem, d1, d2, d3, d4]) rfl ⟨by rw [HV.out], (by repeat (first | exact Below.refl _ _ | assumption | (refine Below.setCell ?_ (by first | omega | (simp; done) | (simp; omega)) _) | (refine Below.alloc ?_ (by first | omega | (simp; done) | (simp; omega)) _) | (refine below_drewN ?_ _) | (refine Below.drew ?_)))⟩
      · have HV : Hid (pageC (bl s) page = (⟨0, 0, false, false⟩, false)) := by
          show _ = _
          unfold pageC
          rw [hn, if_neg]
          rintro ⟨_, _, h⟩
          exact h2 h
        have HOK := Lib.hid hok
        have HN := Lib.hid hn
        clear hok hn
        go_enter Try.func14, Try.ntmps14
        go_wp2_with fail
        refine (implSheetStack s _ HOK.out).mono ?_
        rintro e w1 ⟨g, cap, rfl, _, ho, hb⟩
        rw [HN.out] at ho ⊢
        have hz1 : w.heap.size + 1 ≤ w1.heap.size := by simpa using hb.size
        have hbel : Below w.heap.size w w1 := ((Below.refl _ w).alloc (Nat.le_refl _) _).trans (hb.mono (by simp))
        obtain ⟨d1, d2, d3, d4, f1, f2, f3, f4⟩ := (Four.new w (.int .i64 0) (.int .i64 0) (.bool false) (.bool false) 28).below hb (Nat.le_refl _)
        clear hb ho
        go_wp2_with fail
        exact bodyPost_ret (v := .tuple #[.agg #[.int .i64 0, .int .i64 0, .bool false, .bool false], .bool false]) (by simp [results, Try.results14, go_sem, d1, d2, d3, d4]) rfl ⟨by rw [HV.out], (by repeat (first | exact Below.refl _ _ | assumption | (refine Below.setCell ?_ (by first | omega | (simp; done) | (simp; omega)) _) | (refine Below.alloc ?_ (by first | omega | (simp; done) | (simp; omega)) _) | (refine below_drewN ?_ _) | (refine Below.drew ?_)))⟩
    · have HV : Hid (pageC (bl s) page = (⟨0, 0, false, false⟩, false)) := by
        show _ = _
        unfold pageC
        rw [if_neg]
        rintro ⟨_, h, _⟩
        exact h1 h
      have HOK := Lib.hid hok
      have HN := Lib.hid hn
      clear hok hn
      go_enter Try.func14, Try.ntmps14
      go_wp2_with fail
      refine (implSheetStack s _ HOK.out).mono ?_
      rintro e w1 ⟨g, cap, rfl, _, ho, hb⟩
      rw [HN.out] at ho ⊢
      have hz1 : w.heap.size + 1 ≤ w1.heap.size := by simpa using hb.size
      have hbel : Below w.heap.size w w1 := ((Below.refl _ w).alloc (Nat.le_refl _) _).trans (hb.mono (by simp))
      obtain ⟨d1, d2, d3, d4, f1, f2, f3, f4⟩ := (Four.new w (.int .i64 0) (.int .i64 0) (.bool false) (.bool false) 28).below hb (Nat.le_refl _)
      clear hb ho
      go_wp2_with fail
      exact bodyPost_ret (v := .tuple #[.agg #[.int .i64 0, .int .i64 0, .bool false, .bool false], .bool false]) (by simp [results, Try.results14, go_sem, d1, d2, d3, d4]) rfl ⟨by rw [HV.out], (by repeat (first | exact Below.refl _ _ | assumption | (refine Below.setCell ?_ (by first | omega | (simp; done) | (simp; omega)) _) | (refine Below.alloc ?_ (by first | omega | (simp; done) | (simp; omega)) _) | (refine below_drewN ?_ _) | (refine Below.drew ?_)))⟩
end Go.Proofs.Ythhkflknbjkneaa
