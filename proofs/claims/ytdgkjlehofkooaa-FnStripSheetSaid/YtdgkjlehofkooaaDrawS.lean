/- The walks of the functions that draw texts of sheets, and cells: each returns some text, not long. Conditions: each theorem's own premises. -/
import Derived.Test.YtdgkjlehofkooaaDraw
import Derived.Test.YtdgkjlehofkooaaSheetA
namespace Go.Proofs.Ytdgkjlehofkooaa
set_option maxRecDepth 100000
open Go.RowKit
theorem strs_cells (w : World) (ss : List ByteArray) (T : TypeId) (i : Nat) (hi : i < ss.length) : (w.alloc (.cells (ss.map Value.string).toArray T)).cell? ⟨w.heap.size, i, none⟩ = some (.string ss[i]) := by
  refine (World.cell?_alloc_mark w _ T (0, 0) i).trans ?_
  simp [hi]
/-- A text of at most bd bytes has been drawn, with at most q numbers. -/
def Drawn (bd q : Nat) (w : World) (g : Nat) (A : Option Addr) (len cap p : Nat) (e : Ending) (w' : World) : Prop :=
  ∃ (s : ByteArray) (p' : Nat), e = .returned (.string s) ∧ s.size ≤ bd ∧ p' ≤ p + q ∧ Rd w' g A len cap p' ∧ w.grownBy w' (some g)
set_option maxHeartbeats 4000000 in
theorem l92Sheet (g : Nat) (A : Option Addr) (len cap p : Nat) (w : World) (h : Rd w g A len cap p) (hp : p ≤ 90000) :
    Calls Try.prog 45 #[.pointer (some ⟨g, 0, none⟩)] w (Drawn 6 10 w g A len cap p) := by
  go_enter Try.func45, Try.ntmps45
  go_wp2_with fail
  refine (pick g A len cap p _ w h (by omega) (by omega)).mono ?_
  rintro e w1 ⟨n, rfl, hn, _, hr, hg⟩
  have hn6 : n < 5 := by omega
  clear hn
  go_wp2_with fail
  go_loopw [3, 5] (fun o i wr => ∃ k : Nat, ∃ b : ByteArray, k ≤ n ∧ i = .int .i64 k ∧ o = .string b ∧ b.size ≤ k ∧ Rd wr g A len cap (p + 1 + k) ∧ w.grownBy wr (some g)) (fun _ i _ => n - (intOf i).toNat)
  case atStart => exact ⟨0, ByteArray.empty, Nat.zero_le _, rfl, rfl, Nat.le_refl _, hr, hg⟩
  case round =>
    obtain ⟨k, b, hk, rfl, rfl, hb, hr2, hg2⟩ := hrel
    by_cases hlt : k < n
    · have hgl := hr2.lt
      have hr3 := hr2.below ((Below.refl _ _).alloc (Nat.le_refl _) (.cells ([⟨#[82]⟩, ⟨#[76]⟩, ⟨#[85]⟩, ⟨#[68]⟩, ⟨#[114]⟩, ⟨#[108]⟩, ⟨#[117]⟩, ⟨#[100]⟩].map Value.string).toArray 9))
      go_wp2_with fail
      refine (pickOf g A len cap (p + 1 + k) wr.heap.size _ [⟨#[82]⟩, ⟨#[76]⟩, ⟨#[85]⟩, ⟨#[68]⟩, ⟨#[114]⟩, ⟨#[108]⟩, ⟨#[117]⟩, ⟨#[100]⟩] _ hr3 (by omega) (by decide) (by decide) (by omega) (strs_cells wr _ _)).mono ?_
      rintro e w3 ⟨x, hx, rfl, hr4, hg4⟩
      have hx1 : x.size ≤ 1 := by
        simp only [List.mem_cons, List.not_mem_nil, or_false] at hx
        rcases hx with rfl | rfl | rfl | rfl | rfl | rfl | rfl | rfl <;> exact Nat.le_refl _
      clear hx
      have hg5 := grown_trans (grown_trans hg2 (World.grownBy_alloc wr _ _)) hg4
      go_wp2_with fail
      have hsz : (b ++ x).size ≤ k + 1 := by rw [ByteArray.size_append]; omega
      go_roundw
      case rel => exact ⟨k + 1, _, by omega, by go_num, rfl, hsz, hr4, hg5⟩
      case measure => simp [intOf]; omega
    · obtain rfl : k = n := by omega
      have hb6 : b.size ≤ 4 := by omega
      go_wp2_with fail
      refine (pick g A len cap _ _ _ hr2 (by omega) (by omega)).mono ?_
      rintro e w4 ⟨d, rfl, hd, _, hr5, hg5⟩
      have hg6 := grown_trans hg2 hg5
      clear hd
      by_cases d0 : d = 0
      · subst d0
        have hr6 := hr5.below ((Below.refl _ _).alloc (Nat.le_refl _) (.cells ([⟨#[120]⟩, ⟨#[77]⟩, ⟨#[32]⟩].map Value.string).toArray 9))
        have hgl := hr5.lt
        go_wp2_with fail
        refine (pickOf g A len cap _ w4.heap.size _ [⟨#[120]⟩, ⟨#[77]⟩, ⟨#[32]⟩] _ hr6 (by omega) (by decide) (by decide) (by omega) (strs_cells w4 _ _)).mono ?_
        rintro e w5 ⟨x, hx, rfl, hr7, hg7⟩
        have hx1 : x.size ≤ 2 := by
          simp only [List.mem_cons, List.not_mem_nil, or_false] at hx
          rcases hx with rfl | rfl | rfl <;> decide
        clear hx
        have hg8 := grown_trans (grown_trans hg6 (World.grownBy_alloc w4 _ _)) hg7
        go_wp2_with fail
        have hsz : (b ++ x).size ≤ 6 := by rw [ByteArray.size_append]; omega
        go_ret
        exact ⟨_, _, rfl, hsz, by omega, hr7, hg8⟩
      · have t0 : ((d : Int) == 0) = false := by rw [beq_eq_false_iff_ne]; omega
        by_cases d1 : d = 1
        · subst d1
          clear t0 d0
          go_wp2_with fail
          go_ret
          exact ⟨_, _, rfl, by decide, by omega, hr5, hg6⟩
        · have t1 : ((d : Int) == 1) = false := by rw [beq_eq_false_iff_ne]; omega
          by_cases d2 : d = 2
          · subst d2
            clear t0 t1 d0 d1
            go_wp2_with fail
            go_ret
            exact ⟨_, _, rfl, by decide, by omega, hr5, hg6⟩
          · have t2 : ((d : Int) == 2) = false := by rw [beq_eq_false_iff_ne]; omega
            clear d0 d1 d2
            go_wp2_with fail
            go_ret
            exact ⟨_, _, rfl, by omega, by omega, hr5, hg6⟩
/-- A text of a sheet has been drawn out of a code. -/
def DrawnSheet (w : World) (e : Ending) (w' : World) : Prop := ∃ s : ByteArray, e = .returned (.string s) ∧ s.size ≤ 6 ∧ Below w.heap.size w w'
theorem drawSheetStack (a : Option Addr) (len cap : Nat) (z : List Int) (w : World) (hr : IsRow .u8 w a len cap z) (hc : len ≤ cap) : Calls Try.prog 20 #[.slice a len cap] w (DrawnSheet w) := by
  have HR := Lib.hid hr
  clear hr
  go_enter Try.func20, Try.ntmps20
  go_wp2_with fail
  refine (l6Open _ _ _ _ _ HR.out hc).mono ?_
  rintro e w1 ⟨g, A, len', cap', rfl, hg, hrd, hb⟩
  go_wp2_with fail
  refine (l92Sheet g A len' cap' 0 _ hrd (by omega)).mono ?_
  rintro e w2 ⟨s, p', rfl, hs, _, _, hg2⟩
  go_wp2_with fail
  go_ret
  exact ⟨s, rfl, hs, below_grown_at hb hg2 hb.size hg⟩
/-- A text and a cell have been drawn. -/
def DrawnCell (w : World) (g : Nat) (A : Option Addr) (len cap : Nat) (e : Ending) (w' : World) : Prop :=
  ∃ (s : ByteArray) (row col : Int) (p' : Nat), e = .returned (.tuple #[.string s, .int .i64 row, .int .i64 col]) ∧ s.size ≤ 6 ∧ -100 ≤ row ∧ row ≤ 100 ∧ -100 ≤ col ∧ col ≤ 100 ∧ Rd w' g A len cap p' ∧ w.grownBy w' (some g)
set_option maxHeartbeats 4000000 in
theorem l92Cell (g : Nat) (A : Option Addr) (len cap p : Nat) (w : World) (h : Rd w g A len cap p) (hp : p ≤ 80000) :
    Calls Try.prog 27 #[.pointer (some ⟨g, 0, none⟩)] w (DrawnCell w g A len cap) := by
  go_enter Try.func27, Try.ntmps27
  go_wp2_with fail
  refine (l92Sheet g A len cap p w h (by omega)).mono ?_
  rintro e w1 ⟨s, p1, rfl, hs, hp1, hr1, hg1⟩
  have C1 := fun w => specSheetSize s w (by unfold maxLen; omega)
  cases hok : sheetOk (bl s) with
  | false =>
    rw [hok] at C1
    have HC := Lib.hid C1
    clear C1 hok
    go_wp2_with fail
    refine (HC.out _).mono ?_
    rintro e w2 ⟨rfl, rfl⟩
    go_wp2_with fail
    refine (pick g A len cap _ _ _ hr1 (by omega) (by omega)).mono ?_
    rintro e w3 ⟨x, rfl, hx, _, hr3, hg3⟩
    have hx5 : x < 5 := by omega
    clear hx
    go_wp2_with fail
    refine (pick g A len cap _ _ _ hr3 (by omega) (by omega)).mono ?_
    rintro e w4 ⟨y, rfl, hy, _, hr4, hg4⟩
    have hy5 : y < 5 := by omega
    clear hy
    go_wp2_with fail
    go_ret3
    exact ⟨_, _, _, _, rfl, hs, by omega, by omega, by omega, by omega, hr4, grown_trans (grown_trans hg1 hg3) hg4⟩
  | true =>
    have h5 := (show (bl s).length ≤ 5 by
      unfold sheetOk at hok
      simp only [Bool.and_eq_true, decide_eq_true_eq] at hok
      exact hok.2)
    have hr0 : sheetRows (bl s) = rowsOf (bl s) := by unfold sheetRows; rw [hok]; rfl
    have hc0 : sheetCols (bl s) = colsOf (bl s) := by unfold sheetCols; rw [hok]; rfl
    have b1 := rowsOf_bd (bl s) h5
    have b2 := colsOf_bd (bl s) h5
    rw [hr0, hc0, hok] at C1
    obtain ⟨R, hR⟩ : ∃ R, R = rowsOf (bl s) := ⟨_, rfl⟩
    obtain ⟨C, hC⟩ : ∃ C, C = colsOf (bl s) := ⟨_, rfl⟩
    rw [← hR, ← hC] at C1
    rw [← hR] at b1
    rw [← hC] at b2
    have HC := Lib.hid C1
    clear C1 hok hr0 hc0 hR hC h5
    go_wp2_with fail
    refine (HC.out _).mono ?_
    rintro e w2 ⟨rfl, rfl⟩
    go_wp2_with fail
    refine (pick g A len cap _ _ _ hr1 (by omega) (by omega)).mono ?_
    rintro e w3 ⟨d, rfl, hd, _, hr3, hg3⟩
    clear hd
    by_cases d0 : d = 0
    · subst d0
      go_wp2_with fail
      refine (pick g A len cap _ _ _ hr3 (by omega) (by omega)).mono ?_
      rintro e w4 ⟨x, rfl, hx, _, hr4, hg4⟩
      have hx5 : x < 5 := by omega
      clear hx
      go_wp2_with fail
      refine (pick g A len cap _ _ _ hr4 (by omega) (by omega)).mono ?_
      rintro e w5 ⟨y, rfl, hy, _, hr5, hg5⟩
      have hy5 : y < 5 := by omega
      clear hy
      go_wp2_with fail
      go_ret3
      exact ⟨_, _, _, _, rfl, hs, by omega, by omega, by omega, by omega, hr5, grown_trans (grown_trans (grown_trans hg1 hg3) hg4) hg5⟩
    · have t0 : ((d : Int) == 0) = false := by rw [beq_eq_false_iff_ne]; omega
      clear d0
      go_wp2_with fail
      refine (pick g A len cap _ _ _ hr3 (by omega) (by omega)).mono ?_
      rintro e w4 ⟨x, rfl, hx, _, hr4, hg4⟩
      have hx5 : x < R := by omega
      clear hx
      go_wp2_with fail
      refine (pick g A len cap _ _ _ hr4 (by omega) (by omega)).mono ?_
      rintro e w5 ⟨y, rfl, hy, _, hr5, hg5⟩
      have hy5 : y < C := by omega
      clear hy
      go_wp2_with fail
      go_ret3
      exact ⟨_, _, _, _, rfl, hs, by omega, by omega, by omega, by omega, hr5, grown_trans (grown_trans (grown_trans hg1 hg3) hg4) hg5⟩
/-- A text and a cell have been drawn out of a code. -/
def DrawnCode (w : World) (e : Ending) (w' : World) : Prop := ∃ (s : ByteArray) (row col : Int), e = .returned (.tuple #[.string s, .int .i64 row, .int .i64 col]) ∧ s.size ≤ 6 ∧ -100 ≤ row ∧ row ≤ 100 ∧ -100 ≤ col ∧ col ≤ 100 ∧ Below w.heap.size w w'
theorem drawSheetRight (a : Option Addr) (len cap : Nat) (z : List Int) (w : World) (hr : IsRow .u8 w a len cap z) (hc : len ≤ cap) : Calls Try.prog 7 #[.slice a len cap] w (DrawnCode w) := by
  have HR := Lib.hid hr
  clear hr
  go_enter Try.func7, Try.ntmps7
  go_wp2_with fail
  refine (l6Open _ _ _ _ _ HR.out hc).mono ?_
  rintro e w1 ⟨g, A, len', cap', rfl, hg, hrd, hb⟩
  go_wp2_with fail
  refine (l92Cell g A len' cap' 0 _ hrd (by omega)).mono ?_
  rintro e w2 ⟨s, row, col, p', rfl, hs, r1, r2, c1, c2, _, hg2⟩
  go_wp2_with fail
  go_ret3
  exact ⟨s, row, col, rfl, hs, r1, r2, c1, c2, below_grown_at hb hg2 hb.size hg⟩
end Go.Proofs.Ytdgkjlehofkooaa
