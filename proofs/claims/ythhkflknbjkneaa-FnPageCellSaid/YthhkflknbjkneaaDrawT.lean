/- The walk of the function that draws a text of a sheet and a page. Conditions: each theorem's own premises. -/
import Derived.Test.YthhkflknbjkneaaDrawS
import Derived.Deep.RegionHeld3
import Derived.Deep.RegionWith
namespace Go.Proofs.Ythhkflknbjkneaa
open Go.RowKit
/-- A text and a page have been drawn out of a code. -/
def DrawnPage (w : World) (e : Ending) (w' : World) : Prop := ∃ (s : ByteArray) (page : Int), e = .returned (.tuple #[.string s, .int .i64 page]) ∧ s.size ≤ 6 ∧ -5000 ≤ page ∧ page ≤ 5000 ∧ Below w.heap.size w w'
theorem two_cell (w : World) (a b : Int) (T : TypeId) (x : Nat) (hx : x < 2) : (w.alloc (.cells #[.int .i64 a, .int .i64 b] T)).cell? ⟨w.heap.size, x, none⟩ = some (.int .i64 (if x = 0 then a else b)) := by
  have hx : x = 0 ∨ x = 1 := by omega
  rcases hx with rfl | rfl
  · exact World.cell?_alloc_mark w _ T (0, 0) 0
  · exact World.cell?_alloc_mark w _ T (0, 0) 1
theorem ok_is5 {l : List UInt8} (hok : sheetOk l = true) : l.length ≤ 5 := by
  unfold sheetOk at hok
  simp only [Bool.and_eq_true, decide_eq_true_eq] at hok
  exact hok.2
set_option maxRecDepth 100000 in
set_option maxHeartbeats 2000000 in
theorem drawPageCell (a : Option Addr) (len cap : Nat) (z : List Int) (w : World) (hr : IsRow .u8 w a len cap z) (hc : len ≤ cap) : Calls Try.prog 13 #[.slice a len cap] w (DrawnPage w) := by
  have HR := Lib.hid hr
  clear hr
  go_enter Try.func13, Try.ntmps13
  go_wp2_with fail
  refine (l6Open _ _ _ _ _ HR.out hc).mono ?_
  rintro e w1 ⟨g, A, len', cap', rfl, hg, hrd, hb⟩
  go_wp2_with fail
  refine (l92Sheet g A len' cap' 0 _ hrd (by omega)).mono ?_
  rintro e w2 ⟨s, p1, rfl, hs, hp1, hr1, hg1⟩
  have C1 := fun w => specSheetSize s w (by unfold maxLen; omega)
  cases hok : sheetOk (bl s) with
  | false =>
    have hr0 : sheetRows (bl s) = 0 := by unfold sheetRows; rw [hok]; rfl
    have hc0 : sheetCols (bl s) = 0 := by unfold sheetCols; rw [hok]; rfl
    rw [hr0, hc0, hok] at C1
    have HC := Lib.hid C1
    clear C1 hok hr0 hc0
    go_wp2_with fail
    refine (HC.out _).mono ?_
    rintro e w3 ⟨rfl, rfl⟩
    go_wp2_with fail
    have ew1 : IntKind.i64.wrap 0 = 0 := rfl
    have ew2 : IntKind.i64.wrap (0 + 1) = 1 := rfl
    have ew3 : IntKind.i64.wrap 1 = 1 := rfl
    have hacc : Below w.heap.size w w2 := below_grown_at hb hg1 hb.size hg
    have hgw : g < w2.heap.size := hr1.lt
    obtain ⟨O, hO⟩ : ∃ O : Obj, O = .cells #[.int .i64 0, .int .i64 (1)] 3 := ⟨_, rfl⟩
    have hrD : Rd w2.drew g A len' cap' p1 := hr1.keep (fun _ _ => rfl)
    have hrA : Rd (w2.alloc (.cells #[.int .i64 0, .int .i64 (1)] 3)) g A len' cap' p1 := hr1.below ((Below.refl _ _).alloc (Nat.le_refl _) _)
    have hrAD : Rd (w2.alloc (.cells #[.int .i64 0, .int .i64 (1)] 3)).drew g A len' cap' p1 := hrA.keep (fun _ _ => rfl)
    have hacD : Below w.heap.size w w2.drew := hacc.drew
    have hacA : Below w.heap.size w (w2.alloc (.cells #[.int .i64 0, .int .i64 (1)] 3)) := hacc.alloc hacc.size _
    have hacAD : Below w.heap.size w (w2.alloc (.cells #[.int .i64 0, .int .i64 (1)] 3)).drew := hacA.drew
    have HT := Lib.hid (fun x hx => two_cell w2 0 (1) 3 x hx)
    clear hO
    have HB1 : Hid (∀ (w4 : World) (x : Nat), x < 2 → (w2.alloc (.cells #[.int .i64 0, .int .i64 (1)] 3)).drew.grownBy w4 (some g) → ∃ v : Int, w4.cell? ⟨w2.heap.size, x, none⟩ = some (.int .i64 v) ∧ 0 ≤ v ∧ v ≤ 5000 ∧ Below w.heap.size w w4) := fun w4 x hx2 hg4 => ⟨_, (World.cell?_of_block (a := ⟨w2.heap.size, x, none⟩) (hg4.block w2.heap.size (by simp) (fun e => by have := Option.some.inj e; omega))).trans (HT.out x hx2), by split <;> omega, by split <;> omega, below_grown_at hacAD hg4 hacAD.size hg⟩
    have HB2 : Hid (∀ (w4 : World) (x : Nat), x < 2 → w2.drew.grownBy w4 (some g) → ∃ v : Int, (w4.alloc (.cells #[.int .i64 0, .int .i64 (1)] 3)).cell? ⟨w4.heap.size, x, none⟩ = some (.int .i64 v) ∧ 0 ≤ v ∧ v ≤ 5000 ∧ Below w.heap.size w w4) := fun w4 x hx2 hg4 => ⟨_, two_cell w4 0 1 3 x hx2, by split <;> omega, by split <;> omega, below_grown_at hacD hg4 hacD.size hg⟩
    have HR1 := Lib.hid hrAD
    have HR2 := Lib.hid hrD
    clear hrA hrAD hrD hacA hacAD hacD
    go_region_with ((go_at_call 30; (first | refine (pick g A len' cap' p1 2 _ HR1.out (by omega) (by omega)).mono ?_ | refine (pick g A len' cap' p1 2 _ HR2.out (by omega) (by omega)).mono ?_); rintro e w4 ⟨x, rfl, hx, _, hr4, hg4⟩; have hx2 : x < 2 := (by omega); have hxi : (x : Int) < 2 := (by omega); have hx0 : (0 : Int) ≤ (x : Int) := (by omega); (first | refine Exists.elim (HB1.out w4 x hx2 hg4) ?_ | refine Exists.elim (HB2.out w4 x hx2 hg4) ?_); rintro v ⟨kB, v1, v2, hfin⟩))
    all_goals (first | go_wp2_with fail | skip)
    all_goals go_ret2
    all_goals first
      | exact ⟨s, v, rfl, hs, by omega, by omega, hfin⟩
      | exact ⟨s, v, rfl, hs, by omega, by omega, hfin.alloc hfin.size _⟩
  | true =>
    have h5 := (ok_is5 hok)
    have hr0 : sheetRows (bl s) = rowsOf (bl s) := by unfold sheetRows; rw [hok]; rfl
    have hc0 : sheetCols (bl s) = colsOf (bl s) := by unfold sheetCols; rw [hok]; rfl
    have b1 := rowsOf_bd (bl s) h5
    have b2 := colsOf_bd (bl s) h5
    rw [hr0, hc0, hok] at C1
    obtain ⟨R, hR⟩ : ∃ R, R = rowsOf (bl s) := ⟨_, rfl⟩
    obtain ⟨C, hC⟩ : ∃ C, C = colsOf (bl s) := ⟨_, rfl⟩
    rw [← hR, ← hC] at C1
    rw [← hR] at b1
    rw [← hC] at b2
    obtain ⟨K, hK⟩ : ∃ K : Int, K = 2 * (R : Int) * (C : Int) := ⟨_, rfl⟩
    have hKb : 0 ≤ K ∧ K ≤ 2048 := by
      have h1 : R * C ≤ 32 * 32 := Nat.mul_le_mul b1.2 b2.2
      have h2 : K = 2 * ((R * C : Nat) : Int) := by rw [hK, Int.mul_assoc]; simp
      omega
    have ew1 : IntKind.i64.wrap (2 * (R : Int) * (C : Int)) = K := by rw [← hK, IntKind.wrap_i64]; omega
    have ew0 : IntKind.i64.wrap (2 * (R : Int)) = 2 * (R : Int) := by rw [IntKind.wrap_i64]; omega
    have ew2 : IntKind.i64.wrap (K + 1) = K + 1 := by rw [IntKind.wrap_i64]; omega
    have HC := Lib.hid C1
    have HE0 := Lib.hid ew0
    have HE1 := Lib.hid ew1
    have HE2 := Lib.hid ew2
    clear C1 hok hr0 hc0 hR hC h5 hK ew0 ew1 ew2
    go_wp2_with fail
    refine (HC.out _).mono ?_
    rintro e w3 ⟨rfl, rfl⟩
    go_wp2_with fail
    refine (pick g A len' cap' _ _ _ hr1 (by omega) (by omega)).mono ?_
    rintro e w5 ⟨d, rfl, hd, _, hr5, hg5⟩
    clear hd
    have hb5 : Below w.heap.size w w5 := below_grown_at (below_grown_at hb hg1 hb.size hg) hg5 (below_grown_at hb hg1 hb.size hg).size hg
    by_cases d0 : d = 0
    · subst d0
      have ew0 := HE0.out
      have ew1 := HE1.out
      have ew2 := HE2.out
      go_wp2_with fail
      have hacc : Below w.heap.size w w5 := hb5
      have hgw : g < w5.heap.size := hr5.lt
      obtain ⟨O, hO⟩ : ∃ O : Obj, O = .cells #[.int .i64 0, .int .i64 (K + 1)] 3 := ⟨_, rfl⟩
      have hrD : Rd w5.drew g A len' cap' (p1 + 1) := hr5.keep (fun _ _ => rfl)
      have hrA : Rd (w5.alloc (.cells #[.int .i64 0, .int .i64 (K + 1)] 3)) g A len' cap' (p1 + 1) := hr5.below ((Below.refl _ _).alloc (Nat.le_refl _) _)
      have hrAD : Rd (w5.alloc (.cells #[.int .i64 0, .int .i64 (K + 1)] 3)).drew g A len' cap' (p1 + 1) := hrA.keep (fun _ _ => rfl)
      have hacD : Below w.heap.size w w5.drew := hacc.drew
      have hacA : Below w.heap.size w (w5.alloc (.cells #[.int .i64 0, .int .i64 (K + 1)] 3)) := hacc.alloc hacc.size _
      have hacAD : Below w.heap.size w (w5.alloc (.cells #[.int .i64 0, .int .i64 (K + 1)] 3)).drew := hacA.drew
      have HT := Lib.hid (fun x hx => two_cell w5 0 (K + 1) 3 x hx)
      clear hO
      have HB1 : Hid (∀ (w4 : World) (x : Nat), x < 2 → (w5.alloc (.cells #[.int .i64 0, .int .i64 (K + 1)] 3)).drew.grownBy w4 (some g) → ∃ v : Int, w4.cell? ⟨w5.heap.size, x, none⟩ = some (.int .i64 v) ∧ 0 ≤ v ∧ v ≤ 5000 ∧ Below w.heap.size w w4) := fun w4 x hx2 hg4 => ⟨_, (World.cell?_of_block (a := ⟨w5.heap.size, x, none⟩) (hg4.block w5.heap.size (by simp) (fun e => by have := Option.some.inj e; omega))).trans (HT.out x hx2), by split <;> omega, by split <;> omega, below_grown_at hacAD hg4 hacAD.size hg⟩
      have HB2 : Hid (∀ (w4 : World) (x : Nat), x < 2 → w5.drew.grownBy w4 (some g) → ∃ v : Int, (w4.alloc (.cells #[.int .i64 0, .int .i64 (K + 1)] 3)).cell? ⟨w4.heap.size, x, none⟩ = some (.int .i64 v) ∧ 0 ≤ v ∧ v ≤ 5000 ∧ Below w.heap.size w w4) := fun w4 x hx2 hg4 => ⟨_, two_cell w4 0 (K + 1) 3 x hx2, by split <;> omega, by split <;> omega, below_grown_at hacD hg4 hacD.size hg⟩
      have HR1 := Lib.hid hrAD
      have HR2 := Lib.hid hrD
      clear hrA hrAD hrD hacA hacAD hacD
      go_region_with ((go_at_call 30; (first | refine (pick g A len' cap' (p1 + 1) 2 _ HR1.out (by omega) (by omega)).mono ?_ | refine (pick g A len' cap' (p1 + 1) 2 _ HR2.out (by omega) (by omega)).mono ?_); rintro e w4 ⟨x, rfl, hx, _, hr4, hg4⟩; have hx2 : x < 2 := (by omega); have hxi : (x : Int) < 2 := (by omega); have hx0 : (0 : Int) ≤ (x : Int) := (by omega); (first | refine Exists.elim (HB1.out w4 x hx2 hg4) ?_ | refine Exists.elim (HB2.out w4 x hx2 hg4) ?_); rintro v ⟨kB, v1, v2, hfin⟩))
      all_goals (first | go_wp2_with fail | skip)
      all_goals go_ret2
      all_goals first
        | exact ⟨s, v, rfl, hs, by omega, by omega, hfin⟩
        | exact ⟨s, v, rfl, hs, by omega, by omega, hfin.alloc hfin.size _⟩
    · have t0 : ((d : Int) == 0) = false := by rw [beq_eq_false_iff_ne]; omega
      clear d0
      have ew0 := HE0.out
      have ew1 := HE1.out
      go_wp2_with fail
      refine (pick g A len' cap' _ _ _ hr5 (by omega) (by omega)).mono ?_
      rintro e w6 ⟨x, rfl, hx, hx0, hr6, hg6⟩
      have hxb : (x : Int) ≤ 2048 := by
        by_cases h : 1 ≤ K
        · have := hx h
          omega
        · have := hx0 (by omega)
          omega
      go_wp2_with fail
      go_ret2
      exact ⟨s, _, rfl, hs, by omega, by omega, below_grown_at hb5 hg6 hb5.size hg⟩
end Go.Proofs.Ythhkflknbjkneaa
