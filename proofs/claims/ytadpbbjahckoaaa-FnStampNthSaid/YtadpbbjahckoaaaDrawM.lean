/- The walk of the function that draws a number of stamps and a rank. Conditions: each theorem's own premises. -/
import Derived.Test.YtadpbbjahckoaaaDrawN
import Derived.Deep.RegionHeld3
import Derived.Deep.RegionWith
namespace Go.Proofs.Ytadpbbjahckoaaa
open Go.RowKit
/-- A number of stamps and a rank have been drawn out of a code. -/
def DrawnNth (w : World) (e : Ending) (w' : World) : Prop := ∃ n r : Int, e = .returned (.tuple #[.int .i64 n, .int .i64 r]) ∧ NumOk n ∧ -1 ≤ r ∧ r ≤ 823543 ∧ Below w.heap.size w w'
theorem two_cellN (w : World) (a b : Int) (T : TypeId) (x : Nat) (hx : x < 2) : (w.alloc (.cells #[.int .i64 a, .int .i64 b] T)).cell? ⟨w.heap.size, x, none⟩ = some (.int .i64 (if x = 0 then a else b)) := by
  have hx : x = 0 ∨ x = 1 := by omega
  rcases hx with rfl | rfl
  · exact World.cell?_alloc_mark w _ T (0, 0) 0
  · exact World.cell?_alloc_mark w _ T (0, 0) 1
set_option maxRecDepth 100000 in
set_option maxHeartbeats 4000000 in
theorem drawStampNth (a : Option Addr) (len cap : Nat) (z : List Int) (w : World) (hr : IsRow .u8 w a len cap z) (hc : len ≤ cap) : Calls Try.prog 13 #[.slice a len cap] w (DrawnNth w) := by
  have HR := Lib.hid hr
  clear hr
  go_enter Try.func13, Try.ntmps13
  go_wp2_with fail
  refine (l6Open _ _ _ _ _ HR.out hc).mono ?_
  rintro e w1 ⟨g, A, len', cap', rfl, hg, hrd, hb⟩
  go_wp2_with fail
  refine (l91Number g A len' cap' 0 _ hrd (by omega)).mono ?_
  rintro e w2 ⟨n, p1, rfl, hn, hp1, hr1, hb2⟩
  have HN := Lib.hid hn
  have HR1 := Lib.hid hr1
  have HB2 := Lib.hid (hb.trans (hb2.mono hg))
  clear hn hr1 hb2
  go_wp2_with fail
  refine (specStampMany n _).mono ?_
  rintro e w3 ⟨rfl, hb3⟩
  have hlt2 := HR1.out.lt
  have hr3 : Rd w3 g A len' cap' p1 := HR1.out.below hb3
  have hb3' : Below w.heap.size w w3 := HB2.out.trans (hb3.mono HB2.out.size)
  obtain ⟨m, hm⟩ : ∃ m, m = manyI n := ⟨_, rfl⟩
  have hmb := many_bd n
  rw [← hm] at hmb ⊢
  have HR3 := Lib.hid hr3
  have HB3 := Lib.hid hb3'
  have hgw : g < w3.heap.size := hr3.lt
  clear hr3 hb3' hm hb3 HB2 HR1 hrd hb hlt2
  have h3 : m < 1 ∨ 1 = m ∨ 1 < m := by omega
  rcases h3 with h3 | h3 | h3
  · go_wp2_with fail
    refine (pick g A len' cap' p1 12 _ HR3.out (by omega) (by omega)).mono ?_
    rintro e w5 ⟨d, rfl, hd, _, hr5, hg5⟩
    clear hd
    have hb5 : Below w.heap.size w w5 := below_grown_at HB3.out hg5 HB3.out.size hg
    by_cases d0 : d = 0
    · subst d0
      have t0 : (((0 : Nat) : Int) == 0) = true := rfl
      go_wp2_with fail
      have hgw : g < w5.heap.size := hr5.lt
      have hrD : Rd w5.drew g A len' cap' (p1 + 1) := hr5.keep (fun _ _ => rfl)
      have hrA : Rd (w5.alloc (.cells #[.int .i64 (-1), .int .i64 1] 3)) g A len' cap' (p1 + 1) := hr5.below ((Below.refl _ _).alloc (Nat.le_refl _) _)
      have hrAD : Rd (w5.alloc (.cells #[.int .i64 (-1), .int .i64 1] 3)).drew g A len' cap' (p1 + 1) := hrA.keep (fun _ _ => rfl)
      have hacD : Below w.heap.size w w5.drew := hb5.drew
      have hacA : Below w.heap.size w (w5.alloc (.cells #[.int .i64 (-1), .int .i64 1] 3)) := hb5.alloc hb5.size _
      have hacAD : Below w.heap.size w (w5.alloc (.cells #[.int .i64 (-1), .int .i64 1] 3)).drew := hacA.drew
      have HT := Lib.hid (fun x hx => two_cellN w5 (-1) 1 3 x hx)
      have HB1 : Hid (∀ (w4 : World) (x : Nat), x < 2 → (w5.alloc (.cells #[.int .i64 (-1), .int .i64 1] 3)).drew.grownBy w4 (some g) → ∃ v : Int, w4.cell? ⟨w5.heap.size, x, none⟩ = some (.int .i64 v) ∧ -1 ≤ v ∧ v ≤ 823543 ∧ Below w.heap.size w w4) := fun w4 x hx2 hg4 => ⟨_, (World.cell?_of_block (a := ⟨w5.heap.size, x, none⟩) (hg4.block w5.heap.size (by simp) (fun e => by have := Option.some.inj e; omega))).trans (HT.out x hx2), by split <;> omega, by split <;> omega, below_grown_at hacAD hg4 hacAD.size hg⟩
      have HB2 : Hid (∀ (w4 : World) (x : Nat), x < 2 → w5.drew.grownBy w4 (some g) → ∃ v : Int, (w4.alloc (.cells #[.int .i64 (-1), .int .i64 1] 3)).cell? ⟨w4.heap.size, x, none⟩ = some (.int .i64 v) ∧ -1 ≤ v ∧ v ≤ 823543 ∧ Below w.heap.size w w4) := fun w4 x hx2 hg4 => ⟨_, two_cellN w4 (-1) 1 3 x hx2, by split <;> omega, by split <;> omega, below_grown_at hacD hg4 hacD.size hg⟩
      have HR1 := Lib.hid hrAD
      have HR2 := Lib.hid hrD
      clear hrA hrAD hrD hacA hacAD hacD
      go_region_with ((go_at_call 38; (first | refine (pick g A len' cap' (p1 + 1) 2 _ HR1.out (by omega) (by omega)).mono ?_ | refine (pick g A len' cap' (p1 + 1) 2 _ HR2.out (by omega) (by omega)).mono ?_); rintro e w4 ⟨x, rfl, hx, _, hr4, hg4⟩; have hx2 : x < 2 := (by omega); have hxi : (x : Int) < 2 := (by omega); have hx0 : (0 : Int) ≤ (x : Int) := (by omega); (first | refine Exists.elim (HB1.out w4 x hx2 hg4) ?_ | refine Exists.elim (HB2.out w4 x hx2 hg4) ?_); rintro v ⟨kB, v1, v2, hfin⟩))
      all_goals (first | go_wp2_with fail | skip)
      all_goals go_ret2
      all_goals first
        | exact ⟨n, v, rfl, HN.out, v1, v2, hfin⟩
        | exact ⟨n, v, rfl, HN.out, v1, v2, hfin.alloc hfin.size _⟩
    · have t0 : ((d : Int) == 0) = false := by rw [beq_eq_false_iff_ne]; omega
      clear d0
      go_wp2_with fail
      have hgw : g < w5.heap.size := hr5.lt
      have hrD : Rd w5.drew g A len' cap' (p1 + 1) := hr5.keep (fun _ _ => rfl)
      have hacD : Below w.heap.size w w5.drew := hb5.drew
      have HR2 := Lib.hid hrD
      have HB2 : Hid (∀ (w4 : World) (x : Nat), w5.drew.grownBy w4 (some g) → ∃ v : Int, (x : Int).tmod 1 = v ∧ -1 ≤ v ∧ v ≤ 823543 ∧ Below w.heap.size w w4) := fun w4 x hg4 => ⟨_, rfl, by
        have := Int.tmod_nonneg 1 (a := (x : Int)) (by omega)
        omega, by
        have := Int.tmod_lt_of_pos (x : Int) (b := 1) (by omega)
        omega, below_grown_at hacD hg4 hacD.size hg⟩
      have hk0 : (1 : Int) ≠ 0 := by omega
      clear hrD hacD
      go_region_with ((go_at_call 38; (refine (pick g A len' cap' (p1 + 1) 200 _ HR2.out (by omega) (by omega)).mono ?_); rintro e w4 ⟨x, rfl, hx, _, hr4, hg4⟩; refine Exists.elim (HB2.out w4 x hg4) ?_; rintro v ⟨kB, v1, v2, hfin⟩))
      all_goals (first | go_wp2_with fail | skip)
      all_goals go_ret2
      all_goals exact ⟨n, v, rfl, HN.out, v1, v2, hfin⟩
  · subst h3
    go_wp2_with fail
    refine (pick g A len' cap' p1 12 _ HR3.out (by omega) (by omega)).mono ?_
    rintro e w5 ⟨d, rfl, hd, _, hr5, hg5⟩
    clear hd
    have hb5 : Below w.heap.size w w5 := below_grown_at HB3.out hg5 HB3.out.size hg
    by_cases d0 : d = 0
    · subst d0
      have t0 : (((0 : Nat) : Int) == 0) = true := rfl
      go_wp2_with fail
      have hgw : g < w5.heap.size := hr5.lt
      have hrD : Rd w5.drew g A len' cap' (p1 + 1) := hr5.keep (fun _ _ => rfl)
      have hrA : Rd (w5.alloc (.cells #[.int .i64 (-1), .int .i64 1] 3)) g A len' cap' (p1 + 1) := hr5.below ((Below.refl _ _).alloc (Nat.le_refl _) _)
      have hrAD : Rd (w5.alloc (.cells #[.int .i64 (-1), .int .i64 1] 3)).drew g A len' cap' (p1 + 1) := hrA.keep (fun _ _ => rfl)
      have hacD : Below w.heap.size w w5.drew := hb5.drew
      have hacA : Below w.heap.size w (w5.alloc (.cells #[.int .i64 (-1), .int .i64 1] 3)) := hb5.alloc hb5.size _
      have hacAD : Below w.heap.size w (w5.alloc (.cells #[.int .i64 (-1), .int .i64 1] 3)).drew := hacA.drew
      have HT := Lib.hid (fun x hx => two_cellN w5 (-1) 1 3 x hx)
      have HB1 : Hid (∀ (w4 : World) (x : Nat), x < 2 → (w5.alloc (.cells #[.int .i64 (-1), .int .i64 1] 3)).drew.grownBy w4 (some g) → ∃ v : Int, w4.cell? ⟨w5.heap.size, x, none⟩ = some (.int .i64 v) ∧ -1 ≤ v ∧ v ≤ 823543 ∧ Below w.heap.size w w4) := fun w4 x hx2 hg4 => ⟨_, (World.cell?_of_block (a := ⟨w5.heap.size, x, none⟩) (hg4.block w5.heap.size (by simp) (fun e => by have := Option.some.inj e; omega))).trans (HT.out x hx2), by split <;> omega, by split <;> omega, below_grown_at hacAD hg4 hacAD.size hg⟩
      have HB2 : Hid (∀ (w4 : World) (x : Nat), x < 2 → w5.drew.grownBy w4 (some g) → ∃ v : Int, (w4.alloc (.cells #[.int .i64 (-1), .int .i64 1] 3)).cell? ⟨w4.heap.size, x, none⟩ = some (.int .i64 v) ∧ -1 ≤ v ∧ v ≤ 823543 ∧ Below w.heap.size w w4) := fun w4 x hx2 hg4 => ⟨_, two_cellN w4 (-1) 1 3 x hx2, by split <;> omega, by split <;> omega, below_grown_at hacD hg4 hacD.size hg⟩
      have HR1 := Lib.hid hrAD
      have HR2 := Lib.hid hrD
      clear hrA hrAD hrD hacA hacAD hacD
      go_region_with ((go_at_call 38; (first | refine (pick g A len' cap' (p1 + 1) 2 _ HR1.out (by omega) (by omega)).mono ?_ | refine (pick g A len' cap' (p1 + 1) 2 _ HR2.out (by omega) (by omega)).mono ?_); rintro e w4 ⟨x, rfl, hx, _, hr4, hg4⟩; have hx2 : x < 2 := (by omega); have hxi : (x : Int) < 2 := (by omega); have hx0 : (0 : Int) ≤ (x : Int) := (by omega); (first | refine Exists.elim (HB1.out w4 x hx2 hg4) ?_ | refine Exists.elim (HB2.out w4 x hx2 hg4) ?_); rintro v ⟨kB, v1, v2, hfin⟩))
      all_goals (first | go_wp2_with fail | skip)
      all_goals go_ret2
      all_goals first
        | exact ⟨n, v, rfl, HN.out, v1, v2, hfin⟩
        | exact ⟨n, v, rfl, HN.out, v1, v2, hfin.alloc hfin.size _⟩
    · have t0 : ((d : Int) == 0) = false := by rw [beq_eq_false_iff_ne]; omega
      clear d0
      go_wp2_with fail
      have hgw : g < w5.heap.size := hr5.lt
      have hrD : Rd w5.drew g A len' cap' (p1 + 1) := hr5.keep (fun _ _ => rfl)
      have hacD : Below w.heap.size w w5.drew := hb5.drew
      have HR2 := Lib.hid hrD
      have HB2 : Hid (∀ (w4 : World) (x : Nat), w5.drew.grownBy w4 (some g) → ∃ v : Int, (x : Int).tmod 1 = v ∧ -1 ≤ v ∧ v ≤ 823543 ∧ Below w.heap.size w w4) := fun w4 x hg4 => ⟨_, rfl, by
        have := Int.tmod_nonneg 1 (a := (x : Int)) (by omega)
        omega, by
        have := Int.tmod_lt_of_pos (x : Int) (b := 1) (by omega)
        omega, below_grown_at hacD hg4 hacD.size hg⟩
      have hk0 : (1 : Int) ≠ 0 := by omega
      clear hrD hacD
      go_region_with ((go_at_call 38; (refine (pick g A len' cap' (p1 + 1) 200 _ HR2.out (by omega) (by omega)).mono ?_); rintro e w4 ⟨x, rfl, hx, _, hr4, hg4⟩; refine Exists.elim (HB2.out w4 x hg4) ?_; rintro v ⟨kB, v1, v2, hfin⟩))
      all_goals (first | go_wp2_with fail | skip)
      all_goals go_ret2
      all_goals exact ⟨n, v, rfl, HN.out, v1, v2, hfin⟩
  · go_wp2_with fail
    refine (pick g A len' cap' p1 12 _ HR3.out (by omega) (by omega)).mono ?_
    rintro e w5 ⟨d, rfl, hd, _, hr5, hg5⟩
    clear hd
    have hb5 : Below w.heap.size w w5 := below_grown_at HB3.out hg5 HB3.out.size hg
    by_cases d0 : d = 0
    · subst d0
      have t0 : (((0 : Nat) : Int) == 0) = true := rfl
      go_wp2_with fail
      have hgw : g < w5.heap.size := hr5.lt
      have hrD : Rd w5.drew g A len' cap' (p1 + 1) := hr5.keep (fun _ _ => rfl)
      have hrA : Rd (w5.alloc (.cells #[.int .i64 (-1), .int .i64 m] 3)) g A len' cap' (p1 + 1) := hr5.below ((Below.refl _ _).alloc (Nat.le_refl _) _)
      have hrAD : Rd (w5.alloc (.cells #[.int .i64 (-1), .int .i64 m] 3)).drew g A len' cap' (p1 + 1) := hrA.keep (fun _ _ => rfl)
      have hacD : Below w.heap.size w w5.drew := hb5.drew
      have hacA : Below w.heap.size w (w5.alloc (.cells #[.int .i64 (-1), .int .i64 m] 3)) := hb5.alloc hb5.size _
      have hacAD : Below w.heap.size w (w5.alloc (.cells #[.int .i64 (-1), .int .i64 m] 3)).drew := hacA.drew
      have HT := Lib.hid (fun x hx => two_cellN w5 (-1) m 3 x hx)
      have HB1 : Hid (∀ (w4 : World) (x : Nat), x < 2 → (w5.alloc (.cells #[.int .i64 (-1), .int .i64 m] 3)).drew.grownBy w4 (some g) → ∃ v : Int, w4.cell? ⟨w5.heap.size, x, none⟩ = some (.int .i64 v) ∧ -1 ≤ v ∧ v ≤ 823543 ∧ Below w.heap.size w w4) := fun w4 x hx2 hg4 => ⟨_, (World.cell?_of_block (a := ⟨w5.heap.size, x, none⟩) (hg4.block w5.heap.size (by simp) (fun e => by have := Option.some.inj e; omega))).trans (HT.out x hx2), by split <;> omega, by split <;> omega, below_grown_at hacAD hg4 hacAD.size hg⟩
      have HB2 : Hid (∀ (w4 : World) (x : Nat), x < 2 → w5.drew.grownBy w4 (some g) → ∃ v : Int, (w4.alloc (.cells #[.int .i64 (-1), .int .i64 m] 3)).cell? ⟨w4.heap.size, x, none⟩ = some (.int .i64 v) ∧ -1 ≤ v ∧ v ≤ 823543 ∧ Below w.heap.size w w4) := fun w4 x hx2 hg4 => ⟨_, two_cellN w4 (-1) m 3 x hx2, by split <;> omega, by split <;> omega, below_grown_at hacD hg4 hacD.size hg⟩
      have HR1 := Lib.hid hrAD
      have HR2 := Lib.hid hrD
      clear hrA hrAD hrD hacA hacAD hacD
      go_region_with ((go_at_call 38; (first | refine (pick g A len' cap' (p1 + 1) 2 _ HR1.out (by omega) (by omega)).mono ?_ | refine (pick g A len' cap' (p1 + 1) 2 _ HR2.out (by omega) (by omega)).mono ?_); rintro e w4 ⟨x, rfl, hx, _, hr4, hg4⟩; have hx2 : x < 2 := (by omega); have hxi : (x : Int) < 2 := (by omega); have hx0 : (0 : Int) ≤ (x : Int) := (by omega); (first | refine Exists.elim (HB1.out w4 x hx2 hg4) ?_ | refine Exists.elim (HB2.out w4 x hx2 hg4) ?_); rintro v ⟨kB, v1, v2, hfin⟩))
      all_goals (first | go_wp2_with fail | skip)
      all_goals go_ret2
      all_goals first
        | exact ⟨n, v, rfl, HN.out, v1, v2, hfin⟩
        | exact ⟨n, v, rfl, HN.out, v1, v2, hfin.alloc hfin.size _⟩
    · have t0 : ((d : Int) == 0) = false := by rw [beq_eq_false_iff_ne]; omega
      clear d0
      go_wp2_with fail
      have hgw : g < w5.heap.size := hr5.lt
      have hrD : Rd w5.drew g A len' cap' (p1 + 1) := hr5.keep (fun _ _ => rfl)
      have hacD : Below w.heap.size w w5.drew := hb5.drew
      have HR2 := Lib.hid hrD
      have HB2 : Hid (∀ (w4 : World) (x : Nat), w5.drew.grownBy w4 (some g) → ∃ v : Int, (x : Int).tmod m = v ∧ -1 ≤ v ∧ v ≤ 823543 ∧ Below w.heap.size w w4) := fun w4 x hg4 => ⟨_, rfl, by
        have := Int.tmod_nonneg m (a := (x : Int)) (by omega)
        omega, by
        have := Int.tmod_lt_of_pos (x : Int) (b := m) (by omega)
        omega, below_grown_at hacD hg4 hacD.size hg⟩
      have hk0 : (m : Int) ≠ 0 := by omega
      clear hrD hacD
      go_region_with ((go_at_call 38; (refine (pick g A len' cap' (p1 + 1) 200 _ HR2.out (by omega) (by omega)).mono ?_); rintro e w4 ⟨x, rfl, hx, _, hr4, hg4⟩; refine Exists.elim (HB2.out w4 x hg4) ?_; rintro v ⟨kB, v1, v2, hfin⟩))
      all_goals (first | go_wp2_with fail | skip)
      all_goals go_ret2
      all_goals exact ⟨n, v, rfl, HN.out, v1, v2, hfin⟩
end Go.Proofs.Ytadpbbjahckoaaa
