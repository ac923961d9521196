/- The walks of PathEnd, of the program and of the reference. Conditions: each theorem's own premises. -/
import Derived.Test.YtalbokejljjflaaPathC
namespace Go.Proofs.Ytalbokejljjflaa
open Go.RowKit
/-- The place that PathEnd returns. -/
def endP (l : List UInt8) : Int × Int := if creas l then (stAt l l.length).1 else (0, 0)
theorem endP_no {l : List UInt8} (h : creas l = false) : endP l = (0, 0) := by unfold endP; rw [h]; rfl
theorem endP_yes {l : List UInt8} (h : creas l = true) : endP l = (stAt l l.length).1 := by unfold endP; rw [h]; rfl
theorem NoPlaces.form {w w' : World} {e : Ending} (h : NoPlaces w e w') : ∃ A : Option Addr, e = .returned (.tuple #[.slice A 0 0, .bool false]) ∧ Below w.heap.size w w' := by
  obtain ⟨v, he, hv, hb⟩ := h
  rcases hv with rfl | ⟨g, rfl⟩
  · exact ⟨none, he, hb⟩
  · exact ⟨_, he, hb⟩
set_option maxHeartbeats 1000000 in
theorem implPathEnd (s : ByteArray) (w : World) (hs : s.size ≤ 1048576) :
    Calls Try.prog 7 #[.string s] w fun e w' => e = .returned (.tuple #[.agg #[.int .i64 (endP (bl s)).1, .int .i64 (endP (bl s)).2], .bool (creas (bl s))]) ∧ Below w.heap.size w w' := by
  cases hok : creas (bl s) with
  | false =>
    rw [endP_no hok]
    have HOK := Lib.hid hok
    clear hok
    go_enter Try.func7, Try.ntmps7
    go_wp2_with fail
    refine (implPathPlaces_no s _ (by unfold maxLen; omega) HOK.out).mono ?_
    intro e w1 h1
    obtain ⟨A1, rfl, hb1⟩ := h1.form
    have hz1 : w.heap.size + 1 ≤ w1.heap.size := by simpa using hb1.size
    have hb0 : Below w.heap.size w w1 := ((Below.refl _ w).alloc (Nat.le_refl _) _).trans (hb1.mono (by simp))
    have hc0 : w1.cell? ⟨w.heap.size, 0, none⟩ = some (.int .i64 0) := (hb1.cell (p := ⟨w.heap.size, 0, none⟩) (by simp)).trans (World.cell?_alloc_mark w _ _ (0, 0) 0)
    have hc1 : w1.cell? ⟨w.heap.size, 1, none⟩ = some (.int .i64 0) := (hb1.cell (p := ⟨w.heap.size, 1, none⟩) (by simp)).trans (World.cell?_alloc_mark w _ _ (0, 0) 1)
    have hf0 : w1.frozen? ⟨w.heap.size, 0, none⟩ = false := (hb1.frozen (p := ⟨w.heap.size, 0, none⟩) (by simp)).trans (World.frozen?_alloc_mark w _ _ 0 0 0)
    have hf1 : w1.frozen? ⟨w.heap.size, 1, none⟩ = false := (hb1.frozen (p := ⟨w.heap.size, 1, none⟩) (by simp)).trans (World.frozen?_alloc_mark w _ _ 0 0 1)
    clear hb1 h1
    go_wp2_with fail
    exact bodyPost_ret (v := .tuple #[.agg #[.int .i64 0, .int .i64 0], .bool false]) (by simp [results, Try.results7, go_sem, hc0, hc1]) rfl ⟨rfl, (by repeat (first | exact Below.refl _ _ | assumption | (refine Below.setCell ?_ (by first | omega | (simp; done) | (simp; omega)) _) | (refine Below.alloc ?_ (by first | omega | (simp; done) | (simp; omega)) _) | (refine below_drewN ?_ _) | (refine Below.drew ?_)))⟩
  | true =>
    rw [endP_yes hok]
    have HOK := Lib.hid hok
    have hsl := creas_len hok
    clear hok
    go_enter Try.func7, Try.ntmps7
    go_wp2_with fail
    refine (implPathPlaces s _ HOK.out).mono ?_
    rintro e w1 ⟨g, cap, rfl, hg, ho, hb1⟩
    have hz1 : w.heap.size + 1 ≤ w1.heap.size := by simpa using hb1.size
    have hg' : w.heap.size + 1 ≤ g := by simpa using hg
    have hb0 : Below w.heap.size w w1 := ((Below.refl _ w).alloc (Nat.le_refl _) _).trans (hb1.mono (by simp))
    have hc0 : w1.cell? ⟨w.heap.size, 0, none⟩ = some (.int .i64 0) := (hb1.cell (p := ⟨w.heap.size, 0, none⟩) (by simp)).trans (World.cell?_alloc_mark w _ _ (0, 0) 0)
    have hc1 : w1.cell? ⟨w.heap.size, 1, none⟩ = some (.int .i64 0) := (hb1.cell (p := ⟨w.heap.size, 1, none⟩) (by simp)).trans (World.cell?_alloc_mark w _ _ (0, 0) 1)
    have hf0 : w1.frozen? ⟨w.heap.size, 0, none⟩ = false := (hb1.frozen (p := ⟨w.heap.size, 0, none⟩) (by simp)).trans (World.frozen?_alloc_mark w _ _ 0 0 0)
    have hf1 : w1.frozen? ⟨w.heap.size, 1, none⟩ = false := (hb1.frozen (p := ⟨w.heap.size, 1, none⟩) (by simp)).trans (World.frozen?_alloc_mark w _ _ 0 0 1)
    obtain ⟨a1, a2⟩ := RowP.of_own ho _ _ (placesTo_last (bl s) (bl s).length)
    obtain ⟨L, hL⟩ : ∃ L, L = (bl s).length := ⟨_, rfl⟩
    rw [← hL] at a1 a2 ⊢
    have hL63 : L ≤ 63 := by rw [hL, bl_length]; exact hsl
    have HL := Lib.hid hL
    clear hb1 ho hL
    go_wp2_with fail
    exact bodyPost_ret (v := .tuple #[.agg #[.int .i64 (stAt (bl s) L).1.1, .int .i64 (stAt (bl s) L).1.2], .bool true]) (by simp [results, Try.results7, go_sem, hc0, hc1]) rfl ⟨by rw [HL.out], (by repeat (first | exact Below.refl _ _ | assumption | (refine Below.setCell ?_ (by first | omega | (simp; done) | (simp; omega)) _) | (refine Below.alloc ?_ (by first | omega | (simp; done) | (simp; omega)) _) | (refine below_drewN ?_ _) | (refine Below.drew ?_)))⟩
set_option maxHeartbeats 1000000 in
theorem specPathEnd (s : ByteArray) (w : World) (hs : s.size ≤ 1048576) :
    Calls Try.prog 8 #[.string s] w fun e w' => e = .returned (.tuple #[.agg #[.int .i64 (endP (bl s)).1, .int .i64 (endP (bl s)).2], .bool (creas (bl s))]) ∧ Below w.heap.size w w' := by
  cases hok : creas (bl s) with
  | false =>
    rw [endP_no hok]
    have HOK := Lib.hid hok
    clear hok
    go_enter Try.func8, Try.ntmps8
    go_wp2_with fail
    refine (specPathPlaces_no s _ hs HOK.out).mono ?_
    intro e w1 h1
    obtain ⟨A1, rfl, hb1⟩ := h1.form
    have hz1 : w.heap.size + 1 ≤ w1.heap.size := by simpa using hb1.size
    have hb0 : Below w.heap.size w w1 := ((Below.refl _ w).alloc (Nat.le_refl _) _).trans (hb1.mono (by simp))
    have hc0 : w1.cell? ⟨w.heap.size, 0, none⟩ = some (.int .i64 0) := (hb1.cell (p := ⟨w.heap.size, 0, none⟩) (by simp)).trans (World.cell?_alloc_mark w _ _ (0, 0) 0)
    have hc1 : w1.cell? ⟨w.heap.size, 1, none⟩ = some (.int .i64 0) := (hb1.cell (p := ⟨w.heap.size, 1, none⟩) (by simp)).trans (World.cell?_alloc_mark w _ _ (0, 0) 1)
    have hf0 : w1.frozen? ⟨w.heap.size, 0, none⟩ = false := (hb1.frozen (p := ⟨w.heap.size, 0, none⟩) (by simp)).trans (World.frozen?_alloc_mark w _ _ 0 0 0)
    have hf1 : w1.frozen? ⟨w.heap.size, 1, none⟩ = false := (hb1.frozen (p := ⟨w.heap.size, 1, none⟩) (by simp)).trans (World.frozen?_alloc_mark w _ _ 0 0 1)
    clear hb1 h1
    go_wp2_with fail
    exact bodyPost_ret (v := .tuple #[.agg #[.int .i64 0, .int .i64 0], .bool false]) (by simp [results, Try.results8, go_sem, hc0, hc1]) rfl ⟨rfl, (by repeat (first | exact Below.refl _ _ | assumption | (refine Below.setCell ?_ (by first | omega | (simp; done) | (simp; omega)) _) | (refine Below.alloc ?_ (by first | omega | (simp; done) | (simp; omega)) _) | (refine below_drewN ?_ _) | (refine Below.drew ?_)))⟩
  | true =>
    rw [endP_yes hok]
    have HOK := Lib.hid hok
    have hsl := creas_len hok
    clear hok
    go_enter Try.func8, Try.ntmps8
    go_wp2_with fail
    refine (specPathPlaces s _ HOK.out).mono ?_
    rintro e w1 ⟨g, cap, rfl, hg, ho, hb1⟩
    have hz1 : w.heap.size + 1 ≤ w1.heap.size := by simpa using hb1.size
    have hg' : w.heap.size + 1 ≤ g := by simpa using hg
    have hb0 : Below w.heap.size w w1 := ((Below.refl _ w).alloc (Nat.le_refl _) _).trans (hb1.mono (by simp))
    have hc0 : w1.cell? ⟨w.heap.size, 0, none⟩ = some (.int .i64 0) := (hb1.cell (p := ⟨w.heap.size, 0, none⟩) (by simp)).trans (World.cell?_alloc_mark w _ _ (0, 0) 0)
    have hc1 : w1.cell? ⟨w.heap.size, 1, none⟩ = some (.int .i64 0) := (hb1.cell (p := ⟨w.heap.size, 1, none⟩) (by simp)).trans (World.cell?_alloc_mark w _ _ (0, 0) 1)
    have hf0 : w1.frozen? ⟨w.heap.size, 0, none⟩ = false := (hb1.frozen (p := ⟨w.heap.size, 0, none⟩) (by simp)).trans (World.frozen?_alloc_mark w _ _ 0 0 0)
    have hf1 : w1.frozen? ⟨w.heap.size, 1, none⟩ = false := (hb1.frozen (p := ⟨w.heap.size, 1, none⟩) (by simp)).trans (World.frozen?_alloc_mark w _ _ 0 0 1)
    obtain ⟨a1, a2⟩ := RowP.of_own ho _ _ (placesTo_last (bl s) (bl s).length)
    obtain ⟨L, hL⟩ : ∃ L, L = (bl s).length := ⟨_, rfl⟩
    rw [← hL] at a1 a2 ⊢
    have hL63 : L ≤ 63 := by rw [hL, bl_length]; exact hsl
    have HL := Lib.hid hL
    clear hb1 ho hL
    go_wp2_with fail
    exact bodyPost_ret (v := .tuple #[.agg #[.int .i64 (stAt (bl s) L).1.1, .int .i64 (stAt (bl s) L).1.2], .bool true]) (by simp [results, Try.results8, go_sem, hc0, hc1]) rfl ⟨by rw [HL.out], (by repeat (first | exact Below.refl _ _ | assumption | (refine Below.setCell ?_ (by first | omega | (simp; done) | (simp; omega)) _) | (refine Below.alloc ?_ (by first | omega | (simp; done) | (simp; omega)) _) | (refine below_drewN ?_ _) | (refine Below.drew ?_)))⟩
end Go.Proofs.Ytalbokejljjflaa
