/- The walks of stackAt and of the folds of the program's sheet. Conditions: each theorem's own premises. -/
import Derived.Test.YtdgkjlehofkooaaStackG
namespace Go.Proofs.Ytdgkjlehofkooaa
set_option maxRecDepth 100000
open Go.RowKit
set_option maxRecDepth 100000 in
set_option maxHeartbeats 4000000 in
theorem stackAt (S g n cap C row col idx ga na ca : Nat) (w : World) (h1 : w.cell? ⟨S, 1, none⟩ = some (.int .i64 C)) (h2 : w.cell? ⟨S, 2, none⟩ = some (.slice (some ⟨g, 0, none⟩) n cap)) (hi : idx = row * C + col) (hn : idx < n) (hu : w.cell? ⟨g, idx, none⟩ = some (.slice (some ⟨ga, 0, none⟩) na ca)) (hb : idx ≤ 2000) :
    Calls Try.prog 37 #[.pointer (some ⟨S, 0, none⟩), .int .i64 row, .int .i64 col] w fun e w' => e = .returned (.agg #[.slice (some ⟨ga, 0, none⟩) na ca]) ∧ Below w.heap.size w w' := by
  have lS := World.block_lt_of_cell? w _ h1
  have lg := World.block_lt_of_cell? w _ hu
  have hm : row * C ≤ idx := by omega
  have hm2 : ((row * C : Nat) : Int) = (row : Int) * (C : Int) := Int.natCast_mul row C
  obtain ⟨m, hm3⟩ : ∃ m, m = row * C := ⟨_, rfl⟩
  rw [← hm3] at hm hm2 hi
  have q1 : IntKind.i64.wrap ((row : Int) * (C : Int)) = (m : Int) := by rw [← hm2, IntKind.wrap_i64]; omega
  have q0 : (row : Int) * (C : Int) = (m : Int) := hm2.symm
  have q3 : IntKind.i64.wrap (m : Int) = (m : Int) := by rw [IntKind.wrap_i64]; omega
  have q2 : IntKind.i64.wrap ((m : Int) + (col : Int)) = (idx : Int) := by rw [IntKind.wrap_i64]; omega
  have n1 : (0 : Int) ≤ (idx : Int) := by omega
  have n2 : (idx : Int) < (n : Int) := by omega
  have e1 := World.cell?_alloc_mark w #[.slice none 0 0] 63 (0, 0) 0
  have HSA : Hid (∀ o, (w.alloc o).cell? ⟨S, 1, none⟩ = some (.int .i64 C) ∧ (w.alloc o).cell? ⟨S, 2, none⟩ = some (.slice (some ⟨g, 0, none⟩) n cap) ∧ (w.alloc o).cell? ⟨g, idx, none⟩ = some (.slice (some ⟨ga, 0, none⟩) na ca)) := fun o =>
    ⟨(((Below.refl _ w).alloc (Nat.le_refl _) o).cell (p := ⟨S, 1, none⟩) lS).trans h1, (((Below.refl _ w).alloc (Nat.le_refl _) o).cell (p := ⟨S, 2, none⟩) lS).trans h2, (((Below.refl _ w).alloc (Nat.le_refl _) o).cell (p := ⟨g, idx, none⟩) lg).trans hu⟩
  clear hi hm hm2 hm3 e1
  go_enter Try.func37, Try.ntmps37
  go_wp2_with fail
  go_region_held3 (fun w' => w'.cell? ⟨S, 1, none⟩ = some (.int .i64 C) ∧ w'.cell? ⟨S, 2, none⟩ = some (.slice (some ⟨g, 0, none⟩) n cap) ∧ w'.cell? ⟨g, idx, none⟩ = some (.slice (some ⟨ga, 0, none⟩) na ca))
    (first | exact HSA.out _ | skip)
    (fail)
  clear q0 q1 q2 q3
  go_wp2_with fail
  exact bodyPost_ret (v := .agg #[.slice (some ⟨ga, 0, none⟩) na ca]) (by simp [results, Try.results37, go_sem]) rfl ⟨rfl, (by repeat (first | exact Below.refl _ _ | assumption | (refine Below.setCell ?_ (by first | omega | (simp; done) | (simp; omega)) _) | (refine Below.alloc ?_ (by first | omega | (simp; done) | (simp; omega)) _) | (refine below_drewN ?_ _) | (refine Below.drew ?_)))⟩
end Go.Proofs.Ytdgkjlehofkooaa
