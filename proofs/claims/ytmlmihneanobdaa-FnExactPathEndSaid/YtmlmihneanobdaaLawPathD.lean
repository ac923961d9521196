/- The law FnExactPathEnd, walked: it returns true. Conditions: the text is a string of the model. -/
import Derived.Test.YtmlmihneanobdaaPathD
namespace Go.Proofs.Ytmlmihneanobdaa
open Go.RowKit
set_option maxHeartbeats 1000000 in
theorem fnExactPathEnd_walk (a0 : ByteArray) (w0 : a0.size ≤ maxLen) (w : World) :
    Calls Try.prog 4 #[.string a0] w fun e w' => e = .returned (.bool true) ∧ Below w.heap.size w w' := by
  have HW := Lib.hid w0
  clear w0
  by_cases hl : 1048576 < a0.size
  · go_enter Try.func4, Try.ntmps4
    go_wp2
    go_ret
    exact ⟨rfl, Below.refl _ _⟩
  · have hl' : a0.size ≤ 1048576 := by omega
    obtain ⟨b, hb⟩ : ∃ b, b = creas (bl a0) := ⟨_, rfl⟩
    obtain ⟨P, hP⟩ : ∃ P, P = endP (bl a0) := ⟨_, rfl⟩
    have C1 := fun w => specPathEnd a0 w hl'
    have C2 := fun w => implPathEnd a0 w hl'
    rw [← hb, ← hP] at C1 C2
    clear hb hP
    have tb : (b != b) = false := by simp
    go_enter Try.func4, Try.ntmps4
    go_wp2_with fail
    refine (C1 _).mono ?_
    rintro e w1 ⟨rfl, hb1⟩
    have hz1 := hb1.size
    go_wp2_with fail
    refine (C2 _).mono ?_
    rintro e w2 ⟨rfl, hb2⟩
    have hz2 : w1.heap.size + 1 ≤ w2.heap.size := by simpa using hb2.size
    have hc0 : w2.cell? ⟨w1.heap.size, 0, none⟩ = some (.int .i64 P.1) := (hb2.cell (p := ⟨w1.heap.size, 0, none⟩) (by simp)).trans (World.cell?_alloc_mark w1 _ _ (0, 0) 0)
    have hc1 : w2.cell? ⟨w1.heap.size, 1, none⟩ = some (.int .i64 P.2) := (hb2.cell (p := ⟨w1.heap.size, 1, none⟩) (by simp)).trans (World.cell?_alloc_mark w1 _ _ (0, 0) 1)
    have hb12 : Below w1.heap.size w1 w2 := ((Below.refl _ w1).alloc (Nat.le_refl _) _).trans (hb2.mono (by simp))
    have hd0 : ∀ o, (w2.alloc o).cell? ⟨w1.heap.size, 0, none⟩ = some (.int .i64 P.1) := fun o => (((Below.refl _ w2).alloc (Nat.le_refl _) o).cell (p := ⟨w1.heap.size, 0, none⟩) (by show w1.heap.size < _; omega)).trans hc0
    have hd1 : ∀ o, (w2.alloc o).cell? ⟨w1.heap.size, 1, none⟩ = some (.int .i64 P.2) := fun o => (((Below.refl _ w2).alloc (Nat.le_refl _) o).cell (p := ⟨w1.heap.size, 1, none⟩) (by show w1.heap.size < _; omega)).trans hc1
    clear hb2 hc0 hc1
    go_wp2_with fail
    refine (eqPlace P.1 P.2 _).mono ?_
    rintro e w3 ⟨rfl, hb3⟩
    go_wp2_with fail
    go_ret
    exact ⟨rfl, hb1.trans ((hb12.trans (((Below.refl _ w2).alloc (Nat.le_refl _) _).trans (hb3.mono (by simp)) |>.mono (by omega))).mono hz1)⟩
end Go.Proofs.Ytmlmihneanobdaa
