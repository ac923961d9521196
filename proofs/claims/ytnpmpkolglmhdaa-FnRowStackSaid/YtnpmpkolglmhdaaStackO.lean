/- The walks of the laws' own helpers on lists of cells, and of SheetCorner, of the program and of the reference. Conditions: each theorem's own premises. -/
import Derived.Test.YtnpmpkolglmhdaaStackN
namespace Go.Proofs.Ytnpmpkolglmhdaa
open Go.RowKit
/-- The cells that a marked list has. -/
def marksC (m : Int) (n : Nat) : List Cel := (List.range n).map fun (i : Nat) => ⟨m + 4 * (i : Int), m + 4 * (i : Int) + 1, (m + 4 * (i : Int) + 2) % 3 == 0, (m + 4 * (i : Int) + 3) % 3 == 0⟩
theorem marksC_length (m : Int) (n : Nat) : (marksC m n).length = n := by simp [marksC]
theorem marksC_succ (m : Int) (n : Nat) : marksC m (n + 1) = marksC m n ++ [⟨m + 4 * (n : Int), m + 4 * (n : Int) + 1, (m + 4 * (n : Int) + 2) % 3 == 0, (m + 4 * (n : Int) + 3) % 3 == 0⟩] := by
  unfold marksC
  rw [List.range_succ, List.map_append]
  rfl
theorem marksC_get (m : Int) {n k : Nat} (h : k < n) : (marksC m n)[k]? = some ⟨m + 4 * (k : Int), m + 4 * (k : Int) + 1, (m + 4 * (k : Int) + 2) % 3 == 0, (m + 4 * (k : Int) + 3) % 3 == 0⟩ := by
  unfold marksC
  rw [List.getElem?_map, List.getElem?_range h]
  rfl
/-- Block g has 4 n cells that may be written. -/
def OpenC (w : World) (g n : Nat) : Prop := ∀ j, j < n * 4 → (∃ u, w.cell? ⟨g, j, none⟩ = some u) ∧ w.frozen? ⟨g, j, none⟩ = false
theorem OpenC.of_own {w : World} {base g n cap : Nat} {e : TypeId} {xs : List Value} (h : w.ownsRow base e 4 (.slice (some ⟨g, 0, none⟩) n cap) n xs) : OpenC w g n := fun j hj => by
  have hl : j < xs.length := by rw [h.1]; exact hj
  exact ⟨⟨xs[j], own_at h (List.getElem?_eq_getElem hl)⟩, h.frozenAt j⟩
theorem OpenC.keep {w w' : World} {g n : Nat} (h : OpenC w g n) (hb : w'.heap[g]? = w.heap[g]?) : OpenC w' g n := fun j hj => by
  obtain ⟨⟨u, hu⟩, hf⟩ := h j hj
  exact ⟨⟨u, (World.cell?_of_block (a := ⟨g, j, none⟩) hb).trans hu⟩, (World.frozen?_of_block (a := ⟨g, j, none⟩) hb).trans hf⟩
theorem OpenC.set {w : World} {g n : Nat} (h : OpenC w g n) (i : Nat) (v : Value) : OpenC (w.setCell ⟨g, i, none⟩ v) g n := fun j hj => by
  obtain ⟨⟨u, hu⟩, hf⟩ := h j hj
  refine ⟨?_, by rw [World.frozen?_setCell]; exact hf⟩
  by_cases e : i = j
  · subst e
    exact ⟨v, World.cell?_setCell_same _ _ _ hu⟩
  · exact ⟨u, (World.cell?_setCell_other w ⟨g, i, none⟩ ⟨g, j, none⟩ _ (by intro h; injection h; exact e (by assumption))).trans hu⟩
theorem mod_b {a b : Int} (h : a % 3 = b % 3) : (a % 3 == 0) = (b % 3 == 0) := by rw [h]
/-- One more cell has been written behind those that block g reads as. -/
theorem row_step {w : World} {g n : Nat} {a : List Cel} (hr : RowC w g a) (ho : OpenC w g n) (hk : a.length < n) (k : Nat) (hkk : a.length = k) (c : Cel) (x y : Int) (u h : Bool) (hx : x = c.row) (hy : y = c.col) (hu : u = c.up) (hh : h = c.head) :
    RowC ((((w.setCell ⟨g, k * 4, none⟩ (.int .i64 x)).setCell ⟨g, k * 4 + 1, none⟩ (.int .i64 y)).setCell ⟨g, k * 4 + 2, none⟩ (.bool u)).setCell ⟨g, k * 4 + 3, none⟩ (.bool h)) g (a ++ [c]) := by
  subst hx hy hu hh
  have other : ∀ (W : World) (a b : Nat) (v : Value), a ≠ b → (W.setCell ⟨g, a, none⟩ v).cell? ⟨g, b, none⟩ = W.cell? ⟨g, b, none⟩ := fun W a b v hab =>
    World.cell?_setCell_other W ⟨g, a, none⟩ ⟨g, b, none⟩ v (by intro h; injection h; exact hab (by assumption))
  obtain ⟨⟨v1, e1⟩, _⟩ := ho (k * 4) (by omega)
  obtain ⟨⟨v2, e2⟩, _⟩ := (ho.set (k * 4) (.int .i64 c.row)) (k * 4 + 1) (by omega)
  obtain ⟨⟨v3, e3⟩, _⟩ := ((ho.set (k * 4) (.int .i64 c.row)).set (k * 4 + 1) (.int .i64 c.col)) (k * 4 + 2) (by omega)
  obtain ⟨⟨v4, e4⟩, _⟩ := (((ho.set (k * 4) (.int .i64 c.row)).set (k * 4 + 1) (.int .i64 c.col)).set (k * 4 + 2) (.bool c.up)) (k * 4 + 3) (by omega)
  refine ⟨by simpa [World.setCell] using hr.1, fun j v hv => ?_⟩
  rw [cellsC_append] at hv
  have hlen : (cellsC a).length = k * 4 := by rw [cellsC_length, hkk]
  by_cases hj : j < k * 4
  · rw [List.getElem?_append_left (by omega)] at hv
    rw [other _ _ _ _ (by omega), other _ _ _ _ (by omega), other _ _ _ _ (by omega), other _ _ _ _ (by omega)]
    exact hr.2 j v hv
  · rw [List.getElem?_append_right (by omega), hlen] at hv
    obtain ⟨i, rfl⟩ : ∃ i, j = k * 4 + i := ⟨j - k * 4, by omega⟩
    rw [Nat.add_sub_cancel_left] at hv
    have hi : i < 4 := by
      have := (List.getElem?_eq_some_iff.1 hv).1
      simpa [cellsC] using this
    rcases (by omega : i = 0 ∨ i = 1 ∨ i = 2 ∨ i = 3) with rfl | rfl | rfl | rfl
    · have : Value.int .i64 c.row = v := by simpa [cellsC] using hv
      subst this
      rw [other _ _ _ _ (by omega), other _ _ _ _ (by omega), other _ _ _ _ (by omega)]
      exact World.cell?_setCell_same _ _ _ e1
    · have : Value.int .i64 c.col = v := by simpa [cellsC] using hv
      subst this
      rw [other _ _ _ _ (by omega), other _ _ _ _ (by omega)]
      exact World.cell?_setCell_same _ _ _ e2
    · have : Value.bool c.up = v := by simpa [cellsC] using hv
      subst this
      rw [other _ _ _ _ (by omega)]
      exact World.cell?_setCell_same _ _ _ e3
    · have : Value.bool c.head = v := by simpa [cellsC] using hv
      subst this
      exact World.cell?_setCell_same _ _ _ e4
end Go.Proofs.Ytnpmpkolglmhdaa
