/- The walks of the laws' own helpers on lists of places: equal, marked, held. Conditions: each theorem's own premises. -/
import Derived.Test.YtalbokejljjflaaPathB
namespace Go.Proofs.Ytalbokejljjflaa
open Go.RowKit
/-- Block g reads as these places. -/
def RowP (w : World) (g : Nat) (ps : List (Int × Int)) : Prop := ∀ i p, ps[i]? = some p → w.cell? ⟨g, i * 2, none⟩ = some (.int .i64 p.1) ∧ w.cell? ⟨g, i * 2 + 1, none⟩ = some (.int .i64 p.2)
theorem RowP.of_own {w : World} {base g n cap : Nat} {e : TypeId} {ps : List (Int × Int)} (h : w.ownsRow base e 2 (.slice (some ⟨g, 0, none⟩) n cap) n (cellsP ps)) : RowP w g ps := fun i p hp =>
  ⟨own_at h (cellsP_get ps i p hp).1, own_at h (cellsP_get ps i p hp).2⟩
theorem RowP.keep {w w' : World} {g : Nat} {ps : List (Int × Int)} (h : RowP w g ps) (hb : w'.heap[g]? = w.heap[g]?) : RowP w' g ps := fun i p hp =>
  ⟨(World.cell?_of_block (a := ⟨g, i * 2, none⟩) hb).trans (h i p hp).1, (World.cell?_of_block (a := ⟨g, i * 2 + 1, none⟩) hb).trans (h i p hp).2⟩
/-- The numbers m, m + 1 and so on, two a place. -/
def marks (m : Int) (n : Nat) : List (Int × Int) := (List.range n).map fun (i : Nat) => (m + 2 * (i : Int), m + 2 * (i : Int) + 1)
theorem marks_length (m : Int) (n : Nat) : (marks m n).length = n := by simp [marks]
theorem marks_get (m : Int) (n i : Nat) (p : Int × Int) : (marks m n)[i]? = some p ↔ i < n ∧ p = (m + 2 * (i : Int), m + 2 * (i : Int) + 1) := by
  unfold marks
  rw [List.getElem?_map]
  by_cases h : i < n
  · rw [List.getElem?_range h]
    simp only [Option.map_some, Option.some.injEq]
    exact ⟨fun e => ⟨h, e.symm⟩, fun e => e.2.symm⟩
  · rw [List.getElem?_eq_none (by simp; omega)]
    simp [h]
/-- Block g has 2 n cells that may be written. -/
def Open (w : World) (g n : Nat) : Prop := ∀ j, j < n * 2 → (∃ u, w.cell? ⟨g, j, none⟩ = some u) ∧ w.frozen? ⟨g, j, none⟩ = false
theorem Open.of_own {w : World} {base g n cap : Nat} {e : TypeId} {xs : List Value} (h : w.ownsRow base e 2 (.slice (some ⟨g, 0, none⟩) n cap) n xs) : Open w g n := fun j hj => by
  have hl : j < xs.length := by rw [h.1]; exact hj
  exact ⟨⟨xs[j], own_at h (List.getElem?_eq_getElem hl)⟩, h.frozenAt j⟩
theorem Open.keep {w w' : World} {g n : Nat} (h : Open w g n) (hb : w'.heap[g]? = w.heap[g]?) : Open w' g n := fun j hj => by
  obtain ⟨⟨u, hu⟩, hf⟩ := h j hj
  exact ⟨⟨u, (World.cell?_of_block (a := ⟨g, j, none⟩) hb).trans hu⟩, (World.frozen?_of_block (a := ⟨g, j, none⟩) hb).trans hf⟩
theorem Open.set {w : World} {g n : Nat} (h : Open w g n) (i : Nat) (v : Value) : Open (w.setCell ⟨g, i, none⟩ v) g n := fun j hj => by
  obtain ⟨⟨u, hu⟩, hf⟩ := h j hj
  refine ⟨?_, by rw [World.frozen?_setCell]; exact hf⟩
  by_cases e : i = j
  · subst e
    exact ⟨v, World.cell?_setCell_same _ _ _ hu⟩
  · exact ⟨u, (World.cell?_setCell_other w ⟨g, i, none⟩ ⟨g, j, none⟩ _ (by intro h; injection h; exact e (by assumption))).trans hu⟩
theorem marks_step {w : World} {g k n : Nat} {m : Int} (hk : k < n) (hr : RowP w g (marks m k)) (ho : Open w g n) (x y : Int) (hx : x = m + 2 * (k : Int)) (hy : y = m + 2 * (k : Int) + 1) :
    RowP ((w.setCell ⟨g, k * 2, none⟩ (.int .i64 x)).setCell ⟨g, k * 2 + 1, none⟩ (.int .i64 y)) g (marks m (k + 1)) := by
  intro i p hp
  obtain ⟨hi, rfl⟩ := (marks_get _ _ _ _).1 hp
  obtain ⟨⟨u1, hu1⟩, _⟩ := ho (k * 2) (by omega)
  obtain ⟨⟨u2, hu2⟩, _⟩ := (ho.set (k * 2) (.int .i64 x)) (k * 2 + 1) (by omega)
  have other : ∀ (W : World) (a b : Nat) (v : Value), a ≠ b → (W.setCell ⟨g, a, none⟩ v).cell? ⟨g, b, none⟩ = W.cell? ⟨g, b, none⟩ := fun W a b v hab =>
    World.cell?_setCell_other W ⟨g, a, none⟩ ⟨g, b, none⟩ v (by intro h; injection h; exact hab (by assumption))
  by_cases e : i = k
  · subst e
    refine ⟨?_, ?_⟩
    · rw [other _ _ _ _ (by omega), World.cell?_setCell_same _ _ _ hu1, hx]
    · rw [World.cell?_setCell_same _ _ _ hu2, hy]
  · have := hr i (m + 2 * (i : Int), m + 2 * (i : Int) + 1) ((marks_get _ _ _ _).2 ⟨by omega, rfl⟩)
    refine ⟨?_, ?_⟩
    · rw [other _ _ _ _ (by omega), other _ _ _ _ (by omega)]
      exact this.1
    · rw [other _ _ _ _ (by omega), other _ _ _ _ (by omega)]
      exact this.2
end Go.Proofs.Ytalbokejljjflaa
