/- The walks of the laws' own helpers on lists of places: equal, marked, held. Conditions: each theorem's own premises. -/
import Derived.Test.YtmlmihneanobdaaPathB
namespace Go.Proofs.Ytmlmihneanobdaa
open Go.RowKit
/-- Block g reads as these places. -/
def RowP (w : World) (g : Nat) (ps : List (Int × Int)) : Prop := ∀ i p, ps[i]? = some p → w.cell? ⟨g, i * 2, none⟩ = some (.int .i64 p.1) ∧ w.cell? ⟨g, i * 2 + 1, none⟩ = some (.int .i64 p.2)
theorem RowP.of_own {w : World} {base g n cap : Nat} {e : TypeId} {ps : List (Int × Int)} (h : w.ownsRow base e 2 (.slice (some ⟨g, 0, none⟩) n cap) n (cellsP ps)) : RowP w g ps := fun i p hp =>
  ⟨own_at h (cellsP_get ps i p hp).1, own_at h (cellsP_get ps i p hp).2⟩
theorem RowP.keep {w w' : World} {g : Nat} {ps : List (Int × Int)} (h : RowP w g ps) (hb : w'.heap[g]? = w.heap[g]?) : RowP w' g ps := fun i p hp =>
  ⟨(World.cell?_of_block (a := ⟨g, i * 2, none⟩) hb).trans (h i p hp).1, (World.cell?_of_block (a := ⟨g, i * 2 + 1, none⟩) hb).trans (h i p hp).2⟩
theorem eqPlace (x y : Int) (w : World) : Calls Try.prog 16 #[.agg #[.int .i64 x, .int .i64 y], .agg #[.int .i64 x, .int .i64 y]] w fun e w' => e = .returned (.bool true) ∧ Below w.heap.size w w' := by
  have t1 : (x != x) = false := by simp
  have t2 : (y != y) = false := by simp
  go_enter Try.func16, Try.ntmps16
  go_wp2
  first | go_quiet (fail) | skip
  go_wp2
  first | go_quiet (fail) | skip
  go_wp2
  go_ret
  exact ⟨rfl, (by repeat (first | exact Below.refl _ _ | assumption | (refine Below.setCell ?_ (by first | omega | (simp; done) | (simp; omega)) _) | (refine Below.alloc ?_ (by first | omega | (simp; done) | (simp; omega)) _) | (refine below_drewN ?_ _) | (refine Below.drew ?_)))⟩
theorem eqPlaceS_nil (A B : Option Addr) (c d : Nat) (w : World) : Calls Try.prog 11 #[.slice A 0 c, .slice B 0 d] w fun e w' => e = .returned (.bool true) ∧ w = w' := by
  go_enter Try.func11, Try.ntmps11
  go_wp2
  refine wp_loop_rounds 1 ?_
  rw [rounds_succ]
  go_wp2
  go_ret
  exact ⟨rfl, rfl⟩
set_option maxHeartbeats 1000000 in
theorem eqPlaceS (g1 g2 n c d : Nat) (ps : List (Int × Int)) (w : World) (hn : ps.length = n) (hn2 : n ≤ 1000) (h1 : RowP w g1 ps) (h2 : RowP w g2 ps) (l1 : g1 < w.heap.size) (l2 : g2 < w.heap.size) :
    Calls Try.prog 11 #[.slice (some ⟨g1, 0, none⟩) n c, .slice (some ⟨g2, 0, none⟩) n d] w fun e w' => e = .returned (.bool true) ∧ Below w.heap.size w w' := by
  have HN := Lib.hid hn
  have H1 := Lib.hid h1
  have H2 := Lib.hid h2
  clear hn h1 h2
  have t0 : ((n : Int) != (n : Int)) = false := by simp
  go_enter Try.func11, Try.ntmps11
  go_wp2
  go_loopw [5] (fun i wr => ∃ k : Nat, k ≤ n ∧ i = .int .i64 k ∧ Below w.heap.size w wr) (fun i _ => n - (intOf i).toNat)
  case atStart => exact ⟨0, Nat.zero_le _, rfl, Below.refl _ _⟩
  case round =>
    obtain ⟨k, hk, rfl, hbel⟩ := hrel
    have hzr := hbel.size
    by_cases hlt : k < n
    · have hp : ps[k]? = some (ps[k]'(by rw [HN.out]; exact hlt)) := List.getElem?_eq_getElem _
      obtain ⟨p, hp'⟩ : ∃ p, ps[k]? = some p := ⟨_, hp⟩
      obtain ⟨a1, a2⟩ := H1.out k p hp'
      obtain ⟨a3, a4⟩ := H2.out k p hp'
      have b1 := (hbel.cell (p := ⟨g1, k * 2, none⟩) l1).trans a1
      have b2 := (hbel.cell (p := ⟨g1, k * 2 + 1, none⟩) l1).trans a2
      have b3 := (hbel.cell (p := ⟨g2, k * 2, none⟩) l2).trans a3
      have b4 := (hbel.cell (p := ⟨g2, k * 2 + 1, none⟩) l2).trans a4
      clear a1 a2 a3 a4 hp hp'
      have k0 : (0 : Int) ≤ (k : Int) := by omega
      have k1 : (k : Int) < (n : Int) := by omega
      have m1 : g1 < wr.heap.size := by omega
      have m2 : g2 < wr.heap.size := by omega
      go_wp2
      go_region_held3 (fun w' => w'.cell? ⟨g1, k * 2, none⟩ = some (.int .i64 p.1) ∧ w'.cell? ⟨g1, k * 2 + 1, none⟩ = some (.int .i64 p.2) ∧ w'.cell? ⟨g2, k * 2, none⟩ = some (.int .i64 p.1) ∧ w'.cell? ⟨g2, k * 2 + 1, none⟩ = some (.int .i64 p.2))
        (first | exact ⟨b1, b2, b3, b4⟩ | exact ⟨(hb2.cell (p := ⟨g1, k * 2, none⟩) m1).trans b1, (hb2.cell (p := ⟨g1, k * 2 + 1, none⟩) m1).trans b2, (hb2.cell (p := ⟨g2, k * 2, none⟩) m2).trans b3, (hb2.cell (p := ⟨g2, k * 2 + 1, none⟩) m2).trans b4⟩)
        ((go_at_call 16; refine (eqPlace _ _ _).mono ?_; rintro e w2 ⟨rfl, hb2⟩))
      go_wp2
      go_roundw
      case rel => exact ⟨k + 1, by omega, by go_num, hbel.trans ((Below.refl _ wr).drew.trans (hb2.mono hzr))⟩
      case measure => simp [intOf]; omega
    · go_wp2
      go_ret
      exact ⟨rfl, hbel⟩
/-- The numbers m, m + 1 and so on, two a place. -/
def marks (m : Int) (n : Nat) : List (Int × Int) := (List.range n).map fun (i : Nat) => (m + 2 * (i : Int), m + 2 * (i : Int) + 1)
theorem marks_length (m : Int) (n : Nat) : (marks m n).length = n := by simp [marks]
theorem marks_get (m : Int) (n i : Nat) (p : Int × Int) : (marks m n)[i]? = some p ↔ i < n ∧ p = (m + 2 * (i : Int), m + 2 * (i : Int) + 1) := by
  unfold marks
  rw [List.getElem?_map]
  by_cases h : i < n
  · rw [List.getElem?_range h]
    simp only [Option.map_some, Option.some.injEq]
    exact ⟨fun e => ⟨h, e.symm⟩, fun e => e.2.symm⟩
  · rw [List.getElem?_eq_none (by simp; omega)]
    simp [h]
/-- Block g has 2 n cells that may be written. -/
def Open (w : World) (g n : Nat) : Prop := ∀ j, j < n * 2 → (∃ u, w.cell? ⟨g, j, none⟩ = some u) ∧ w.frozen? ⟨g, j, none⟩ = false
theorem Open.of_own {w : World} {base g n cap : Nat} {e : TypeId} {xs : List Value} (h : w.ownsRow base e 2 (.slice (some ⟨g, 0, none⟩) n cap) n xs) : Open w g n := fun j hj => by
  have hl : j < xs.length := by rw [h.1]; exact hj
  exact ⟨⟨xs[j], own_at h (List.getElem?_eq_getElem hl)⟩, h.frozenAt j⟩
theorem Open.keep {w w' : World} {g n : Nat} (h : Open w g n) (hb : w'.heap[g]? = w.heap[g]?) : Open w' g n := fun j hj => by
  obtain ⟨⟨u, hu⟩, hf⟩ := h j hj
  exact ⟨⟨u, (World.cell?_of_block (a := ⟨g, j, none⟩) hb).trans hu⟩, (World.frozen?_of_block (a := ⟨g, j, none⟩) hb).trans hf⟩
theorem Open.set {w : World} {g n : Nat} (h : Open w g n) (i : Nat) (v : Value) : Open (w.setCell ⟨g, i, none⟩ v) g n := fun j hj => by
  obtain ⟨⟨u, hu⟩, hf⟩ := h j hj
  refine ⟨?_, by rw [World.frozen?_setCell]; exact hf⟩
  by_cases e : i = j
  · subst e
    exact ⟨v, World.cell?_setCell_same _ _ _ hu⟩
  · exact ⟨u, (World.cell?_setCell_other w ⟨g, i, none⟩ ⟨g, j, none⟩ _ (by intro h; injection h; exact e (by assumption))).trans hu⟩
theorem marks_step {w : World} {g k n : Nat} {m : Int} (hk : k < n) (hr : RowP w g (marks m k)) (ho : Open w g n) (x y : Int) (hx : x = m + 2 * (k : Int)) (hy : y = m + 2 * (k : Int) + 1) :
    RowP ((w.setCell ⟨g, k * 2, none⟩ (.int .i64 x)).setCell ⟨g, k * 2 + 1, none⟩ (.int .i64 y)) g (marks m (k + 1)) := by
  intro i p hp
  obtain ⟨hi, rfl⟩ := (marks_get _ _ _ _).1 hp
  obtain ⟨⟨u1, hu1⟩, _⟩ := ho (k * 2) (by omega)
  obtain ⟨⟨u2, hu2⟩, _⟩ := (ho.set (k * 2) (.int .i64 x)) (k * 2 + 1) (by omega)
  have other : ∀ (W : World) (a b : Nat) (v : Value), a ≠ b → (W.setCell ⟨g, a, none⟩ v).cell? ⟨g, b, none⟩ = W.cell? ⟨g, b, none⟩ := fun W a b v hab =>
    World.cell?_setCell_other W ⟨g, a, none⟩ ⟨g, b, none⟩ v (by intro h; injection h; exact hab (by assumption))
  by_cases e : i = k
  · subst e
    refine ⟨?_, ?_⟩
    · rw [other _ _ _ _ (by omega), World.cell?_setCell_same _ _ _ hu1, hx]
    · rw [World.cell?_setCell_same _ _ _ hu2, hy]
  · have := hr i (m + 2 * (i : Int), m + 2 * (i : Int) + 1) ((marks_get _ _ _ _).2 ⟨by omega, rfl⟩)
    refine ⟨?_, ?_⟩
    · rw [other _ _ _ _ (by omega), other _ _ _ _ (by omega)]
      exact this.1
    · rw [other _ _ _ _ (by omega), other _ _ _ _ (by omega)]
      exact this.2
theorem markPlaceS_nil (A : Option Addr) (c : Nat) (m : Int) (w : World) : Calls Try.prog 12 #[.slice A 0 c, .int .i64 m] w fun e w' => e = .returned (.int .i64 m) ∧ w = w' := by
  go_enter Try.func12, Try.ntmps12
  go_wp2
  refine wp_loop_rounds 1 ?_
  rw [rounds_succ]
  go_wp2
  go_ret
  exact ⟨rfl, rfl⟩
set_option maxHeartbeats 1000000 in
theorem markPlaceS (g n c : Nat) (w : World) (hn : n ≤ 1000) (ho : Open w g n) :
    Calls Try.prog 12 #[.slice (some ⟨g, 0, none⟩) n c, .int .i64 1] w fun e w' => e = .returned (.int .i64 (1 + 2 * (n : Int))) ∧ RowP w' g (marks 1 n) ∧ w.grownBy w' (some g) := by
  have HO := Lib.hid ho
  clear ho
  go_enter Try.func12, Try.ntmps12
  go_wp2
  go_loopw [1, 5] (fun q i wr => ∃ k : Nat, k ≤ n ∧ i = .int .i64 k ∧ q = .int .i64 (1 + 2 * (k : Int)) ∧ Hid (RowP wr g (marks 1 k)) ∧ Hid (Open wr g n) ∧ w.grownBy wr (some g)) (fun _ i _ => n - (intOf i).toNat)
  case atStart => exact ⟨0, Nat.zero_le _, rfl, rfl, Lib.hid (fun i p hp => by simp [marks] at hp), HO, World.grownBy.refl _ _⟩
  case round =>
    obtain ⟨k, hk, rfl, rfl, HR, HO2, hg⟩ := hrel
    by_cases hlt : k < n
    · obtain ⟨⟨u1, hu1⟩, hf1⟩ := HO2.out (k * 2) (by omega)
      obtain ⟨⟨u2, hu2⟩, hf2⟩ := HO2.out (k * 2 + 1) (by omega)
      go_wp2
      go_roundw
      case rel =>
        refine ⟨k + 1, by omega, by go_num, by go_num, marks_step hlt HR.out HO2.out _ _ ?_ ?_, (HO2.out.set _ _).set _ _, grown_setCell (grown_setCell hg _ _) _ _⟩
        · omega
        · omega
      case measure => simp [intOf]; omega
    · obtain rfl : k = n := by omega
      go_wp2
      go_ret
      exact ⟨rfl, HR.out, hg⟩
theorem heldPlaceS_nil (A : Option Addr) (c : Nat) (m : Int) (w : World) : Calls Try.prog 13 #[.slice A 0 c, .int .i64 m] w fun e w' => e = .returned (.int .i64 m) ∧ w = w' := by
  go_enter Try.func13, Try.ntmps13
  go_wp2
  refine wp_loop_rounds 1 ?_
  rw [rounds_succ]
  go_wp2
  go_ret
  exact ⟨rfl, rfl⟩
set_option maxHeartbeats 1000000 in
theorem heldPlaceS (g n c : Nat) (w : World) (hn : n ≤ 1000) (hr : RowP w g (marks 1 n)) :
    Calls Try.prog 13 #[.slice (some ⟨g, 0, none⟩) n c, .int .i64 1] w fun e w' => e = .returned (.int .i64 (1 + 2 * (n : Int))) ∧ Below w.heap.size w w' := by
  have HR := Lib.hid hr
  clear hr
  go_enter Try.func13, Try.ntmps13
  go_wp2
  go_loopw [1, 5] (fun q i wr => ∃ k : Nat, k ≤ n ∧ i = .int .i64 k ∧ q = .int .i64 (1 + 2 * (k : Int)) ∧ ∃ d, wr = w.drewN d) (fun _ i _ => n - (intOf i).toNat)
  case atStart => exact ⟨0, Nat.zero_le _, rfl, rfl, 0, rfl⟩
  case round =>
    obtain ⟨k, hk, rfl, rfl, d, rfl⟩ := hrel
    by_cases hlt : k < n
    · obtain ⟨a1, a2⟩ := HR.out k _ ((marks_get _ _ _ _).2 ⟨hlt, rfl⟩)
      have t1 : ((1 + 2 * (k : Int)) != (1 + 2 * (k : Int))) = false := by simp
      have t2 : ((1 + 2 * (k : Int) + 1) != (1 + 2 * (k : Int) + 1)) = false := by simp
      go_wp2
      first | go_quiet (fail) | skip
      go_wp2
      first | go_quiet (fail) | skip
      go_wp2
      go_roundw
      case rel => exact ⟨k + 1, by omega, by go_num, by go_num, _, rfl⟩
      case measure => simp [intOf]; omega
    · obtain rfl : k = n := by omega
      go_wp2
      go_ret
      exact ⟨rfl, below_drewN (Below.refl _ _) _⟩
end Go.Proofs.Ytmlmihneanobdaa
