/- The walks of the laws' own helpers on lists of cells, and of SheetCorner, of the program and of the reference. Conditions: each theorem's own premises. -/
import Derived.Test.YteabgphbkkapbaaStackN
namespace Go.Proofs.Yteabgphbkkapbaa
open Go.RowKit
theorem eqCellS_nil (A B : Option Addr) (c d : Nat) (w : World) : Calls Try.prog 11 #[.slice A 0 c, .slice B 0 d] w fun e w' => e = .returned (.bool true) ∧ w = w' := by
  go_enter Try.func11, Try.ntmps11
  go_wp2
  refine wp_loop_rounds 1 ?_
  rw [rounds_succ]
  go_wp2
  go_ret
  exact ⟨rfl, rfl⟩
set_option maxHeartbeats 1000000 in
theorem eqCellS (g1 g2 n c d : Nat) (ps : List Cel) (w : World) (hn : ps.length = n) (hn2 : n ≤ 1000) (h1 : RowC w g1 ps) (h2 : RowC w g2 ps) :
    Calls Try.prog 11 #[.slice (some ⟨g1, 0, none⟩) n c, .slice (some ⟨g2, 0, none⟩) n d] w fun e w' => e = .returned (.bool true) ∧ Below w.heap.size w w' := by
  have l1 := h1.1
  have l2 := h2.1
  have HN := Lib.hid hn
  have H1 := Lib.hid h1
  have H2 := Lib.hid h2
  clear hn h1 h2
  have t0 : ((n : Int) != (n : Int)) = false := by simp
  go_enter Try.func11, Try.ntmps11
  go_wp2
  go_loopw [5] (fun i wr => ∃ k : Nat, k ≤ n ∧ i = .int .i64 k ∧ Below w.heap.size w wr) (fun i _ => n - (intOf i).toNat)
  case atStart => exact ⟨0, Nat.zero_le _, rfl, Below.refl _ _⟩
  case round =>
    obtain ⟨k, hk, rfl, hbel⟩ := hrel
    have hzr := hbel.size
    by_cases hlt : k < n
    · obtain ⟨p, hp⟩ : ∃ p, ps[k]? = some p := ⟨_, List.getElem?_eq_getElem (by rw [HN.out]; exact hlt)⟩
      obtain ⟨b1, b2, b3, b4⟩ := (H1.out.below hbel l1).at hp
      obtain ⟨b5, b6, b7, b8⟩ := (H2.out.below hbel l2).at hp
      clear hp
      have k0 : (0 : Int) ≤ (k : Int) := by omega
      have k1 : (k : Int) < (n : Int) := by omega
      have m1 : g1 < wr.heap.size := by omega
      have m2 : g2 < wr.heap.size := by omega
      have HK : Hid (∀ w', Below wr.heap.size wr w' → w'.cell? ⟨g1, k * 4, none⟩ = some (.int .i64 p.row) ∧ w'.cell? ⟨g1, k * 4 + 1, none⟩ = some (.int .i64 p.col) ∧ w'.cell? ⟨g1, k * 4 + 2, none⟩ = some (.bool p.up) ∧ w'.cell? ⟨g1, k * 4 + 3, none⟩ = some (.bool p.head) ∧
          w'.cell? ⟨g2, k * 4, none⟩ = some (.int .i64 p.row) ∧ w'.cell? ⟨g2, k * 4 + 1, none⟩ = some (.int .i64 p.col) ∧ w'.cell? ⟨g2, k * 4 + 2, none⟩ = some (.bool p.up) ∧ w'.cell? ⟨g2, k * 4 + 3, none⟩ = some (.bool p.head)) := fun w' hb =>
        have c := fun j => hb.cell (p := ⟨g1, j, none⟩) m1
        have d := fun j => hb.cell (p := ⟨g2, j, none⟩) m2
        ⟨(c _).trans b1, (c _).trans b2, (c _).trans b3, (c _).trans b4, (d _).trans b5, (d _).trans b6, (d _).trans b7, (d _).trans b8⟩
      go_wp2
      go_region_held3 (fun w' => w'.cell? ⟨g1, k * 4, none⟩ = some (.int .i64 p.row) ∧ w'.cell? ⟨g1, k * 4 + 1, none⟩ = some (.int .i64 p.col) ∧ w'.cell? ⟨g1, k * 4 + 2, none⟩ = some (.bool p.up) ∧ w'.cell? ⟨g1, k * 4 + 3, none⟩ = some (.bool p.head) ∧
          w'.cell? ⟨g2, k * 4, none⟩ = some (.int .i64 p.row) ∧ w'.cell? ⟨g2, k * 4 + 1, none⟩ = some (.int .i64 p.col) ∧ w'.cell? ⟨g2, k * 4 + 2, none⟩ = some (.bool p.up) ∧ w'.cell? ⟨g2, k * 4 + 3, none⟩ = some (.bool p.head))
        (first | exact HK.out _ (Below.refl _ _) | exact HK.out _ ((Below.refl _ _).drew) | exact HK.out _ (((Below.refl _ wr).drew).trans hb2))
        ((go_at_call 18; refine (eqCell _ _ _ _ _).mono ?_; rintro e w2 ⟨rfl, hb2⟩))
      go_wp2
      go_roundw
      case rel => exact ⟨k + 1, by omega, by go_num, hbel.trans ((Below.refl _ wr).drew.trans (hb2.mono hzr))⟩
      case measure => simp [intOf]; omega
    · go_wp2
      go_ret
      exact ⟨rfl, hbel⟩
/-- The cells that a marked list has. -/
def marksC (m : Int) (n : Nat) : List Cel := (List.range n).map fun (i : Nat) => ⟨m + 4 * (i : Int), m + 4 * (i : Int) + 1, (m + 4 * (i : Int) + 2) % 3 == 0, (m + 4 * (i : Int) + 3) % 3 == 0⟩
theorem marksC_length (m : Int) (n : Nat) : (marksC m n).length = n := by simp [marksC]
theorem marksC_succ (m : Int) (n : Nat) : marksC m (n + 1) = marksC m n ++ [⟨m + 4 * (n : Int), m + 4 * (n : Int) + 1, (m + 4 * (n : Int) + 2) % 3 == 0, (m + 4 * (n : Int) + 3) % 3 == 0⟩] := by
  unfold marksC
  rw [List.range_succ, List.map_append]
  rfl
theorem marksC_get (m : Int) {n k : Nat} (h : k < n) : (marksC m n)[k]? = some ⟨m + 4 * (k : Int), m + 4 * (k : Int) + 1, (m + 4 * (k : Int) + 2) % 3 == 0, (m + 4 * (k : Int) + 3) % 3 == 0⟩ := by
  unfold marksC
  rw [List.getElem?_map, List.getElem?_range h]
  rfl
/-- Block g has 4 n cells that may be written. -/
def OpenC (w : World) (g n : Nat) : Prop := ∀ j, j < n * 4 → (∃ u, w.cell? ⟨g, j, none⟩ = some u) ∧ w.frozen? ⟨g, j, none⟩ = false
theorem OpenC.of_own {w : World} {base g n cap : Nat} {e : TypeId} {xs : List Value} (h : w.ownsRow base e 4 (.slice (some ⟨g, 0, none⟩) n cap) n xs) : OpenC w g n := fun j hj => by
  have hl : j < xs.length := by rw [h.1]; exact hj
  exact ⟨⟨xs[j], own_at h (List.getElem?_eq_getElem hl)⟩, h.frozenAt j⟩
theorem OpenC.keep {w w' : World} {g n : Nat} (h : OpenC w g n) (hb : w'.heap[g]? = w.heap[g]?) : OpenC w' g n := fun j hj => by
  obtain ⟨⟨u, hu⟩, hf⟩ := h j hj
  exact ⟨⟨u, (World.cell?_of_block (a := ⟨g, j, none⟩) hb).trans hu⟩, (World.frozen?_of_block (a := ⟨g, j, none⟩) hb).trans hf⟩
theorem OpenC.set {w : World} {g n : Nat} (h : OpenC w g n) (i : Nat) (v : Value) : OpenC (w.setCell ⟨g, i, none⟩ v) g n := fun j hj => by
  obtain ⟨⟨u, hu⟩, hf⟩ := h j hj
  refine ⟨?_, by rw [World.frozen?_setCell]; exact hf⟩
  by_cases e : i = j
  · subst e
    exact ⟨v, World.cell?_setCell_same _ _ _ hu⟩
  · exact ⟨u, (World.cell?_setCell_other w ⟨g, i, none⟩ ⟨g, j, none⟩ _ (by intro h; injection h; exact e (by assumption))).trans hu⟩
theorem mod_b {a b : Int} (h : a % 3 = b % 3) : (a % 3 == 0) = (b % 3 == 0) := by rw [h]
/-- One more cell has been written behind those that block g reads as. -/
theorem row_step {w : World} {g n : Nat} {a : List Cel} (hr : RowC w g a) (ho : OpenC w g n) (hk : a.length < n) (k : Nat) (hkk : a.length = k) (c : Cel) (x y : Int) (u h : Bool) (hx : x = c.row) (hy : y = c.col) (hu : u = c.up) (hh : h = c.head) :
    RowC ((((w.setCell ⟨g, k * 4, none⟩ (.int .i64 x)).setCell ⟨g, k * 4 + 1, none⟩ (.int .i64 y)).setCell ⟨g, k * 4 + 2, none⟩ (.bool u)).setCell ⟨g, k * 4 + 3, none⟩ (.bool h)) g (a ++ [c]) := by
  subst hx hy hu hh
  have other : ∀ (W : World) (a b : Nat) (v : Value), a ≠ b → (W.setCell ⟨g, a, none⟩ v).cell? ⟨g, b, none⟩ = W.cell? ⟨g, b, none⟩ := fun W a b v hab =>
    World.cell?_setCell_other W ⟨g, a, none⟩ ⟨g, b, none⟩ v (by intro h; injection h; exact hab (by assumption))
  obtain ⟨⟨v1, e1⟩, _⟩ := ho (k * 4) (by omega)
  obtain ⟨⟨v2, e2⟩, _⟩ := (ho.set (k * 4) (.int .i64 c.row)) (k * 4 + 1) (by omega)
  obtain ⟨⟨v3, e3⟩, _⟩ := ((ho.set (k * 4) (.int .i64 c.row)).set (k * 4 + 1) (.int .i64 c.col)) (k * 4 + 2) (by omega)
  obtain ⟨⟨v4, e4⟩, _⟩ := (((ho.set (k * 4) (.int .i64 c.row)).set (k * 4 + 1) (.int .i64 c.col)).set (k * 4 + 2) (.bool c.up)) (k * 4 + 3) (by omega)
  refine ⟨by simpa [World.setCell] using hr.1, fun j v hv => ?_⟩
  rw [cellsC_append] at hv
  have hlen : (cellsC a).length = k * 4 := by rw [cellsC_length, hkk]
  by_cases hj : j < k * 4
  · rw [List.getElem?_append_left (by omega)] at hv
    rw [other _ _ _ _ (by omega), other _ _ _ _ (by omega), other _ _ _ _ (by omega), other _ _ _ _ (by omega)]
    exact hr.2 j v hv
  · rw [List.getElem?_append_right (by omega), hlen] at hv
    obtain ⟨i, rfl⟩ : ∃ i, j = k * 4 + i := ⟨j - k * 4, by omega⟩
    rw [Nat.add_sub_cancel_left] at hv
    have hi : i < 4 := by
      have := (List.getElem?_eq_some_iff.1 hv).1
      simpa [cellsC] using this
    rcases (by omega : i = 0 ∨ i = 1 ∨ i = 2 ∨ i = 3) with rfl | rfl | rfl | rfl
    · have : Value.int .i64 c.row = v := by simpa [cellsC] using hv
      subst this
      rw [other _ _ _ _ (by omega), other _ _ _ _ (by omega), other _ _ _ _ (by omega)]
      exact World.cell?_setCell_same _ _ _ e1
    · have : Value.int .i64 c.col = v := by simpa [cellsC] using hv
      subst this
      rw [other _ _ _ _ (by omega), other _ _ _ _ (by omega)]
      exact World.cell?_setCell_same _ _ _ e2
    · have : Value.bool c.up = v := by simpa [cellsC] using hv
      subst this
      rw [other _ _ _ _ (by omega)]
      exact World.cell?_setCell_same _ _ _ e3
    · have : Value.bool c.head = v := by simpa [cellsC] using hv
      subst this
      exact World.cell?_setCell_same _ _ _ e4
theorem markCellS_nil (A : Option Addr) (c : Nat) (m : Int) (w : World) : Calls Try.prog 12 #[.slice A 0 c, .int .i64 m] w fun e w' => e = .returned (.int .i64 m) ∧ w = w' := by
  go_enter Try.func12, Try.ntmps12
  go_wp2
  refine wp_loop_rounds 1 ?_
  rw [rounds_succ]
  go_wp2
  go_ret
  exact ⟨rfl, rfl⟩
set_option maxRecDepth 100000 in
set_option maxHeartbeats 2000000 in
theorem markCellS (g n c : Nat) (w : World) (hn : n ≤ 1000) (ho : OpenC w g n) (hg : g < w.heap.size) :
    Calls Try.prog 12 #[.slice (some ⟨g, 0, none⟩) n c, .int .i64 1] w fun e w' => e = .returned (.int .i64 (1 + 4 * (n : Int))) ∧ RowC w' g (marksC 1 n) ∧ w.grownBy w' (some g) := by
  have HO := Lib.hid ho
  clear ho
  go_enter Try.func12, Try.ntmps12
  go_wp2
  go_loopw [1, 5] (fun q i wr => ∃ k : Nat, k ≤ n ∧ i = .int .i64 k ∧ q = .int .i64 (1 + 4 * (k : Int)) ∧ Hid (RowC wr g (marksC 1 k)) ∧ Hid (OpenC wr g n) ∧ w.grownBy wr (some g)) (fun _ i _ => n - (intOf i).toNat)
  case atStart => exact ⟨0, Nat.zero_le _, rfl, rfl, ⟨hg, fun j u hu => by simp [marksC, cellsC] at hu⟩, HO, World.grownBy.refl _ _⟩
  case round =>
    obtain ⟨k, hk, rfl, rfl, HR, HO2, hgr⟩ := hrel
    by_cases hlt : k < n
    · obtain ⟨⟨u1, hu1⟩, hf1⟩ := HO2.out (k * 4) (by omega)
      obtain ⟨⟨u2, hu2⟩, hf2⟩ := HO2.out (k * 4 + 1) (by omega)
      obtain ⟨⟨u3, hu3⟩, hf3⟩ := HO2.out (k * 4 + 2) (by omega)
      obtain ⟨⟨u4, hu4⟩, hf4⟩ := HO2.out (k * 4 + 3) (by omega)
      go_wp2
      go_roundw
      case rel =>
        refine ⟨k + 1, by omega, by go_num, by go_num, ?_, (((HO2.out.set _ _).set _ _).set _ _).set _ _, grown_setCell (grown_setCell (grown_setCell (grown_setCell hgr _ _) _ _) _ _) _ _⟩
        show RowC _ _ _
        rw [marksC_succ]
        exact row_step HR.out HO2.out (by rw [marksC_length]; exact hlt) k (marksC_length _ _) _ _ _ _ _ (by rfl) (by rfl) (mod_b (by omega)) (mod_b (by omega))
      case measure => simp [intOf]; omega
    · obtain rfl : k = n := by omega
      go_wp2
      go_ret
      exact ⟨rfl, HR.out, hgr⟩
theorem heldCellS_nil (A : Option Addr) (c : Nat) (m : Int) (w : World) : Calls Try.prog 13 #[.slice A 0 c, .int .i64 m] w fun e w' => e = .returned (.int .i64 m) ∧ w = w' := by
  go_enter Try.func13, Try.ntmps13
  go_wp2
  refine wp_loop_rounds 1 ?_
  rw [rounds_succ]
  go_wp2
  go_ret
  exact ⟨rfl, rfl⟩
set_option maxRecDepth 100000 in
set_option maxHeartbeats 2000000 in
theorem heldCellS (g n c : Nat) (w : World) (hn : n ≤ 1000) (hr : RowC w g (marksC 1 n)) :
    Calls Try.prog 13 #[.slice (some ⟨g, 0, none⟩) n c, .int .i64 1] w fun e w' => e = .returned (.int .i64 (1 + 4 * (n : Int))) ∧ Below w.heap.size w w' := by
  have HR := Lib.hid hr
  clear hr
  go_enter Try.func13, Try.ntmps13
  go_wp2
  go_loopw [1, 5] (fun q i wr => ∃ k : Nat, k ≤ n ∧ i = .int .i64 k ∧ q = .int .i64 (1 + 4 * (k : Int)) ∧ ∃ d, wr = w.drewN d) (fun _ i _ => n - (intOf i).toNat)
  case atStart => exact ⟨0, Nat.zero_le _, rfl, rfl, 0, rfl⟩
  case round =>
    obtain ⟨k, hk, rfl, rfl, d, rfl⟩ := hrel
    by_cases hlt : k < n
    · obtain ⟨a1, a2, a3, a4⟩ := HR.out.at (marksC_get 1 hlt)
      simp only at a1 a2 a3 a4
      obtain ⟨b3, hb3⟩ : ∃ b, ((1 + 4 * (k : Int) + 2) % 3 == 0) = b := ⟨_, rfl⟩
      rw [mod_b (show (1 + 4 * (k : Int) + 3) % 3 = (1 + 4 * (k : Int)) % 3 by omega)] at a4
      obtain ⟨b4, hb4⟩ : ∃ b, ((1 + 4 * (k : Int)) % 3 == 0) = b := ⟨_, rfl⟩
      have e3 : (1 + 4 * (k : Int) + 1 + 1) % 3 = (1 + 4 * (k : Int) + 2) % 3 := by omega
      have e4 : (1 + 4 * (k : Int) + 1 + 1 + 1) % 3 = (1 + 4 * (k : Int)) % 3 := by omega
      have t1 : ((1 + 4 * (k : Int)) != (1 + 4 * (k : Int))) = false := by simp
      have t2 : ((1 + 4 * (k : Int) + 1) != (1 + 4 * (k : Int) + 1)) = false := by simp
      rw [hb3] at a3
      rw [hb4] at a4
      have t3 : (b3 != b3) = false := by simp
      have t4 : (b4 != b4) = false := by simp
      go_wp2
      go_roundw
      case rel => exact ⟨k + 1, by omega, by go_num, by go_num, _, rfl⟩
      case measure => simp [intOf]; omega
    · obtain rfl : k = n := by omega
      go_wp2
      go_ret
      exact ⟨rfl, below_drewN (Below.refl _ _) _⟩
end Go.Proofs.Yteabgphbkkapbaa
