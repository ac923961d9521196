/- Slices of integers: words of our own, and the walks of isBetween, stampsInRange, ones and reversed. Conditions: each theorem's own premises. -/
import Derived.Test.YtadpbbjahckoaaaChecked
import Derived.Test.YtadpbbjahckoaaaBase
import Derived.Maps.AppendAt
namespace Go.Proofs.Ytadpbbjahckoaaa
set_option maxRecDepth 100000
open Go.RowKit
theorem infoI : (Try.prog.info? 3).map (fun i => (i.zero, i.size, i.bytes)) = some (some (.int .i64 0), 1, 8) := by kernel_rfl
/-- Block g reads as these integers, from its head on. -/
def RowI (w : World) (g : Nat) (xs : List Int) : Prop := g < w.heap.size ∧ ∀ (i : Nat) (x : Int), xs[i]? = some x → w.cell? ⟨g, i, none⟩ = some (.int .i64 x)
theorem RowI.keep {w w' : World} {g : Nat} {xs : List Int} (h : RowI w g xs) (hb : w'.heap[g]? = w.heap[g]?) : RowI w' g xs :=
  ⟨by
    have h1 := h.1
    rw [Array.getElem?_eq_getElem h1] at hb
    exact (Array.getElem?_eq_some_iff.1 hb).1, fun i x hx => (World.cell?_of_block (a := ⟨g, i, none⟩) hb).trans (h.2 i x hx)⟩
theorem RowI.below {w w' : World} {g B : Nat} {xs : List Int} (h : RowI w g xs) (hb : Below B w w') (hg : g < B) : RowI w' g xs := h.keep (hb.block g hg)
theorem ownI_at {w : World} {base n size g cap : Nat} {e : TypeId} {xs : List Value} (h : w.ownsRow base e size (.slice (some ⟨g, 0, none⟩) n cap) n xs) {j : Nat} {u : Value} (hj : xs[j]? = some u) : w.cell? ⟨g, j, none⟩ = some u := by
  have hl := (List.getElem?_eq_some_iff.1 hj).1
  have h1 := h.1
  rw [h.cellAt j (by omega)]
  exact hj
theorem ownI_form {w : World} {base n size : Nat} {e : TypeId} {v : Value} {xs : List Value} (h : w.ownsRow base e size v n xs) (hn : 0 < n) : ∃ g cap, v = .slice (some ⟨g, 0, none⟩) n cap ∧ base ≤ g ∧ g < w.heap.size := by
  rcases h.2 with ⟨_, h0⟩ | ⟨g, cap, cur, rfl, h1, _⟩
  · omega
  · exact ⟨g, cap, rfl, h1, (h.lt g rfl).2⟩
theorem RowI.of_own {w : World} {base g n cap : Nat} {e : TypeId} {xs : List Int} (h : w.ownsRow base e 1 (.slice (some ⟨g, 0, none⟩) n cap) n (xs.map (Value.int .i64))) : RowI w g xs ∧ xs.length = n :=
  ⟨⟨(h.lt g rfl).2, fun i x hx => ownI_at h (by rw [List.getElem?_map, hx]; rfl)⟩, by have := h.1; simpa using this⟩
/-- A block of integers of the call's own, that may be written. -/
def BufI (w : World) (g : Nat) (xs : List Int) : Prop := g < w.heap.size ∧ ∀ j (h : j < xs.length), w.cell? ⟨g, j, none⟩ = some (.int .i64 xs[j]) ∧ w.frozen? ⟨g, j, none⟩ = false
theorem BufI.set {w : World} {g : Nat} {l : List Int} (h : BufI w g l) (j : Nat) (c : Int) : BufI (w.setCell ⟨g, j, none⟩ (.int .i64 c)) g (l.set j c) := by
  refine ⟨by simpa [World.setCell] using h.1, fun i hi => ?_⟩
  have hi' : i < l.length := by simpa using hi
  obtain ⟨h1, h2⟩ := h.2 i hi'
  constructor
  · by_cases e : j = i
    · subst e
      rw [World.cell?_setCell_same _ _ _ h1]
      simp
    · rw [World.cell?_setCell_other _ _ _ _ (by simp), h1]
      simp [e]
  · rw [World.frozen?_setCell]
    exact h2
theorem BufI.row {w : World} {g : Nat} {xs : List Int} (h : BufI w g xs) : RowI w g xs := ⟨h.1, fun i x hx => by
  obtain ⟨h1, h2⟩ := List.getElem?_eq_some_iff.1 hx
  rw [(h.2 i h1).1, h2]⟩
theorem wpList_make_int {P : Program} {w : World} {ops : Array Oper} {rest : List Oper} {o : Oper} {a : Act} {Q : Exit → Act → World → Prop}
    (hg : o.guard = none) (l c : Operand) (t : TypeId) (hop : o.op = Op.makeSlice t l c)
    (e : TypeId) (i : TypeInfo) (h1 : P.underlying t = some (.slice e)) (h2 : P.info? e = some i) (h3 : i.zero = some (.int .i64 0)) (h4 : i.size = 1) (h5 : i.bytes = 8)
    (kl kc : IntKind) (L C : Int) (n : Nat) (hl : a.eval l = .int kl L) (hc : a.eval c = .int kc C) (hL : L = (n : Int)) (hC : C = (n : Int)) (b2 : n ≤ 1048576)
    (hK : ∀ w', BufI w' w.heap.size (List.replicate n 0) → Below w.heap.size w w' → wpList P ops Q rest (a.put o.dst (.slice (some ⟨w.heap.size, 0, none⟩) n n)) w') :
    wpList P ops Q (o :: rest) a w := by
  refine wpList_make_full w hg l c t hop w.heap.size e i (.int .i64 0) 1 h1 h2 h3 h4 kl kc L C n hl hc hL hC (by rw [h5]; omega) (by unfold maxLen; omega) (Nat.le_refl _) ?_
  intro w' hown hgr
  refine hK w' ⟨(hown.lt _ rfl).2, fun j hj => ?_⟩ ((Below.refl _ _).grown hgr (Nat.le_refl _) (by intro k hk; cases hk))
  have e1 : (List.replicate n (0 : Int)).map (fun c => Value.int .i64 c) = (madeCells (Value.int .i64 0).cells (n * 1)).toList := by
    rw [Nat.mul_one, List.map_replicate]
    exact (toList_madeCells_one _ _).symm
  rw [← e1] at hown
  refine ⟨?_, hown.frozenAt j⟩
  rw [hown.cellAt j (by have := hown.1; simpa using hj)]
  simp at hj
  simp [hj]
/-- Whether a level lies between two others. -/
def btw (l a b : Int) : Bool := decide (min a b < l) && decide (l < max a b)
theorem isBetween (l a b : Int) (w : World) : Calls Try.prog 57 #[.int .i64 l, .int .i64 a, .int .i64 b] w fun e w' => e = .returned (.bool (btw l a b)) ∧ w = w' := by
  by_cases h : a ≤ b
  · by_cases h1 : a < l
    · by_cases h2 : l < b
      · have HB : Hid (btw l a b = true) := by show _ = _; unfold btw; simp; omega
        go_enter Try.func57, Try.ntmps57
        go_wp2
        all_goals first | (exfalso; omega) | (go_ret; rw [HB.out]; first | exact ⟨rfl, rfl⟩ | exact ⟨ret_bool (by rw [decide_eq_true_eq]; omega), rfl⟩ | exact ⟨ret_bool (by rw [decide_eq_false_iff_not]; omega), rfl⟩)
      · have HB : Hid (btw l a b = false) := by show _ = _; unfold btw; simp; omega
        go_enter Try.func57, Try.ntmps57
        go_wp2
        all_goals first | (exfalso; omega) | (go_ret; rw [HB.out]; first | exact ⟨rfl, rfl⟩ | exact ⟨ret_bool (by rw [decide_eq_true_eq]; omega), rfl⟩ | exact ⟨ret_bool (by rw [decide_eq_false_iff_not]; omega), rfl⟩)
    · have HB : Hid (btw l a b = false) := by show _ = _; unfold btw; simp; omega
      go_enter Try.func57, Try.ntmps57
      go_wp2
      all_goals first | (exfalso; omega) | (go_ret; rw [HB.out]; first | exact ⟨rfl, rfl⟩ | exact ⟨ret_bool (by rw [decide_eq_true_eq]; omega), rfl⟩ | exact ⟨ret_bool (by rw [decide_eq_false_iff_not]; omega), rfl⟩)
  · by_cases h1 : b < l
    · by_cases h2 : l < a
      · have HB : Hid (btw l a b = true) := by show _ = _; unfold btw; simp; omega
        go_enter Try.func57, Try.ntmps57
        go_wp2
        all_goals first | (exfalso; omega) | (go_ret; rw [HB.out]; first | exact ⟨rfl, rfl⟩ | exact ⟨ret_bool (by rw [decide_eq_true_eq]; omega), rfl⟩ | exact ⟨ret_bool (by rw [decide_eq_false_iff_not]; omega), rfl⟩)
      · have HB : Hid (btw l a b = false) := by show _ = _; unfold btw; simp; omega
        go_enter Try.func57, Try.ntmps57
        go_wp2
        all_goals first | (exfalso; omega) | (go_ret; rw [HB.out]; first | exact ⟨rfl, rfl⟩ | exact ⟨ret_bool (by rw [decide_eq_true_eq]; omega), rfl⟩ | exact ⟨ret_bool (by rw [decide_eq_false_iff_not]; omega), rfl⟩)
    · have HB : Hid (btw l a b = false) := by show _ = _; unfold btw; simp; omega
      go_enter Try.func57, Try.ntmps57
      go_wp2
      all_goals first | (exfalso; omega) | (go_ret; rw [HB.out]; first | exact ⟨rfl, rfl⟩ | exact ⟨ret_bool (by rw [decide_eq_true_eq]; omega), rfl⟩ | exact ⟨ret_bool (by rw [decide_eq_false_iff_not]; omega), rfl⟩)
def rangeN (n : Nat) : Bool := decide (1 ≤ n ∧ n ≤ 7)
theorem stampsInRange (n : Nat) (w : World) : Calls Try.prog 33 #[.int .i64 n] w fun e w' => e = .returned (.bool (rangeN n)) ∧ w = w' := by
  by_cases h1 : (1 : Int) ≤ (n : Int)
  · by_cases h2 : (n : Int) ≤ 7
    · have HB : Hid (rangeN n = true) := decide_eq_true (by omega)
      go_enter Try.func33, Try.ntmps33
      go_wp2
      go_ret
      rw [HB.out]
      exact ⟨rfl, rfl⟩
    · have HB : Hid (rangeN n = false) := decide_eq_false (by omega)
      go_enter Try.func33, Try.ntmps33
      go_wp2
      go_ret
      rw [HB.out]
      exact ⟨rfl, rfl⟩
  · have HB : Hid (rangeN n = false) := decide_eq_false (by omega)
    go_enter Try.func33, Try.ntmps33
    go_wp2
    go_ret
    rw [HB.out]
    exact ⟨rfl, rfl⟩
/-- A list of integers has come back, in a block from base on. -/
def IntsBack (w : World) (xs : List Int) (e : Ending) (w' : World) : Prop :=
  ∃ g n cap : Nat, xs.length = n ∧ e = .returned (.slice (some ⟨g, 0, none⟩) n cap) ∧ w.heap.size ≤ g ∧ RowI w' g xs ∧ Below w.heap.size w w'
set_option maxHeartbeats 1000000 in
theorem ones (n : Nat) (w : World) (hn : n ≤ 1000) : Calls Try.prog 30 #[.int .i64 n] w (IntsBack w (List.replicate n 1)) := by
  obtain ⟨i0, hi0, hz0, hz1, hz2⟩ := info_parts infoI
  have HI := Lib.hid hi0; have HZ0 := Lib.hid hz0; have HZ1 := Lib.hid hz1; have HZ2 := Lib.hid hz2
  clear hi0 hz0 hz1 hz2
  go_enter Try.func30, Try.ntmps30
  go_wp2_with fail
  go_loopw [3, 4] (fun v i wr => ∃ k g' cap : Nat, k ≤ n ∧ i = .int .i64 k ∧ v = .slice (some ⟨g', 0, none⟩) k cap ∧ wr.ownsRow w.heap.size 3 1 (.slice (some ⟨g', 0, none⟩) k cap) k ((List.replicate k (1 : Int)).map (Value.int .i64)) ∧ w.heap.size ≤ g' ∧ Below w.heap.size w wr)
    (fun _ i _ => n - (intOf i).toNat)
  case atStart => exact ⟨0, w.heap.size, 0, Nat.zero_le _, rfl, rfl, by
    have := World.ownsRow_lit (base := w.heap.size) (e := 3) (size := 1) w #[] 0 (Nat.le_refl _) (by unfold maxLen; omega) rfl
    simpa using this, Nat.le_refl _, (by repeat (first | exact Below.refl _ _ | assumption | (refine Below.setCell ?_ (by first | omega | (simp; done) | (simp; omega)) _) | (refine Below.alloc ?_ (by first | omega | (simp; done) | (simp; omega)) _) | (refine below_drewN ?_ _) | (refine Below.drew ?_)))⟩
  case round =>
    obtain ⟨k, g', cap, hk, rfl, rfl, hown, hg', hbel⟩ := hrel
    have hzr := hbel.size
    by_cases hlt : k < n
    · have HM : Hid ((List.replicate (k + 1) (1 : Int)).map (Value.int .i64) = (List.replicate k (1 : Int)).map (Value.int .i64) ++ [.int .i64 1]) := by
        show _ = _
        rw [List.replicate_succ', List.map_append]
        rfl
      go_wp2_with (at_builtin; refine wpList_append_own _ rfl _ _ 22 rfl w.heap.size 3 i0 (.int .i64 0) 1 8 Try.underlying22 HI.out HZ0.out HZ1.out HZ2.out rfl (by decide) _ k _ rfl (hown.alloc _) ⟨wr.heap.size, 0, none⟩ 1 1 [.int .i64 1] rfl rfl (cell_one_new _ _ _) (ints_oneCell .i64 [1]) (by unfold maxLen; omega) (by omega) (by simp; omega) ?_; intro v' w6 hown6 hgr6 _; obtain ⟨g6, cap6, hv6, hg6, hl6⟩ := ownI_form hown6 (by omega); subst hv6)
      have hbel6 : Below w.heap.size w w6 := (hbel.alloc hzr _).grown hgr6 (by simp; omega) (by intro k hk; cases hk; exact hg')
      go_roundw
      case rel => exact ⟨k + 1, g6, cap6, by omega, by go_num, rfl, by rw [HM.out]; exact hown6, hg6, hbel6⟩
      case measure => simp [intOf]; omega
    · obtain rfl : k = n := by omega
      obtain ⟨h1, h2⟩ := RowI.of_own hown
      go_wp2_with fail
      go_ret
      exact ⟨g', k, cap, h2, rfl, hg', h1, hbel⟩
end Go.Proofs.Ytadpbbjahckoaaa
