/- The walks of PathPlaces, of the program and of the reference. Conditions: each theorem's own premises. -/
import Derived.Test.YtalbokejljjflaaWordA
import Derived.Maps.AppendAt
import Derived.Deep.RegionHeld3
namespace Go.Proofs.Ytalbokejljjflaa
open Go.RowKit
/-- A step turned by a crease: to the left for V, else to the right. -/
def turn (c : UInt8) (d : Int × Int) : Int × Int := if c = 86 then (-d.2, d.1) else (d.2, -d.1)
/-- A place and the step that led there, one crease on. -/
def pstep (s : (Int × Int) × (Int × Int)) (c : UInt8) : (Int × Int) × (Int × Int) := ((s.1.1 + (turn c s.2).1, s.1.2 + (turn c s.2).2), turn c s.2)
/-- Where a path is behind its first k creases, and its last step. -/
def stAt (l : List UInt8) (k : Nat) : (Int × Int) × (Int × Int) := (l.take k).foldl pstep ((1, 0), (1, 0))
theorem stAt_zero (l : List UInt8) : stAt l 0 = ((1, 0), (1, 0)) := by simp [stAt]
theorem stAt_succ (l : List UInt8) (k : Nat) (h : k < l.length) : stAt l (k + 1) = pstep (stAt l k) l[k] := by
  unfold stAt
  rw [List.take_succ_eq_append_getElem h, List.foldl_append]
  rfl
/-- The first places of a path: the first one, and those behind 0 to k creases. -/
def placesTo (l : List UInt8) (k : Nat) : List (Int × Int) := (0, 0) :: (List.range (k + 1)).map fun j => (stAt l j).1
/-- The places of a path. -/
def places (l : List UInt8) : List (Int × Int) := placesTo l l.length
theorem placesTo_length (l : List UInt8) (k : Nat) : (placesTo l k).length = k + 2 := by simp [placesTo]
theorem placesTo_succ (l : List UInt8) (k : Nat) : placesTo l (k + 1) = placesTo l k ++ [(stAt l (k + 1)).1] := by
  unfold placesTo
  rw [List.range_succ, List.map_append]
  rfl
theorem placesTo_last (l : List UInt8) (k : Nat) : (placesTo l k)[k + 1]? = some (stAt l k).1 := by
  unfold placesTo
  rw [List.getElem?_cons_succ, List.getElem?_map, List.getElem?_range (by omega)]
  rfl
/-- The cells of a list of places. -/
def cellsP : List (Int × Int) → List Value
  | [] => []
  | p :: r => .int .i64 p.1 :: .int .i64 p.2 :: cellsP r
theorem cellsP_append : ∀ a b : List (Int × Int), cellsP (a ++ b) = cellsP a ++ cellsP b
  | [], _ => rfl
  | p :: r, b => by
    show _ :: _ :: cellsP (r ++ b) = _
    rw [cellsP_append r b]
    rfl
theorem cellsP_length : ∀ a : List (Int × Int), (cellsP a).length = a.length * 2
  | [] => rfl
  | p :: r => by
    show (cellsP r).length + 1 + 1 = (r.length + 1) * 2
    rw [cellsP_length r]
    omega
theorem cellsP_get : ∀ (a : List (Int × Int)) (i : Nat) (p : Int × Int), a[i]? = some p → (cellsP a)[i * 2]? = some (.int .i64 p.1) ∧ (cellsP a)[i * 2 + 1]? = some (.int .i64 p.2)
  | [], _, _, h => by simp at h
  | q :: r, 0, p, h => by
    have : q = p := by simpa using h
    subst this
    exact ⟨rfl, rfl⟩
  | q :: r, i + 1, p, h => by
    have := cellsP_get r i p (by simpa using h)
    rw [show (i + 1) * 2 = i * 2 + 1 + 1 from by omega]
    exact this
theorem st_bd (l : List UInt8) : ∀ k, k ≤ l.length → (-1 ≤ (stAt l k).2.1 ∧ (stAt l k).2.1 ≤ 1 ∧ -1 ≤ (stAt l k).2.2 ∧ (stAt l k).2.2 ≤ 1) ∧
    (-((k : Int) + 1) ≤ (stAt l k).1.1 ∧ (stAt l k).1.1 ≤ (k : Int) + 1 ∧ -((k : Int) + 1) ≤ (stAt l k).1.2 ∧ (stAt l k).1.2 ≤ (k : Int) + 1)
  | 0, _ => by
    rw [stAt_zero]
    decide
  | k + 1, h => by
    obtain ⟨⟨a1, a2, a3, a4⟩, b1, b2, b3, b4⟩ := st_bd l k (by omega)
    rw [stAt_succ l k (by omega)]
    unfold pstep turn
    by_cases hc : l[k] = 86
    · simp only [if_pos hc]
      omega
    · simp only [if_neg hc]
      omega
theorem infoPlace : (Try.prog.info? 25).map (fun i => (i.zero, i.size, i.bytes)) = some (some (.agg #[.int .i64 0, .int .i64 0]), 2, 16) := by kernel_rfl
/-- What PathPlaces returns for a text of creases. -/
def PlacesBack (l : List UInt8) (w : World) (e : Ending) (w' : World) : Prop :=
  ∃ g cap : Nat, e = .returned (.tuple #[.slice (some ⟨g, 0, none⟩) (l.length + 2) cap, .bool true]) ∧ w.heap.size ≤ g ∧
    w'.ownsRow w.heap.size 25 2 (.slice (some ⟨g, 0, none⟩) (l.length + 2) cap) (l.length + 2) (cellsP (places l)) ∧ Below w.heap.size w w'
/-- The three captured variables of a walker: the step's y, the step's x, the place. -/
structure Walker (w : World) (b1 b2 b3 : Nat) (s : (Int × Int) × (Int × Int)) : Prop where
  c1 : w.cell? ⟨b1, 0, none⟩ = some (.int .i64 s.2.2)
  c2 : w.cell? ⟨b2, 0, none⟩ = some (.int .i64 s.2.1)
  c3 : w.cell? ⟨b3, 0, none⟩ = some (.int .i64 s.1.1)
  c4 : w.cell? ⟨b3, 1, none⟩ = some (.int .i64 s.1.2)
  f1 : w.frozen? ⟨b1, 0, none⟩ = false
  f2 : w.frozen? ⟨b2, 0, none⟩ = false
  f3 : w.frozen? ⟨b3, 0, none⟩ = false
  f4 : w.frozen? ⟨b3, 1, none⟩ = false
theorem Walker.keep {w w' : World} {b1 b2 b3 : Nat} {s : (Int × Int) × (Int × Int)} (h : Walker w b1 b2 b3 s) (h1 : w'.heap[b1]? = w.heap[b1]?) (h2 : w'.heap[b2]? = w.heap[b2]?) (h3 : w'.heap[b3]? = w.heap[b3]?) : Walker w' b1 b2 b3 s where
  c1 := (World.cell?_of_block (a := ⟨b1, 0, none⟩) h1).trans h.c1
  c2 := (World.cell?_of_block (a := ⟨b2, 0, none⟩) h2).trans h.c2
  c3 := (World.cell?_of_block (a := ⟨b3, 0, none⟩) h3).trans h.c3
  c4 := (World.cell?_of_block (a := ⟨b3, 1, none⟩) h3).trans h.c4
  f1 := (World.frozen?_of_block (a := ⟨b1, 0, none⟩) h1).trans h.f1
  f2 := (World.frozen?_of_block (a := ⟨b2, 0, none⟩) h2).trans h.f2
  f3 := (World.frozen?_of_block (a := ⟨b3, 0, none⟩) h3).trans h.f3
  f4 := (World.frozen?_of_block (a := ⟨b3, 1, none⟩) h3).trans h.f4
theorem Walker.lt {w : World} {b1 b2 b3 : Nat} {s : (Int × Int) × (Int × Int)} (h : Walker w b1 b2 b3 s) : b1 < w.heap.size ∧ b2 < w.heap.size ∧ b3 < w.heap.size :=
  ⟨World.block_lt_of_cell? w _ h.c1, World.block_lt_of_cell? w _ h.c2, World.block_lt_of_cell? w _ h.c3⟩
/-- One step has been made. -/
def Stepped (w : World) (b1 b2 b3 : Nat) (s' : (Int × Int) × (Int × Int)) (e : Ending) (w' : World) : Prop :=
  e = .returned (.agg #[.int .i64 s'.1.1, .int .i64 s'.1.2]) ∧ Walker w' b1 b2 b3 s' ∧ (∀ k, k < w.heap.size → k ≠ b1 → k ≠ b2 → k ≠ b3 → w'.heap[k]? = w.heap[k]?) ∧
    w'.os = w.os ∧ w'.tape = w.tape ∧ w'.output = w.output ∧ w.heap.size ≤ w'.heap.size
theorem Stepped.below {w w' : World} {b1 b2 b3 B : Nat} {s' : (Int × Int) × (Int × Int)} {e : Ending} (h : Stepped w b1 b2 b3 s' e w') (h1 : B ≤ b1) (h2 : B ≤ b2) (h3 : B ≤ b3) (hB : B ≤ w.heap.size) : Below B w w' :=
  ⟨h.2.2.2.1, h.2.2.2.2.1, h.2.2.2.2.2.1, h.2.2.2.2.2.2, fun k hk => h.2.2.1 k (by omega) (by omega) (by omega) (by omega)⟩
theorem stepped_world (w : World) (b1 b2 b3 : Nat) (v1 v2 v3 v4 : Int) (T : TypeId) (C : Array Value) (h12 : b1 ≠ b2) (h13 : b1 ≠ b3) (h23 : b2 ≠ b3) {s : (Int × Int) × (Int × Int)} (h : Walker w b1 b2 b3 s) :
    Stepped w b1 b2 b3 ((v3, v4), (v2, v1)) (.returned (.agg #[.int .i64 v3, .int .i64 v4]))
      (((((w.setCell ⟨b2, 0, none⟩ (.int .i64 v2)).setCell ⟨b1, 0, none⟩ (.int .i64 v1)).setCell ⟨b3, 0, none⟩ (.int .i64 v3)).setCell ⟨b3, 1, none⟩ (.int .i64 v4)).alloc (.cells C T)) := by
  have hl := h.lt
  have s1 := World.cell?_setCell_same w ⟨b2, 0, none⟩ (.int .i64 v2) h.c2
  have hsz : ((((w.setCell ⟨b2, 0, none⟩ (.int .i64 v2)).setCell ⟨b1, 0, none⟩ (.int .i64 v1)).setCell ⟨b3, 0, none⟩ (.int .i64 v3)).setCell ⟨b3, 1, none⟩ (.int .i64 v4)).heap.size = w.heap.size := by simp [World.setCell]
  obtain ⟨X, hX⟩ : ∃ X, X = (((w.setCell ⟨b2, 0, none⟩ (.int .i64 v2)).setCell ⟨b1, 0, none⟩ (.int .i64 v1)).setCell ⟨b3, 0, none⟩ (.int .i64 v3)).setCell ⟨b3, 1, none⟩ (.int .i64 v4) := ⟨_, rfl⟩
  rw [← hX] at hsz ⊢
  have hfar : ∀ k, k ≠ b1 → k ≠ b2 → k ≠ b3 → X.heap[k]? = w.heap[k]? := fun k k1 k2 k3 => by
    rw [hX, Below.heap_setCell _ _ _ _ k3, Below.heap_setCell _ _ _ _ k3, Below.heap_setCell _ _ _ _ k1, Below.heap_setCell _ _ _ _ k2]
  have hW : Walker X b1 b2 b3 ((v3, v4), (v2, v1)) := by
    subst hX
    have i1 : (w.setCell ⟨b2, 0, none⟩ (.int .i64 v2)).cell? ⟨b1, 0, none⟩ = some (.int .i64 s.2.2) := (World.cell?_setCell_other _ _ _ _ (by simp)).trans h.c1
    have i3 : ((w.setCell ⟨b2, 0, none⟩ (.int .i64 v2)).setCell ⟨b1, 0, none⟩ (.int .i64 v1)).cell? ⟨b3, 0, none⟩ = some (.int .i64 s.1.1) :=
      (World.cell?_setCell_other _ _ _ _ (by simp)).trans ((World.cell?_setCell_other _ _ _ _ (by simp)).trans h.c3)
    have i4 : (((w.setCell ⟨b2, 0, none⟩ (.int .i64 v2)).setCell ⟨b1, 0, none⟩ (.int .i64 v1)).setCell ⟨b3, 0, none⟩ (.int .i64 v3)).cell? ⟨b3, 1, none⟩ = some (.int .i64 s.1.2) :=
      (World.cell?_setCell_other _ _ _ _ (by simp)).trans ((World.cell?_setCell_other _ _ _ _ (by simp)).trans ((World.cell?_setCell_other _ _ _ _ (by simp)).trans h.c4))
    exact {
      c1 := (World.cell?_setCell_other _ _ _ _ (by simp)).trans ((World.cell?_setCell_other _ _ _ _ (by simp)).trans (World.cell?_setCell_same _ _ _ i1))
      c2 := (World.cell?_setCell_other _ _ _ _ (by simp)).trans ((World.cell?_setCell_other _ _ _ _ (by simp)).trans ((World.cell?_setCell_other _ _ _ _ (by simp)).trans s1))
      c3 := (World.cell?_setCell_other _ _ _ _ (by simp)).trans (World.cell?_setCell_same _ _ _ i3)
      c4 := World.cell?_setCell_same _ _ _ i4
      f1 := by simp only [World.frozen?_setCell]; exact h.f1
      f2 := by simp only [World.frozen?_setCell]; exact h.f2
      f3 := by simp only [World.frozen?_setCell]; exact h.f3
      f4 := by simp only [World.frozen?_setCell]; exact h.f4 }
  refine ⟨rfl, hW.keep (Below.heap_alloc _ _ _ (by omega)) (Below.heap_alloc _ _ _ (by omega)) (Below.heap_alloc _ _ _ (by omega)), fun k hk k1 k2 k3 => (Below.heap_alloc _ _ _ (by omega)).trans (hfar k k1 k2 k3), ?_, ?_, ?_, ?_⟩
  · rw [hX]; rfl
  · rw [hX]; rfl
  · rw [hX]; rfl
  · have : (X.alloc (.cells C T)).heap.size = X.heap.size + 1 := by simp
    omega
theorem pstep_V {c : UInt8} (s : (Int × Int) × (Int × Int)) (h : ((c.toNat : Int) == 86) = true) : pstep s c = ((s.1.1 + -s.2.2, s.1.2 + s.2.1), (-s.2.2, s.2.1)) := by
  have hc : c = 86 := byte_eq (n := 86) h
  unfold pstep turn
  simp only [if_pos hc]
theorem pstep_M {c : UInt8} (s : (Int × Int) × (Int × Int)) (h : ((c.toNat : Int) == 86) = false) : pstep s c = ((s.1.1 + s.2.2, s.1.2 + -s.2.1), (s.2.2, -s.2.1)) := by
  have hc : c ≠ 86 := by intro e; rw [e] at h; exact absurd h (by decide)
  unfold pstep turn
  simp only [if_neg hc]
/-- How far a walker may have gone. -/
def Near (s : (Int × Int) × (Int × Int)) : Prop := -1 ≤ s.2.1 ∧ s.2.1 ≤ 1 ∧ -1 ≤ s.2.2 ∧ s.2.2 ≤ 1 ∧ -1000 ≤ s.1.1 ∧ s.1.1 ≤ 1000 ∧ -1000 ≤ s.1.2 ∧ s.1.2 ≤ 1000
theorem near_st (l : List UInt8) (k : Nat) (hk : k ≤ l.length) (hl : l.length ≤ 63) : Near (stAt l k) := by
  have h := st_bd l k hk
  unfold Near
  omega
set_option maxHeartbeats 1000000 in
theorem walk1 (c : UInt8) (b1 b2 b3 : Nat) (s : (Int × Int) × (Int × Int)) (w : World) (h12 : b1 ≠ b2) (h13 : b1 ≠ b3) (h23 : b2 ≠ b3) (h : Walker w b1 b2 b3 s) (hn : Near s) :
    Calls Try.prog 39 #[.int .u8 (c.toNat : Int), .pointer (some ⟨b1, 0, none⟩), .pointer (some ⟨b2, 0, none⟩), .pointer (some ⟨b3, 0, none⟩)] w (Stepped w b1 b2 b3 (pstep s c)) := by
  obtain ⟨d1, d2, d3, d4, p1, p2, p3, p4⟩ := hn
  have H := Lib.hid h
  have ⟨c1, c2, c3, c4, f1, f2, f3, f4⟩ := h
  obtain ⟨l1, l2, l3⟩ := h.lt
  clear h
  cases hv : ((c.toNat : Int) == 86) with
  | true =>
    have HP := Lib.hid (pstep_V s hv)
    go_enter Try.func39, Try.ntmps39
    go_wp2
    rw [HP.out]
    exact bodyPost_ret (v := .agg #[.int .i64 (s.1.1 + -s.2.2), .int .i64 (s.1.2 + s.2.1)]) (by simp [results, Try.results39, go_sem]) rfl (stepped_world w b1 b2 b3 _ _ _ _ _ _ h12 h13 h23 H.out)
  | false =>
    have HP := Lib.hid (pstep_M s hv)
    go_enter Try.func39, Try.ntmps39
    go_wp2
    rw [HP.out]
    exact bodyPost_ret (v := .agg #[.int .i64 (s.1.1 + s.2.2), .int .i64 (s.1.2 + -s.2.1)]) (by simp [results, Try.results39, go_sem]) rfl (stepped_world w b1 b2 b3 _ _ _ _ _ _ h12 h13 h23 H.out)
/-- What walk returns: a closure, at the place (1, 0) behind the step (1, 0). -/
def IsWalk (w : World) (e : Ending) (w' : World) : Prop :=
  ∃ b1 b2 b3 : Nat, e = .returned (.func (.func 39) #[] #[.pointer (some ⟨b1, 0, none⟩), .pointer (some ⟨b2, 0, none⟩), .pointer (some ⟨b3, 0, none⟩)]) ∧ b1 ≠ b2 ∧ b1 ≠ b3 ∧ b2 ≠ b3 ∧
    w.heap.size ≤ b1 ∧ w.heap.size ≤ b2 ∧ w.heap.size ≤ b3 ∧ Walker w' b1 b2 b3 ((1, 0), (1, 0)) ∧ Below w.heap.size w w'
set_option maxHeartbeats 1000000 in
theorem walk0 (w : World) : Calls Try.prog 31 #[.agg #[.int .i64 0, .int .i64 0], .agg #[.int .i64 1, .int .i64 0]] w (IsWalk w) := by
  go_enter Try.func31, Try.ntmps31
  go_wp2
  go_region
  all_goals
    go_wp2
    go_ret
    refine ⟨_, _, _, rfl, by omega, by omega, by omega, by omega, by omega, by omega, ⟨?_, ?_, ?_, ?_, ?_, ?_, ?_, ?_⟩, (by repeat (first | exact Below.refl _ _ | assumption | (refine Below.setCell ?_ (by first | omega | (simp; done) | (simp; omega)) _) | (refine Below.alloc ?_ (by first | omega | (simp; done) | (simp; omega)) _) | (refine below_drewN ?_ _) | (refine Below.drew ?_)))⟩
    all_goals (simp [go_sem]; done)
end Go.Proofs.Ytalbokejljjflaa
