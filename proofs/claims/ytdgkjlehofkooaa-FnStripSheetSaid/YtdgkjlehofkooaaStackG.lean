/- The program's sheet in memory, and the walks of newFoldSheet and stackAt. Conditions: each theorem's own premises. -/
import Derived.Test.YtdgkjlehofkooaaStackF
import Derived.Deep.RegionLaw
namespace Go.Proofs.Ytdgkjlehofkooaa
set_option maxRecDepth 100000
open Go.RowKit
/-- A value is a stack in a block from base on that q allows; it may be written. -/
def StackO (w : World) (base : Nat) (q : Nat → Prop) (v : Value) (a : List Cel) : Prop :=
  ∃ g cap : Nat, v = .slice (some ⟨g, 0, none⟩) a.length cap ∧ q g ∧ w.ownsRow base 35 4 (.slice (some ⟨g, 0, none⟩) a.length cap) a.length (cellsC a)
theorem StackO.keep {w w' : World} {base : Nat} {q q' : Nat → Prop} {v : Value} {a : List Cel} (h : StackO w base q v a) (hk : ∀ k, k < w.heap.size → q k → w'.heap[k]? = w.heap[k]? ∧ q' k) : StackO w' base q' v a := by
  obtain ⟨g, cap, hv, hq, ho⟩ := h
  have := hk g (ho.lt g rfl).2 hq
  exact ⟨g, cap, hv, this.2, ownsRow_of_block ho this.1⟩
/-- The i-th value is a stack, as f says. -/
def Os (w : World) (base : Nat) (q : Nat → Prop) (vs : List Value) (f : Nat → List Cel) : Prop := ∀ i u, vs[i]? = some u → StackO w base q u (f i)
theorem Os.keep {w w' : World} {base : Nat} {q q' : Nat → Prop} {vs : List Value} {f : Nat → List Cel} (h : Os w base q vs f) (hk : ∀ k, k < w.heap.size → q k → w'.heap[k]? = w.heap[k]? ∧ q' k) : Os w' base q' vs f := fun i u hu => (h i u hu).keep hk
theorem Os.snoc {w : World} {base : Nat} {q : Nat → Prop} {vs : List Value} {f : Nat → List Cel} {u : Value} (h : Os w base q vs f) (hu : StackO w base q u (f vs.length)) : Os w base q (vs ++ [u]) f := fun i x hx => by
  rcases snoc_get hx with h1 | ⟨rfl, rfl⟩
  · exact h i x h1
  · exact hu
theorem infoLayers : (Try.prog.info? 63).map (fun i => (i.zero, i.size, i.bytes)) = some (some (.agg #[.slice none 0 0]), 1, 24) := by kernel_rfl
/-- Block S is a sheet of the program's. -/
structure FS (w : World) (base S : Nat) (s : Sheet) : Prop where
  r : w.cell? ⟨S, 0, none⟩ = some (.int .i64 s.R)
  c : w.cell? ⟨S, 1, none⟩ = some (.int .i64 s.C)
  f1 : w.frozen? ⟨S, 0, none⟩ = false
  f2 : w.frozen? ⟨S, 1, none⟩ = false
  f3 : w.frozen? ⟨S, 2, none⟩ = false
  st : ∃ (g n cap : Nat) (vs : List Value), n = s.R * s.C ∧ w.cell? ⟨S, 2, none⟩ = some (.slice (some ⟨g, 0, none⟩) n cap) ∧ g ≠ S ∧ base ≤ g ∧
    w.ownsRow base 63 1 (.slice (some ⟨g, 0, none⟩) n cap) n vs ∧ (∀ r c u, r < s.R → c < s.C → vs[r * s.C + c]? = some u → StackO w base (fun k => k ≠ S) u (s.f r c))
/-- The new sheet, n stacks laid. -/
structure NF (w wr : World) (R C n : Nat) : Prop where
  a1 : wr.cell? ⟨w.heap.size, 0, none⟩ = some (.int .i64 R)
  a2 : wr.cell? ⟨w.heap.size, 1, none⟩ = some (.int .i64 C)
  c1 : wr.cell? ⟨w.heap.size + 1, 0, none⟩ = some (.int .i64 R)
  c2 : wr.cell? ⟨w.heap.size + 1, 1, none⟩ = some (.int .i64 C)
  f1 : wr.frozen? ⟨w.heap.size + 1, 0, none⟩ = false
  f2 : wr.frozen? ⟨w.heap.size + 1, 1, none⟩ = false
  f3 : wr.frozen? ⟨w.heap.size + 1, 2, none⟩ = false
  b : Below w.heap.size w wr
  st : ∃ (v : Value) (vs : List Value), wr.cell? ⟨w.heap.size + 1, 2, none⟩ = some v ∧ (v = .slice none 0 0 ∨ ∃ g cap, v = .slice (some ⟨g, 0, none⟩) n cap) ∧ wr.ownsRow (w.heap.size + 2) 63 1 v n vs ∧ Os wr (w.heap.size + 2) (fun k => v.ownBlock ≠ some k) vs (fun i => [⟨(i / C : Nat), (i % C : Nat), true, true⟩])
/-- What the append of a stack to the new sheet leaves as it was. -/
theorem nf_keep {w wr w6 : World} {R C n : Nat} {v : Value} {o1 o2 o3 : Obj} (h : NF w wr R C n) (hv : wr.cell? ⟨w.heap.size + 1, 2, none⟩ = some v) (hgr : (((wr.alloc o1).alloc o2).alloc o3).drew.grownBy w6 v.ownBlock) :
    (∀ k, k < wr.heap.size + 2 → v.ownBlock ≠ some k → k < wr.heap.size → w6.heap[k]? = wr.heap[k]?) ∧ w6.heap[wr.heap.size + 1]? = ((wr.alloc o1).alloc o2).heap[wr.heap.size + 1]? ∧ wr.heap.size + 3 ≤ w6.heap.size ∧ v.ownBlock ≠ some (w.heap.size + 1) ∧ v.ownBlock ≠ some w.heap.size ∧ w.heap.size + 1 < wr.heap.size := by
  have hl := World.block_lt_of_cell? wr _ h.c1
  have hl : w.heap.size + 1 < wr.heap.size := hl
  obtain ⟨v', vs, hv', hv2, hown, hos⟩ := h.st
  have e : v' = v := by rw [hv] at hv'; exact (Option.some.inj hv').symm
  subst e
  have hlo : ∀ g, v'.ownBlock = some g → w.heap.size + 2 ≤ g ∧ g < wr.heap.size := by
    intro g hg
    rcases hv2 with rfl | ⟨g', cap, rfl⟩
    · simp [Value.ownBlock] at hg
    · have : g' = g := Option.some.inj hg
      subst this
      exact ⟨(hown.lt g' rfl).1, (hown.lt g' rfl).2⟩
  have s1 : (wr.alloc o1).heap.size = wr.heap.size + 1 := by simp
  have s2 : ((wr.alloc o1).alloc o2).heap.size = wr.heap.size + 1 + 1 := by simp
  have s3 : (((wr.alloc o1).alloc o2).alloc o3).drew.heap.size = wr.heap.size + 1 + 1 + 1 := by show (((wr.alloc o1).alloc o2).alloc o3).heap.size = _; simp
  have ne : ∀ g, (g < w.heap.size + 2 ∨ wr.heap.size ≤ g) → v'.ownBlock ≠ some g := fun g hg e => by have := hlo g e; omega
  refine ⟨fun k _ hk hk2 => ?_, ?_, by rw [show wr.heap.size + 3 = wr.heap.size + 1 + 1 + 1 from rfl, ← s3]; exact hgr.size, ne _ (.inl (by omega)), ne _ (.inl (by omega)), hl⟩
  · refine (hgr.block k (by rw [s3]; omega) (fun e => hk e.symm)).trans ?_
    show (((wr.alloc o1).alloc o2).alloc o3).heap[k]? = _
    rw [Below.heap_alloc _ _ k (by omega), Below.heap_alloc _ _ k (by omega), Below.heap_alloc _ _ k (by omega)]
  · refine (hgr.block _ (by rw [s3]; omega) (fun e => ne (wr.heap.size + 1) (.inr (by omega)) e.symm)).trans ?_
    show (((wr.alloc o1).alloc o2).alloc o3).heap[_]? = _
    rw [Below.heap_alloc _ _ _ (by omega)]
theorem nf_cell {w wr w6 : World} {R C n : Nat} {v : Value} {o1 o2 o3 : Obj} (h : NF w wr R C n) (hv : wr.cell? ⟨w.heap.size + 1, 2, none⟩ = some v) (hgr : (((wr.alloc o1).alloc o2).alloc o3).drew.grownBy w6 v.ownBlock) :
    w6.cell? ⟨w.heap.size + 1, 2, none⟩ = some v ∧ w6.frozen? ⟨w.heap.size + 1, 2, none⟩ = false := by
  obtain ⟨k1, k2, k3, k4, k5, k6⟩ := nf_keep h hv hgr
  have hS := k1 (w.heap.size + 1) (by omega) k4 k6
  exact ⟨(World.cell?_of_block (a := ⟨w.heap.size + 1, 2, none⟩) hS).trans hv, (World.frozen?_of_block (a := ⟨w.heap.size + 1, 2, none⟩) hS).trans h.f3⟩
theorem nf_far {w wr : World} {v : Value} (o1 o2 : Obj) (hv : wr.cell? ⟨w.heap.size + 1, 2, none⟩ = some v) (h : w.heap.size + 1 < wr.heap.size) : ((wr.alloc o1).alloc o2).cell? ⟨w.heap.size + 1, 2, none⟩ = some v := by
  have s1 : (wr.alloc o1).heap.size = wr.heap.size + 1 := by simp
  rw [World.cell?_of_block (a := ⟨w.heap.size + 1, 2, none⟩) (Below.heap_alloc (wr.alloc o1) o2 (w.heap.size + 1) (by omega)), World.cell?_of_block (a := ⟨w.heap.size + 1, 2, none⟩) (Below.heap_alloc wr o1 (w.heap.size + 1) h)]
  exact hv
theorem nf_far2 {w wr : World} {v : Value} (o1 o2 o3 : Obj) (hv : wr.cell? ⟨w.heap.size + 1, 2, none⟩ = some v) (h : w.heap.size + 1 < wr.heap.size) : (((wr.alloc o1).alloc o2).alloc o3).cell? ⟨w.heap.size + 1, 2, none⟩ = some v := by
  have s1 : (wr.alloc o1).heap.size = wr.heap.size + 1 := by simp
  have s2 : ((wr.alloc o1).alloc o2).heap.size = wr.heap.size + 1 + 1 := by simp
  rw [World.cell?_of_block (a := ⟨w.heap.size + 1, 2, none⟩) (Below.heap_alloc ((wr.alloc o1).alloc o2) o3 (w.heap.size + 1) (by omega))]
  exact nf_far o1 o2 hv h
/-- One more stack has been laid. -/
theorem nf_step {w wr w6 : World} {R C r c n g6 cap6 T3 : Nat} {v : Value} {vs : List Value} {o1 : Obj} {A3 : Array Value} (h : NF w wr R C n) (hn : n = r * C + c) (hc : c < C) (hv : wr.cell? ⟨w.heap.size + 1, 2, none⟩ = some v) (hown : wr.ownsRow (w.heap.size + 2) 63 1 v n vs) (hos : Os wr (w.heap.size + 2) (fun k => v.ownBlock ≠ some k) vs (fun i => [⟨(i / C : Nat), (i % C : Nat), true, true⟩]))
    (hgr : (((wr.alloc o1).alloc (.cells #[.int .i64 r, .int .i64 c, .bool true, .bool true] 35)).alloc (.cells A3 T3)).drew.grownBy w6 v.ownBlock)
    (hown6 : w6.ownsRow (w.heap.size + 2) 63 1 (.slice (some ⟨g6, 0, none⟩) (n + 1) cap6) (n + 1) (vs ++ [.slice (some ⟨wr.heap.size + 1, 0, none⟩) 1 1])) (hat : v.ownBlock = some g6 ∨ g6 = wr.heap.size + 1 + 1 + 1) :
    NF w (w6.setCell ⟨w.heap.size + 1, 2, none⟩ (.slice (some ⟨g6, 0, none⟩) (n + 1) cap6)) R C (n + 1) := by
  obtain ⟨k1, k2, k3, k4, k5, k6⟩ := nf_keep h hv hgr
  have hl6 := hown6.lt g6 rfl
  have hS := k1 (w.heap.size + 1) (by omega) k4 k6
  have hB := k1 w.heap.size (by omega) k5 (by omega)
  have hsc : ∀ (a : Addr) (x : Value), a ≠ ⟨w.heap.size + 1, 2, none⟩ → (w6.setCell ⟨w.heap.size + 1, 2, none⟩ x).cell? a = w6.cell? a := fun a x ha => World.cell?_setCell_other w6 _ _ _ (Ne.symm ha)
  have hlo : ∀ g, v.ownBlock = some g → w.heap.size + 2 ≤ g ∧ g < wr.heap.size := by
    intro g hg
    obtain ⟨v', vs', hv', hv2, hown', _⟩ := h.st
    have e : v' = v := by rw [hv] at hv'; exact (Option.some.inj hv').symm
    subst e
    rcases hv2 with rfl | ⟨g', cap, rfl⟩
    · simp [Value.ownBlock] at hg
    · have : g' = g := Option.some.inj hg
      subst this
      exact ⟨(hown.lt g' rfl).1, (hown.lt g' rfl).2⟩
  have hg6 : ∀ k, k < wr.heap.size + 2 → v.ownBlock ≠ some k → k ≠ g6 := by
    intro k hk hv e
    subst e
    rcases hat with h | h
    · exact hv h
    · omega
  have hb6 : Below w.heap.size w w6 := by
    have hbw := h.b
    refine ⟨hgr.os.trans hbw.os, hgr.tape.trans hbw.tape, hgr.output.trans hbw.output, by omega, fun k hk => (k1 k (by omega) (fun e => by have := hlo k e; omega) (by omega)).trans (hbw.block k hk)⟩
  refine ⟨(hsc _ _ (by simp)).trans ((World.cell?_of_block (a := ⟨w.heap.size, 0, none⟩) hB).trans h.a1), (hsc _ _ (by simp)).trans ((World.cell?_of_block (a := ⟨w.heap.size, 1, none⟩) hB).trans h.a2),
    (hsc _ _ (by simp)).trans ((World.cell?_of_block (a := ⟨w.heap.size + 1, 0, none⟩) hS).trans h.c1), (hsc _ _ (by simp)).trans ((World.cell?_of_block (a := ⟨w.heap.size + 1, 1, none⟩) hS).trans h.c2),
    by rw [World.frozen?_setCell]; exact (World.frozen?_of_block (a := ⟨w.heap.size + 1, 0, none⟩) hS).trans h.f1, by rw [World.frozen?_setCell]; exact (World.frozen?_of_block (a := ⟨w.heap.size + 1, 1, none⟩) hS).trans h.f2,
    by rw [World.frozen?_setCell]; exact (World.frozen?_of_block (a := ⟨w.heap.size + 1, 2, none⟩) hS).trans h.f3, hb6.setCell (by simp) _, ?_⟩
  refine ⟨_, _, World.cell?_setCell_same _ _ _ ((World.cell?_of_block (a := ⟨w.heap.size + 1, 2, none⟩) hS).trans hv), .inr ⟨g6, cap6, rfl⟩, ownsRow_of_block hown6 (Below.heap_setCell w6 ⟨w.heap.size + 1, 2, none⟩ _ g6 (by show g6 ≠ w.heap.size + 1; omega)), ?_⟩
  have hset : ∀ k, k ≠ w.heap.size + 1 → ∀ x, (w6.setCell ⟨w.heap.size + 1, 2, none⟩ x).heap[k]? = w6.heap[k]? := fun k hk x => Below.heap_setCell w6 ⟨w.heap.size + 1, 2, none⟩ x k hk
  intro i u hu
  rcases snoc_get hu with h1 | ⟨rfl, rfl⟩
  · obtain ⟨g, cap, hv1, hq, ho⟩ := hos i u h1
    have hgl := ho.lt g rfl
    refine ⟨g, cap, hv1, fun e => hg6 g (by omega) hq (Option.some.inj e).symm, ownsRow_of_block ho ((hset g (by omega) _).trans (k1 g (by omega) hq hgl.2))⟩
  · have hle : vs.length = r * C + c := by have := hown.1; rw [← hn]; simpa using this
    have e1 : vs.length / C = r := by
      rw [hle, Nat.add_comm, Nat.add_mul_div_right _ _ (by omega), Nat.div_eq_of_lt hc, Nat.zero_add]
    have e2 : vs.length % C = c := by
      rw [hle, Nat.add_comm, Nat.add_mul_mod_self_right, Nat.mod_eq_of_lt hc]
    refine ⟨wr.heap.size + 1, 1, rfl, fun e => hg6 (wr.heap.size + 1) (by omega) (fun e' => by have := hlo _ e'; omega) (Option.some.inj e).symm, ?_⟩
    show (w6.setCell _ _).ownsRow _ _ 4 (.slice (some ⟨wr.heap.size + 1, 0, none⟩) 1 1) 1 (cellsC [⟨(vs.length / C : Nat), (vs.length % C : Nat), true, true⟩])
    rw [e1, e2]
    have hlit : ((wr.alloc o1).alloc (.cells #[.int .i64 r, .int .i64 c, .bool true, .bool true] 35)).ownsRow (w.heap.size + 2) 35 4 (.slice (some ⟨wr.heap.size + 1, 0, none⟩) 1 1) 1 (cellsC [⟨r, c, true, true⟩]) := by
      have := World.ownsRow_lit (base := w.heap.size + 2) (e := 35) (size := 4) (wr.alloc o1) #[.int .i64 r, .int .i64 c, .bool true, .bool true] 1 (by simp; omega) (by unfold maxLen; omega) rfl
      simpa [cellsC] using this
    exact ownsRow_of_block hlit ((hset _ (by omega) _).trans k2)
theorem nf_start (w : World) (R C T1 T2 : Nat) : NF w ((w.alloc (.cells #[.int .i64 R, .int .i64 C] T1)).alloc (.cells #[.int .i64 R, .int .i64 C, .slice none 0 0] T2)) R C 0 := by
  have s1 : (w.alloc (.cells #[.int .i64 R, .int .i64 C] T1)).heap.size = w.heap.size + 1 := by simp
  have hA : ∀ j, ((w.alloc (.cells #[.int .i64 R, .int .i64 C] T1)).alloc (.cells #[.int .i64 R, .int .i64 C, .slice none 0 0] T2)).cell? ⟨w.heap.size, j, none⟩ = (#[.int .i64 R, .int .i64 C] : Array Value)[j]? := fun j => by
    rw [World.cell?_of_block (a := ⟨w.heap.size, j, none⟩) (Below.heap_alloc (w.alloc (.cells #[.int .i64 R, .int .i64 C] T1)) _ w.heap.size (by omega))]
    exact World.cell?_alloc_mark w _ T1 (0, 0) j
  have hB : ∀ j, ((w.alloc (.cells #[.int .i64 R, .int .i64 C] T1)).alloc (.cells #[.int .i64 R, .int .i64 C, .slice none 0 0] T2)).cell? ⟨w.heap.size + 1, j, none⟩ = (#[.int .i64 R, .int .i64 C, .slice none 0 0] : Array Value)[j]? := fun j => by
    have := World.cell?_alloc_mark (w.alloc (.cells #[.int .i64 R, .int .i64 C] T1)) #[.int .i64 R, .int .i64 C, .slice none 0 0] T2 (0, 0) j
    rw [s1] at this
    exact this
  have hF : ∀ j, ((w.alloc (.cells #[.int .i64 R, .int .i64 C] T1)).alloc (.cells #[.int .i64 R, .int .i64 C, .slice none 0 0] T2)).frozen? ⟨w.heap.size + 1, j, none⟩ = false := fun j => by
    have := World.frozen?_alloc_mark (w.alloc (.cells #[.int .i64 R, .int .i64 C] T1)) #[.int .i64 R, .int .i64 C, .slice none 0 0] T2 0 0 j
    rw [s1] at this
    exact this.trans (by simp)
  exact ⟨hA 0, hA 1, hB 0, hB 1, hF 0, hF 1, hF 2, ((Below.refl _ w).alloc (Nat.le_refl _) _).alloc (by omega) _, .slice none 0 0, [], hB 2, .inl rfl, ⟨by simp, .inl ⟨rfl, rfl⟩⟩, fun i u hu => by simp at hu⟩
theorem nf_end {w wr : World} {R C : Nat} (h : NF w wr R C (R * C)) (hR : 1 ≤ R) (hC : 1 ≤ C) : FS wr w.heap.size (w.heap.size + 1) ⟨R, C, fun r c => [⟨r, c, true, true⟩]⟩ := by
  obtain ⟨v, vs, hv, hv2, hown, hos⟩ := h.st
  have hpos : 0 < R * C := Nat.mul_pos (by omega) (by omega)
  obtain ⟨g, cap, rfl, hg, _⟩ := own_form hown hpos
  refine ⟨h.c1, h.c2, h.f1, h.f2, h.f3, g, R * C, cap, vs, rfl, hv, by omega, by omega, own_mono hown (by omega), fun r c u hr hc hu => ?_⟩
  have hr : r < R := hr
  have hc : c < C := hc
  have hu : vs[r * C + c]? = some u := hu
  obtain ⟨g1, cap1, h1, hq, ho⟩ := hos _ u hu
  have e1 : (r * C + c) / C = r := by rw [Nat.add_comm, Nat.add_mul_div_right _ _ (by omega), Nat.div_eq_of_lt hc, Nat.zero_add]
  have e2 : (r * C + c) % C = c := by rw [Nat.add_comm, Nat.add_mul_mod_self_right, Nat.mod_eq_of_lt hc]
  have hgl := (ho.lt g1 rfl).1
  have ho' : wr.ownsRow (w.heap.size + 2) 35 4 (.slice (some ⟨g1, 0, none⟩) 1 cap1) 1 (cellsC [⟨((r * C + c) / C : Nat), ((r * C + c) % C : Nat), true, true⟩]) := ho
  rw [e1, e2] at ho'
  exact ⟨g1, cap1, h1, by show g1 ≠ w.heap.size + 1; omega, own_mono ho' (by omega)⟩
set_option maxRecDepth 100000 in
set_option maxHeartbeats 4000000 in
theorem newFoldSheet (R C : Nat) (w : World) (hR : 1 ≤ R) (hC : 1 ≤ C) (hR2 : R ≤ 32) (hC2 : C ≤ 32) (hRC : R * C ≤ 32) :
    Calls Try.prog 35 #[.agg #[.int .i64 R, .int .i64 C]] w fun e w' => ∃ S : Nat, e = .returned (.pointer (some ⟨S, 0, none⟩)) ∧ w.heap.size ≤ S ∧ FS w' w.heap.size S ⟨R, C, fun r c => [⟨r, c, true, true⟩]⟩ ∧ Below w.heap.size w w' := by
  obtain ⟨i0, hi0, hz0, hz1, hz2⟩ := info_parts infoLayers
  have HI := Lib.hid hi0; have HZ0 := Lib.hid hz0; have HZ1 := Lib.hid hz1; have HZ2 := Lib.hid hz2
  clear hi0 hz0 hz1 hz2
  go_enter Try.func35, Try.ntmps35
  go_wp2_with fail
  go_loopw [4] (fun i wr => ∃ r : Nat, r ≤ R ∧ i = .int .i64 r ∧ NF w wr R C (r * C)) (fun i _ => R - (intOf i).toNat)
  case atStart => exact ⟨0, Nat.zero_le _, rfl, by rw [Nat.zero_mul]; exact nf_start w R C _ _⟩
  case round =>
    obtain ⟨r, hr, rfl, hN⟩ := hrel
    obtain ⟨wo, rfl⟩ : ∃ wo : World, wo = wr := ⟨_, rfl⟩
    have HN := Lib.hid hN
    have b1 := hN.a1
    have b2 := hN.a2
    clear hN
    by_cases hlt : r < R
    · go_wp2_with fail
      go_loopw [5] (fun i wr => ∃ c : Nat, c ≤ C ∧ i = .int .i64 c ∧ Hid (NF w wr R C (r * C + c))) (fun i _ => C - (intOf i).toNat)
      case atStart => exact ⟨0, Nat.zero_le _, rfl, HN⟩
      case round =>
        obtain ⟨c, hc, rfl, HN2⟩ := hrel
        clear b1 b2
        have ⟨a1, a2, c1, c2, f1, f2, f3, hbel, v, vs, hv, hv2, hown, hos⟩ := HN2.out
        have hzr := hbel.size
        by_cases hlc : c < C
        · have HOS := Lib.hid hos
          have HV2 := Lib.hid hv2
          clear hos hv2
          have hl1 : w.heap.size + 1 < wr.heap.size := World.block_lt_of_cell? wr _ c1
          have hl2 : w.heap.size + 1 ≠ wr.heap.size := by omega
          have hl3 := nf_far (.cells #[.int .i64 r, .int .i64 c, .bool true, .bool true] 35) (.cells #[.int .i64 r, .int .i64 c, .bool true, .bool true] 35) (w := w) (wr := wr) hv hl1
          have hl4 := nf_far2 (.cells #[.int .i64 r, .int .i64 c, .bool true, .bool true] 35) (.cells #[.int .i64 r, .int .i64 c, .bool true, .bool true] 35) (.cells #[.slice (some ⟨wr.heap.size + 1, 0, none⟩) 1 1] 63) (w := w) (wr := wr) hv hl1
          go_wp2_with fail
          have HCN : Hid (∀ j u, [Value.slice (some ⟨wr.heap.size + 1, 0, none⟩) 1 1][j]? = some u → (((wr.alloc (.cells #[.int .i64 r, .int .i64 c, .bool true, .bool true] 35)).alloc (.cells #[.int .i64 r, .int .i64 c, .bool true, .bool true] 35)).alloc (.cells #[.slice (some ⟨wr.heap.size + 1, 0, none⟩) 1 1] 63)).drew.cell? ((⟨wr.heap.size + 1 + 1, 0, none⟩ : Addr).add j) = some u) := by
            have := cells_new1 ((wr.alloc (.cells #[.int .i64 r, .int .i64 c, .bool true, .bool true] 35)).alloc (.cells #[.int .i64 r, .int .i64 c, .bool true, .bool true] 35)) (.slice (some ⟨wr.heap.size + 1, 0, none⟩) 1 1) 63
            rwa [show ((wr.alloc (.cells #[.int .i64 r, .int .i64 c, .bool true, .bool true] 35)).alloc (.cells #[.int .i64 r, .int .i64 c, .bool true, .bool true] 35)).heap.size = wr.heap.size + 1 + 1 from by simp] at this
          have hbd : r * C + c + 1 ≤ 1100 := by
            have := Nat.mul_le_mul hr hC2
            omega
          go_region_law ((refine step_append_lies _ (by rfl) _ _ _ (by rfl) (w.heap.size + 2) 63 i0 _ 1 24 Try.underlying80 HI.out HZ0.out HZ1.out HZ2.out rfl (by omega) v (r * C + c) vs (by rfl) (((hown.alloc _).alloc _).alloc _) ⟨wr.heap.size + 1 + 1, 0, none⟩ 1 1 [.slice (some ⟨wr.heap.size + 1, 0, none⟩) 1 1] (by rfl) (by rfl) HCN.out (by simp [Value.oneCell']) (by omega) (by unfold maxLen; omega) (by omega) (by simp; omega) (wr.heap.size + 1 + 1 + 1) (by simp) ?_; intro g6 cap6 w6 hown6 hgr6 hat6 hlt6; obtain ⟨d1, d2⟩ := nf_cell HN2.out hv hgr6))
          all_goals
            clear hl2 hl3 hl4
            go_wp2_with fail
            go_roundw
            case rel => exact ⟨c + 1, by omega, by go_num, nf_step HN2.out rfl hlc hv hown HOS.out hgr6 hown6 hat6⟩
            case measure => simp [intOf]; omega
        · obtain rfl : c = C := by omega
          have HN3 : Hid (NF w wr R c ((r + 1) * c)) := by
            show NF _ _ _ _ _
            rw [Nat.succ_mul]
            exact HN2.out
          clear hv hown hos
          go_wp2_with fail
          go_roundw
          case rel => exact ⟨r + 1, by omega, by go_num, HN3.out⟩
          case measure => simp [intOf]; omega
    · obtain rfl : r = R := by omega
      go_wp2_with fail
      go_ret
      exact ⟨w.heap.size + 1, rfl, by omega, nf_end HN.out hR hC, HN.out.b⟩
end Go.Proofs.Ytdgkjlehofkooaa
