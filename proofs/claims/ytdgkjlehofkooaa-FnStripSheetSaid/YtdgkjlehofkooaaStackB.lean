/- The walks of the reference's folding of a grid of stacks. Conditions: each theorem's own premises. -/
import Derived.Test.YtdgkjlehofkooaaStackA
namespace Go.Proofs.Ytdgkjlehofkooaa
set_option maxRecDepth 100000
open Go.RowKit
/-- A value is a stack of cells, in a block that p allows. -/
def StackV (w : World) (p : Nat → Prop) (v : Value) (a : List Cel) : Prop := ∃ k ck : Nat, v = .slice (some ⟨k, 0, none⟩) a.length ck ∧ RowC w k a ∧ p k
/-- A value is a line of C stacks. -/
def LineV (w : World) (p : Nat → Prop) (v : Value) (C : Nat) (f : Nat → List Cel) : Prop := ∃ g cap : Nat, v = .slice (some ⟨g, 0, none⟩) C cap ∧ p g ∧ g < w.heap.size ∧ ∀ c, c < C → ∃ u, w.cell? ⟨g, c, none⟩ = some u ∧ StackV w p u (f c)
/-- A value is a grid of R lines of C stacks. -/
def GridV (w : World) (p : Nat → Prop) (v : Value) (R C : Nat) (f : Nat → Nat → List Cel) : Prop := ∃ g cap : Nat, v = .slice (some ⟨g, 0, none⟩) R cap ∧ p g ∧ g < w.heap.size ∧ ∀ r, r < R → ∃ u, w.cell? ⟨g, r, none⟩ = some u ∧ LineV w p u C (f r)
/-- Every block. -/
def anyB (_ : Nat) : Prop := True
/-- A block from lo on, another one than g. -/
def inB (lo g k : Nat) : Prop := lo ≤ k ∧ k ≠ g
theorem StackV.keep {w w' : World} {p q : Nat → Prop} {v : Value} {a : List Cel} (h : StackV w p v a) (hk : ∀ k, k < w.heap.size → p k → w'.heap[k]? = w.heap[k]? ∧ q k) : StackV w' q v a := by
  obtain ⟨k, ck, hv, hr, hp⟩ := h
  have := hk k hr.1 hp
  exact ⟨k, ck, hv, hr.keep this.1, this.2⟩
theorem size_of_block {w w' : World} {g : Nat} (h : w'.heap[g]? = w.heap[g]?) (hg : g < w.heap.size) : g < w'.heap.size := by
  rw [Array.getElem?_eq_getElem hg] at h
  exact (Array.getElem?_eq_some_iff.1 h).1
theorem LineV.keep {w w' : World} {p q : Nat → Prop} {v : Value} {C : Nat} {f : Nat → List Cel} (h : LineV w p v C f) (hk : ∀ k, k < w.heap.size → p k → w'.heap[k]? = w.heap[k]? ∧ q k) : LineV w' q v C f := by
  obtain ⟨g, cap, hv, hp, hg, hr⟩ := h
  have hh := hk g hg hp
  refine ⟨g, cap, hv, hh.2, size_of_block hh.1 hg, fun c hc => ?_⟩
  obtain ⟨u, hu, hs⟩ := hr c hc
  exact ⟨u, (World.cell?_of_block (a := ⟨g, c, none⟩) hh.1).trans hu, hs.keep hk⟩
theorem GridV.keep {w w' : World} {p q : Nat → Prop} {v : Value} {R C : Nat} {f : Nat → Nat → List Cel} (h : GridV w p v R C f) (hk : ∀ k, k < w.heap.size → p k → w'.heap[k]? = w.heap[k]? ∧ q k) : GridV w' q v R C f := by
  obtain ⟨g, cap, hv, hp, hg, hr⟩ := h
  have hh := hk g hg hp
  refine ⟨g, cap, hv, hh.2, size_of_block hh.1 hg, fun c hc => ?_⟩
  obtain ⟨u, hu, hs⟩ := hr c hc
  exact ⟨u, (World.cell?_of_block (a := ⟨g, c, none⟩) hh.1).trans hu, hs.keep hk⟩
/-- What new blocks leave as it was. -/
theorem kept_below {w w' : World} {B : Nat} (p : Nat → Prop) (hb : Below B w w') (hB : w.heap.size ≤ B) : ∀ k, k < w.heap.size → p k → w'.heap[k]? = w.heap[k]? ∧ p k := fun k hk hp => ⟨hb.block k (by omega), hp⟩
/-- The place that stays, and the one that moves onto it. -/
def stays (fst : Bool) (half i : Nat) : Nat := if fst then half + i else i
def moves (fst : Bool) (half i : Nat) : Nat := if fst then half - 1 - i else 2 * half - 1 - i
def foldW (fst un : Bool) (half : Nat) (f : Nat → Nat → List Cel) : Nat → Nat → List Cel := fun r c => putC un false (f r (stays fst half c)) (f r (moves fst half c))
def foldH (fst un : Bool) (half : Nat) (f : Nat → Nat → List Cel) : Nat → Nat → List Cel := fun r c => putC un true (f (stays fst half r) c) (f (moves fst half r) c)
/-- A list of values: the i-th one is a stack, as f says. -/
def Vs (w : World) (p : Nat → Prop) (vs : List Value) (f : Nat → List Cel) : Prop := ∀ i u, vs[i]? = some u → StackV w p u (f i)
/-- A list of values: the i-th one is a line, as f says. -/
def Ls (w : World) (p : Nat → Prop) (vs : List Value) (C : Nat) (f : Nat → Nat → List Cel) : Prop := ∀ i u, vs[i]? = some u → LineV w p u C (f i)
theorem snoc_get {vs : List Value} {u x : Value} {i : Nat} (hx : (vs ++ [u])[i]? = some x) : vs[i]? = some x ∨ (i = vs.length ∧ u = x) := by
  by_cases hi : i < vs.length
  · rw [List.getElem?_append_left hi] at hx
    exact .inl hx
  · rw [List.getElem?_append_right (by omega)] at hx
    have h0 : i - vs.length = 0 := by
      by_cases e : i - vs.length = 0
      · exact e
      · rw [List.getElem?_eq_none (by simp; omega)] at hx
        simp at hx
    rw [h0] at hx
    exact .inr ⟨by omega, by simpa using hx⟩
/-- A stack has been put onto a line in the making: first a call has made it, then the append. -/
theorem line_snoc {lo m g2 g5 g6 cap5 T : Nat} {wr w5 w6 : World} {C : Array Value} {v : Value} {us : List Value} {F : Nat → List Cel} {a : List Cel} (hv : Vs wr (inB lo g2) us F) (hus : us.length = m) (ha : a = F m)
    (hb5 : Below wr.heap.size wr w5) (hg5 : wr.heap.size ≤ g5) (hr5 : RowC w5 g5 a) (hgr : (w5.alloc (.cells C T)).grownBy w6 v.ownBlock) (hvo : v.ownBlock = some g2) (hat : v.ownBlock = some g6 ∨ g6 = w5.heap.size + 1)
    (hlo : lo ≤ wr.heap.size) (hg2 : lo ≤ g2) (hg2l : g2 < wr.heap.size) :
    Vs w6 (inB lo g6) (us ++ [.slice (some ⟨g5, 0, none⟩) a.length cap5]) F ∧ Below lo wr w6 ∧ lo ≤ g6 := by
  rw [hvo] at hgr hat
  have hz5 := hb5.size
  have hk : ∀ k, k < w5.heap.size → k ≠ g2 → w6.heap[k]? = w5.heap[k]? := fun k h1 h2 =>
    (hgr.block k (by simp; omega) (by intro e; injection e; omega)).trans (Below.heap_alloc w5 _ k h1)
  have hg6 : g6 = g2 ∨ g6 = w5.heap.size + 1 := by
    rcases hat with h | h
    · exact .inl (Option.some.inj h).symm
    · exact .inr h
  refine ⟨fun i u hu => ?_, ?_, by omega⟩
  · rcases snoc_get hu with h | ⟨rfl, rfl⟩
    · refine (hv i u h).keep fun k h1 h2 => ⟨(hk k (by omega) h2.2).trans (hb5.block k h1), h2.1, ?_⟩
      have := h2.2
      omega
    · rw [hus, ← ha]
      exact ⟨g5, cap5, rfl, hr5.keep (hk g5 hr5.1 (by omega)), by omega, by have := hr5.1; omega⟩
  · exact (hb5.mono hlo).trans (below_grown_at' ((Below.refl _ w5).alloc (by omega) _) hgr (by simp; omega) hg2)
theorem line_put {lo wz m g2 cap2 g5 cap5 : Nat} {wr w5 : World} {us : List Value} {a : List Cel} (hb : Below wr.drew.heap.size wr.drew w5) (ho : w5.ownsRow wr.drew.heap.size 35 4 (.slice (some ⟨g5, 0, none⟩) a.length cap5) a.length (cellsC a)) (hw : wz = wr.heap.size) (hlo : lo ≤ wz) (hg : wr.drew.heap.size ≤ g5)
    (hown : wr.ownsRow lo 31 1 (.slice (some ⟨g2, 0, none⟩) m cap2) m us) :
    Below wr.heap.size wr w5 ∧ w5.ownsRow lo 31 1 (.slice (some ⟨g2, 0, none⟩) m cap2) m us ∧ RowC w5 g5 a ∧ wr.heap.size ≤ w5.heap.size ∧ wr.heap.size ≤ g5 ∧ Below lo wr w5 := by
  subst hw
  have hb' : Below wr.heap.size wr w5 := (Below.drew (Below.refl _ wr)).trans hb
  exact ⟨hb', ownsRow_of_block hown (hb'.block g2 (hown.lt g2 rfl).2), RowC.of_own ho, hb'.size, hg, hb'.mono hlo⟩
theorem infoStack : (Try.prog.info? 31).map (fun i => (i.zero, i.size, i.bytes)) = some (some (.slice none 0 0), 1, 24) := by kernel_rfl
theorem infoLine : (Try.prog.info? 87).map (fun i => (i.zero, i.size, i.bytes)) = some (some (.slice none 0 0), 1, 24) := by kernel_rfl
/-- A grid has come back. -/
def GridBack (w : World) (R C : Nat) (f : Nat → Nat → List Cel) (e : Ending) (w' : World) : Prop := ∃ v, e = .returned v ∧ GridV w' anyB v R C f ∧ Below w.heap.size w w'
theorem cells_new1 (w : World) (a : Value) (T : TypeId) : ∀ j u, [a][j]? = some u → (w.alloc (.cells #[a] T)).cell? ((⟨w.heap.size, 0, none⟩ : Addr).add j) = some u := by
  intro j u h
  rw [addr_add]
  refine (World.cell?_alloc_mark w _ T (0, 0) j).trans ?_
  simpa using h
/-- A line has been put onto a grid in the making. -/
theorem grid_snoc {lo k C g' g2 g6 cap2 T : Nat} {wo wr w6 : World} {Cs : Array Value} {v : Value} {vs us : List Value} {F : Nat → Nat → List Cel} {e : TypeId} (hl : Ls wo (fun k => k ≠ g') vs C F) (hvs : vs.length = k)
    (hb : Below wo.heap.size wo wr) (hown2 : wr.ownsRow wo.heap.size e 1 (.slice (some ⟨g2, 0, none⟩) C cap2) C us) (hv : Vs wr (inB wo.heap.size g2) us (F k)) (hus : us.length = C)
    (hgr : (wr.alloc (.cells Cs T)).grownBy w6 v.ownBlock) (hvo : v.ownBlock = some g') (hat : v.ownBlock = some g6 ∨ g6 = wr.heap.size + 1)
    (hlo : lo ≤ wo.heap.size) (hg' : lo ≤ g') (hgl' : g' < wo.heap.size) (hg2 : wo.heap.size ≤ g2) :
    Ls w6 (fun k => k ≠ g6) (vs ++ [.slice (some ⟨g2, 0, none⟩) C cap2]) C F ∧ Below lo wo w6 ∧ lo ≤ g6 := by
  rw [hvo] at hgr hat
  have hz := hb.size
  have hk : ∀ k, k < wr.heap.size → k ≠ g' → w6.heap[k]? = wr.heap[k]? := fun k h1 h2 =>
    (hgr.block k (by simp; omega) (by intro e; injection e; omega)).trans (Below.heap_alloc wr _ k h1)
  have hg6 : g6 = g' ∨ g6 = wr.heap.size + 1 := by
    rcases hat with h | h
    · exact .inl (Option.some.inj h).symm
    · exact .inr h
  have hg2l := (hown2.lt g2 rfl).2
  refine ⟨fun i u hu => ?_, ?_, by omega⟩
  · rcases snoc_get hu with h | ⟨rfl, rfl⟩
    · refine (hl i u h).keep fun k h1 h2 => ⟨(hk k (by omega) h2).trans (hb.block k h1), ?_⟩
      have h2 : k ≠ g' := h2
      show k ≠ g6
      omega
    · rw [hvs]
      refine ⟨g2, cap2, rfl, by show g2 ≠ g6; omega, size_of_block (hk g2 hg2l (by omega)) hg2l, fun c hc => ?_⟩
      have hx : us[c]? = some (us[c]'(by omega)) := List.getElem?_eq_getElem _
      refine ⟨us[c]'(by omega), (World.cell?_of_block (a := ⟨g2, c, none⟩) (hk g2 hg2l (by omega))).trans (own_at hown2 hx), ?_⟩
      refine (hv c _ hx).keep fun k h1 h2 => ?_
      have h3 := h2.1
      exact ⟨hk k h1 (by omega), by show k ≠ g6; omega⟩
  · exact (hb.mono hlo).trans (below_grown_at' ((Below.refl _ wr).alloc (by omega) _) hgr (by simp; omega) hg')
end Go.Proofs.Ytdgkjlehofkooaa
