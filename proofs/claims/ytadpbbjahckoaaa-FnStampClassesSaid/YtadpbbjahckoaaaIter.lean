/- A range over a function whose elements are rows of integers in memory: the iterator's contract and the law of the statement, for rounds that always go on. Conditions: each theorem's own premises. -/
import Derived.RangeFuncNested
import Derived.RangeFuncBound
import Derived.RangeFuncCalls
import Derived.RangeFuncLeaves
import Derived.Shelf.Abstract
import Derived.OwnWalkIn
import Derived.TacticsInMore
import Derived.LoopNIn
import Derived.LoopIn
import Derived.Test.YtadpbbjahckoaaaStampK
namespace Go.Proofs.Ytadpbbjahckoaaa
set_option maxRecDepth 100000
open Go.RowKit
/-- What a round keeps: the blocks of S, but q. -/
def KeptBut (S : Nat → Prop) (q : Nat) (W W' : World) : Prop := W.heap.size ≤ W'.heap.size ∧ ∀ k, S k → k < W.heap.size → k ≠ q → W'.heap[k]? = W.heap[k]?
theorem KeptBut.refl (S : Nat → Prop) (q : Nat) (W : World) : KeptBut S q W W := ⟨Nat.le_refl _, fun _ _ _ _ => rfl⟩
/-- An invariant does not mind what an iterator turns between two rounds: blocks from B on that hold no cells. -/
def Stays (B : Nat) (J : List RD → Nat → World → Prop) : Prop :=
  ∀ pre q A C row, J pre q A → A.grownBy C row → (∀ r, row = some r → B ≤ r ∧ ∃ o : Obj, A.heap[r]? = some o ∧ o.isCells = false) → J pre q C
theorem Stays.alloc {B : Nat} {J : List RD → Nat → World → Prop} (h : Stays B J) {pre : List RD} {q : Nat} {A : World} (o : Obj) (hs : J pre q A) : J pre q (A.alloc o) :=
  h pre q A _ none hs (World.grownBy_alloc A o none) (fun r e => by cases e)
theorem Stays.putObj {B : Nat} {J : List RD → Nat → World → Prop} (h : Stays B J) {pre : List RD} {q : Nat} {A : World} {l : Nat} {o : Obj} (o' : Obj) (hs : J pre q A) (hB : B ≤ l) (hl : A.heap[l]? = some o) (ho : o.isCells = false) : J pre q (A.putObj l o') :=
  h pre q A _ (some l) hs (grownBy_putObj' A l o') (fun r e => by cases e; exact ⟨hB, o, hl, ho⟩)
/-- The contract of an iterator that gives the lists Ks, each in a row of its own, to rounds that always go on. -/
def SeqStk (P : Program) (g : Nat) (lb : Array Value) (Ks : List (List Int)) (keep : Nat → Prop) (w : World) : Prop :=
  ∀ (l q0 : Nat) (J : List RD → Nat → World → Prop) (W : World), Below w.heap.size w W → q0 < W.heap.size → ¬ keep q0 → Stays W.heap.size J →
    (∀ pre q x W1, J pre q W1 → pre.map RD.xs = Ks.take pre.length → Ks[pre.length]? = some x.xs → x.cap = x.xs.length → BufI W1 x.g x.xs → W.heap.size ≤ x.g → x.g ≠ q → q < W1.heap.size → W.heap.size ≤ W1.heap.size →
      YieldAt Fence.wide 0 P l #[x.v] W1 fun e W' => e = .returned (.bool true) ∧ ∃ q', J (pre ++ [x]) q' W' ∧ (q' = q ∨ W1.heap.size ≤ q') ∧ q' < W'.heap.size ∧ KeptBut (fun k => W.heap.size ≤ k ∨ keep k) q W1 W') →
    J [] q0 W →
    CallsIn Fence.wide 0 P g (#[.func (.yield l) #[] #[]] ++ lb) W fun e W' => (∃ v, e = .returned v) ∧ ∃ rs q, rs.map RD.xs = Ks ∧ J rs q W'
/-- How the body of a round is left: off its end. -/
def stkPost (S : Nat → Prop) (q : Nat) (I : List RD → Nat → World → Prop) (xs : List RD) (W : World) : Exit → Act → World → Prop
  | .normal, _, W' => ∃ q', I xs q' W' ∧ (q' = q ∨ W.heap.size ≤ q') ∧ q' < W'.heap.size ∧ KeptBut S q W W'
  | _, _, _ => False
theorem range_stk {P : Program} {g : Operand} {ps : Array Tmp} {assign body : Code} {Q : Exit → Act → World → Prop} {a : Act} {w : World} {gf : Nat} {lb : Array Value} (hg : a.eval g = .func (.func gf) #[] lb) (eg : ∀ args w, (callFunc gf args).run P w = .ok (.enter gf args) w)
    {Ks : List (List Int)} {keep : Nat → Prop} {w0 : World} (hseq : SeqStk P gf lb Ks keep w0) (hb0 : Below w0.heap.size w0 w) (hps : ps.size = 1) (q0 : Nat) (hq0 : q0 < w.heap.size) (hqk : ¬ keep q0)
    (I : List RD → Nat → World → Prop) (hI : Stays w.heap.size I) (h0 : I [] q0 w) (a₁ : RD → Act)
    (hassign : ∀ (l : Nat) (x : RD) (W : World) (K : Act → World → Prop), K (a₁ x) W → assign.wpIn (Fence.wide.inRound l) 0 P (Exit.then K (fun _ _ _ => False)) { tmps := (ps.zip #[x.v]).foldl (fun t (p, v) => t.setIfInBounds p v) a.tmps, defers := [] } W)
    (hbody : ∀ (l : Nat) (pre : List RD) (q : Nat) (x : RD) (W : World), I pre q W → pre.map RD.xs = Ks.take pre.length → Ks[pre.length]? = some x.xs → x.cap = x.xs.length → BufI W x.g x.xs → w.heap.size ≤ x.g → x.g ≠ q → q < W.heap.size → w.heap.size ≤ W.heap.size →
      body.wpIn (Fence.wide.inRound l) 0 P (stkPost (fun k => w.heap.size ≤ k ∨ keep k) q I (pre ++ [x]) W) (a₁ x) W)
    (hdone : ∀ (D q : Nat) (rs : List RD) (W : World), w.heap.size ≤ D → rs.map RD.xs = Ks → I rs q W → W.heap[D]? = some (.deferred (some [])) → Q .normal { a with defers := { target := .collected D, args := #[] } :: a.defers } W) :
    (Code.rangeFunc g ps assign body).wpIn Fence.wide 0 P Q a w := by
  refine wpIn_rangeFunc ?_
  intro fn hfn
  show ∃ (l : Nat) (mark : List Deferred) (w₁ : World) (d : Deferred) (w₁' : World) (f : FuncId) (args : Array Value) (w₂ : World), (Instr.enterLoop fn a.tmps ps assign body none).run P w = .ok (l, mark) w₁ ∧ _
  obtain ⟨rec, hrec⟩ : ∃ rec : LoopState → Option Code → Loop, rec = fun st pe => { state := st, pending := pe, fn, tmps := a.tmps, params := ps, assign, body, defers := w.heap.size } := ⟨_, rfl⟩
  obtain ⟨W1, hW1⟩ : ∃ W1, (w.alloc (.deferred (some []))).alloc (.loop (rec .ready none)) = W1 := ⟨_, rfl⟩
  have hL1 : W1.heap[w.heap.size + 1]? = some (.loop (rec .ready none)) := by
    rw [← hW1]; have := World.alloc_heap_new (w.alloc (.deferred (some []))) (.loop (rec .ready none)); rwa [World.size_alloc] at this
  have hK1 : W1.heap[w.heap.size]? = some (.deferred (some [])) := by
    rw [← hW1]; exact (Below.heap_alloc _ _ _ (by simp)).trans (World.alloc_heap_new w _)
  have hz1 : W1.heap.size = w.heap.size + 2 := by rw [← hW1]; simp
  have hI1 : I [] q0 W1 := by rw [← hW1]; exact hI.alloc _ (hI.alloc _ h0)
  have hb1 : Below w0.heap.size w0 W1 := by
    rw [← hW1]; exact hb0.trans ((((Below.refl _ w).alloc (Nat.le_refl _) _).alloc (by simp) _).mono hb0.size)
  refine ⟨w.heap.size + 1, [{ target := .collected w.heap.size, args := #[] }], W1, { target := .fn (.func gf) lb, args := #[.func (.yield (w.heap.size + 1)) #[] #[]] }, W1, gf,
    #[.func (.yield (w.heap.size + 1)) #[] #[]] ++ lb, W1, ?_, ?_, ?_, ?_, fun h => (by cases h), ?_⟩
  · rw [← hW1, hrec]; exact run_enterLoop_outer _ _ _ _ _
  · simp only [resolve, hg]
    simp [go_sem]
  · intro f' _; trivial
  · simp [invoke, go_sem, eg]
  · refine (hseq (w.heap.size + 1) q0
      (fun pre q W => I pre q W ∧ W.heap[w.heap.size + 1]? = some (.loop (rec .ready none)) ∧ W.heap[w.heap.size]? = some (.deferred (some [])) ∧ q ≠ w.heap.size ∧ q ≠ w.heap.size + 1)
      W1 hb1 (by omega) hqk
      (fun pre q A C row hs hgr hr => ⟨hI pre q A C row hs.1 hgr (fun r e => ⟨by have := (hr r e).1; omega, (hr r e).2⟩), (hgr.block _ (Array.getElem?_eq_some_iff.1 hs.2.1).1 (fun e => by have := (hr _ e.symm).1; omega)).trans hs.2.1, (hgr.block _ (Array.getElem?_eq_some_iff.1 hs.2.2.1).1 (fun e => by have := (hr _ e.symm).1; omega)).trans hs.2.2.1, hs.2.2.2⟩)
      ?_ ⟨hI1, hL1, hK1, by omega, by omega⟩).mono ?_
    · rintro pre q x W ⟨hi, hl, hk, hq1, hq2⟩ hpre hx hcap hrow hxg hxq hqW hWW
      have hlt : w.heap.size + 1 < W.heap.size := (Array.getElem?_eq_some_iff.1 hl).1
      have hy := run_yield (P := P) (args := #[x.v]) hl (by rw [hrec]; exact hps.symm)
      rw [hrec] at hy
      refine ⟨fn, _, assign, body, hy, roundIn_of_wpIn hfn (hassign _ x W _ ⟨_, run_beginRound hl (by rw [hrec]), ?_⟩)⟩
      have hl2 : (W.putObj (w.heap.size + 1) (.loop { rec .ready none with state := .busy })).heap[w.heap.size + 1]? = some (.loop { rec .ready none with state := .busy }) := World.putObj_heap_same hlt
      have hk2 : (W.putObj (w.heap.size + 1) (.loop { rec .ready none with state := .busy })).heap[w.heap.size]? = some (.deferred (some [])) := (World.putObj_heap_other (by omega)).trans hk
      have hzz : (W.putObj (w.heap.size + 1) (.loop { rec .ready none with state := .busy })).heap.size = W.heap.size := by simp
      refine wpIn_mono (hbody _ pre q x _ (hI.putObj _ hi (by omega) hl rfl) hpre hx hcap (hrow.keep (World.putObj_heap_other (by omega))) (by omega) hxq (by simp; omega) (by simp; omega)) ?_
      rintro e a3 W3 hp
      cases e with
      | normal =>
        obtain ⟨q', hi3, hq', hq3, hz3, hk3⟩ := hp
        have hsz : ∀ o, (W.putObj (w.heap.size + 1) o).heap.size = W.heap.size := fun o => by simp
        rw [hsz] at hq' hz3 hk3
        have hl3 := (hk3 (w.heap.size + 1) (.inl (by omega)) (by omega) (by omega)).trans hl2
        have hd3 := (hk3 w.heap.size (.inl (Nat.le_refl _)) (by omega) (by omega)).trans hk2
        have hr := run_endRound (P := P) none hl3
        have hl4 : (W3.putObj (w.heap.size + 1) (.loop (rec .ready none))).heap[w.heap.size + 1]? = some (.loop (rec .ready none)) := World.putObj_heap_same (Array.getElem?_eq_some_iff.1 hl3).1
        refine ⟨_, _, ?_, rfl, q', ⟨hI.putObj (l := w.heap.size + 1) (.loop (rec .ready none)) hi3 (by omega) hl3 rfl, hl4, (World.putObj_heap_other (by omega)).trans hd3, by omega, by omega⟩, by omega, by simp; omega, ?_⟩
        · rw [hrec] at hr ⊢
          exact hr
        · refine ⟨by simp; omega, fun k hk hkl hkq => ?_⟩
          by_cases e : k = w.heap.size + 1
          · rcases hk with hk | hk
            · omega
            · rw [e, hl4, hl]
          · refine (World.putObj_heap_other (by omega)).trans ((hk3 k ?_ (by omega) hkq).trans (World.putObj_heap_other (by omega)))
            rcases hk with hk | hk
            · exact .inl (by omega)
            · exact .inr hk
      | ret => exact hp.elim
      | exit id => exact hp.elim
      | goto t => exact hp.elim
      | panic ch => exact hp.elim
      | outgrown => exact hp.elim
    · rintro e W2 ⟨⟨v, rfl⟩, rs, q, hS, hi, hl, hk, _⟩
      exact ⟨none, _, by have := run_endLoop (P := P) hl (by rw [hrec]; simp); rw [hrec] at this; exact this, hdone _ q rs _ (Nat.le_refl _) hS (hI.putObj _ hi (by omega) hl rfl) ((World.putObj_heap_other (by omega)).trans hk)⟩
end Go.Proofs.Ytadpbbjahckoaaa
