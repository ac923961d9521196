/- The walks of inside, crossed and right of the program. Conditions: each theorem's own premises. -/
import Derived.Test.YtadpbbjahckoaaaStripA
import Derived.Deep.CutRange
namespace Go.Proofs.Ytadpbbjahckoaaa
set_option maxRecDepth 100000
open Go.RowKit
/-- A fold of parts laid flat. -/
structure Fd where
  a : Nat
  b : Nat
  p : Int
  h : Bool
/-- Block g reads as these folds. -/
def RowF (w : World) (g : Nat) (fs : List Fd) : Prop := g < w.heap.size ∧ ∀ (k : Nat) (f : Fd), fs[k]? = some f →
  w.cell? ⟨g, k * 4, none⟩ = some (.int .i64 f.a) ∧ w.cell? ⟨g, k * 4 + 1, none⟩ = some (.int .i64 f.b) ∧ w.cell? ⟨g, k * 4 + 2, none⟩ = some (.int .i64 f.p) ∧ w.cell? ⟨g, k * 4 + 3, none⟩ = some (.bool f.h)
theorem RowF.below {w w' : World} {g B : Nat} {fs : List Fd} (h : RowF w g fs) (hb : Below B w w') (hg : g < B) : RowF w' g fs := by
  have c := fun j => hb.cell (p := ⟨g, j, none⟩) hg
  refine ⟨?_, fun k f hf => ?_⟩
  · have h1 := h.1
    have hk := hb.block g hg
    rw [Array.getElem?_eq_getElem h1] at hk
    exact (Array.getElem?_eq_some_iff.1 hk).1
  · obtain ⟨a1, a2, a3, a4⟩ := h.2 k f hf
    exact ⟨(c _).trans a1, (c _).trans a2, (c _).trans a3, (c _).trans a4⟩
theorem getD_some {xs : List Int} {i : Nat} (h : i < xs.length) : xs[i]? = some (xs.getD i 0) := by
  rw [List.getD_eq_getElem?_getD, List.getElem?_eq_getElem h]
  rfl
set_option maxHeartbeats 1000000 in
theorem inside (F gp m cp : Nat) (pl : List Int) (place : Int) (part : Nat) (w : World) (h1 : w.cell? ⟨F, 1, none⟩ = some (.slice (some ⟨gp, 0, none⟩) m cp)) (hr : RowI w gp pl) (hm : pl.length = m) (hp : part + 1 < m) (hb : m ≤ 1000) :
    Calls Try.prog 76 #[.pointer (some ⟨F, 0, none⟩), .int .i64 place, .int .i64 part] w fun e w' => e = .returned (.bool (btw place (pl.getD part 0) (pl.getD (part + 1) 0))) ∧ Below w.heap.size w w' := by
  have c1 := hr.2 part _ (getD_some (by omega))
  obtain ⟨q, hq⟩ : ∃ q, q = part + 1 := ⟨_, rfl⟩
  rw [← hq]
  have c2 := hr.2 q _ (getD_some (by omega))
  obtain ⟨A, hA⟩ : ∃ A, A = pl.getD part 0 := ⟨_, rfl⟩
  obtain ⟨B, hB⟩ : ∃ B, B = pl.getD q 0 := ⟨_, rfl⟩
  rw [← hA] at c1 ⊢
  rw [← hB] at c2 ⊢
  obtain ⟨X, hX⟩ : ∃ X, X = btw place A B := ⟨_, rfl⟩
  have C1 : ∀ w, Calls Try.prog 57 #[.int .i64 place, .int .i64 A, .int .i64 B] w fun e w' => e = .returned (.bool X) ∧ w = w' := fun w => by rw [hX]; exact isBetween place A B w
  rw [← hX]
  have HC1 := Lib.hid C1
  have f1 : IntKind.i64.wrap ((part : Int) + 1) = (q : Int) := by rw [IntKind.wrap_i64]; omega
  have n0 : (0 : Int) ≤ (part : Int) := by omega
  have n1 : (part : Int) < (m : Int) := by omega
  have n2 : (0 : Int) ≤ (q : Int) := by omega
  have n3 : (q : Int) < (m : Int) := by omega
  clear C1 hX hA hB hq hr hm hp hb
  go_enter Try.func76, Try.ntmps76
  go_wp2
  go_quiet ((go_at_call 57; exact quiet_left (HC1.out _)))
  go_wp2
  go_ret
  exact ⟨rfl, below_drewN (Below.refl _ _) _⟩
/-- Whether two folds cross. -/
def crossedL (f o : Fd) (lv : List Int) : Bool :=
  if f.p = o.p ∧ f.b % 2 = o.b % 2 then btw (lv.getD o.a 0) (lv.getD f.a 0) (lv.getD f.b 0) != btw (lv.getD o.b 0) (lv.getD f.a 0) (lv.getD f.b 0) else false
def fdV (f : Fd) : Value := .agg #[.int .i64 f.a, .int .i64 f.b, .int .i64 f.p, .bool f.h]
set_option maxRecDepth 100000 in
set_option maxHeartbeats 2000000 in
theorem crossed (f o : Fd) (g n c : Nat) (lv : List Int) (w : World) (hn : lv.length = n) (_hn2 : n ≤ 1000) (hr : RowI w g lv) (f1 : f.a < n) (f2 : f.b < n) (o1 : o.a < n) (o2 : o.b < n) :
    Calls Try.prog 77 #[.agg #[.int .i64 f.a, .int .i64 f.b, .int .i64 f.p, .bool f.h], .agg #[.int .i64 o.a, .int .i64 o.b, .int .i64 o.p, .bool o.h], .slice (some ⟨g, 0, none⟩) n c] w fun e w' => e = .returned (.bool (crossedL f o lv)) ∧ Below w.heap.size w w' := by
  obtain ⟨fa, fb, fp, fh⟩ := f
  obtain ⟨oa, ob, op, oh⟩ := o
  simp only at f1 f2 o1 o2
  by_cases hp : fp = op
  · have tp : (fp != op) = false := by rw [bne_eq_false_iff_eq]; exact hp
    by_cases hb : fb % 2 = ob % 2
    · have tb : ((fb : Int) % 2 != (ob : Int) % 2) = false := by rw [bne_eq_false_iff_eq]; omega
      have hrow : ∀ o1 o2, RowI ((w.alloc o1).alloc o2) g lv := fun o1 o2 => (hr.keep (Below.heap_alloc w o1 g hr.1)).keep (Below.heap_alloc _ o2 g (by simp; have := hr.1; omega))
      obtain ⟨A, hA⟩ : ∃ A, A = lv.getD fa 0 := ⟨_, rfl⟩
      obtain ⟨B, hB⟩ : ∃ B, B = lv.getD fb 0 := ⟨_, rfl⟩
      obtain ⟨C, hC⟩ : ∃ C, C = lv.getD oa 0 := ⟨_, rfl⟩
      obtain ⟨D, hD⟩ : ∃ D, D = lv.getD ob 0 := ⟨_, rfl⟩
      have c1 := fun o1 o2 => (hrow o1 o2).2 fa _ (getD_some (by omega))
      have c2 := fun o1 o2 => (hrow o1 o2).2 fb _ (getD_some (by omega))
      have c3 := fun o1 o2 => (hrow o1 o2).2 oa _ (getD_some (by omega))
      have c4 := fun o1 o2 => (hrow o1 o2).2 ob _ (getD_some (by omega))
      rw [← hA] at c1
      rw [← hB] at c2
      rw [← hC] at c3
      rw [← hD] at c4
      have HP : Hid (crossedL ⟨fa, fb, fp, fh⟩ ⟨oa, ob, op, oh⟩ lv = (btw C A B != btw D A B)) := by
        show _ = _
        unfold crossedL
        simp only
        rw [if_pos ⟨hp, hb⟩, hA, hB, hC, hD]
      have n0 : (0 : Int) ≤ (fa : Int) := by omega
      have n1 : (fa : Int) < (n : Int) := by omega
      have n2 : (0 : Int) ≤ (fb : Int) := by omega
      have n3 : (fb : Int) < (n : Int) := by omega
      have n4 : (0 : Int) ≤ (oa : Int) := by omega
      have n5 : (oa : Int) < (n : Int) := by omega
      have n6 : (0 : Int) ≤ (ob : Int) := by omega
      have n7 : (ob : Int) < (n : Int) := by omega
      rw [HP.out]
      clear hA hB hC hD hp hb hrow hr hn
      go_enter Try.func77, Try.ntmps77
      go_wp2_with fail
      go_quiet (fail)
      go_wp2_with fail
      go_quiet ((go_at_call 57; first | exact quiet_left2 (isBetween _ _ _ _) | exact quiet_left (isBetween _ _ _ _)))
      go_wp2_with fail
      go_ret
      exact ⟨rfl, (by repeat (first | exact Below.refl _ _ | assumption | (refine Below.setCell ?_ (by first | omega | (simp; done) | (simp; omega)) _) | (refine Below.alloc ?_ (by first | omega | (simp; done) | (simp; omega)) _) | (refine below_drewN ?_ _) | (refine Below.drew ?_)))⟩
    · have tb : ((fb : Int) % 2 != (ob : Int) % 2) = true := by rw [bne_iff_ne]; omega
      have HP : Hid (crossedL ⟨fa, fb, fp, fh⟩ ⟨oa, ob, op, oh⟩ lv = false) := by
        show _ = _
        unfold crossedL
        rw [if_neg (fun h => hb h.2)]
      rw [HP.out]
      clear hr hp hb
      go_enter Try.func77, Try.ntmps77
      go_wp2_with fail
      go_ret
      exact ⟨rfl, (by repeat (first | exact Below.refl _ _ | assumption | (refine Below.setCell ?_ (by first | omega | (simp; done) | (simp; omega)) _) | (refine Below.alloc ?_ (by first | omega | (simp; done) | (simp; omega)) _) | (refine below_drewN ?_ _) | (refine Below.drew ?_)))⟩
  · have tp : (fp != op) = true := by rw [bne_iff_ne]; exact hp
    have HP : Hid (crossedL ⟨fa, fb, fp, fh⟩ ⟨oa, ob, op, oh⟩ lv = false) := by
      show _ = _
      unfold crossedL
      rw [if_neg (fun h => hp h.1)]
    rw [HP.out]
    clear hr hp
    go_enter Try.func77, Try.ntmps77
    go_wp2_with fail
    go_ret
    exact ⟨rfl, (by repeat (first | exact Below.refl _ _ | assumption | (refine Below.setCell ?_ (by first | omega | (simp; done) | (simp; omega)) _) | (refine Below.alloc ?_ (by first | omega | (simp; done) | (simp; omega)) _) | (refine below_drewN ?_ _) | (refine Below.drew ?_)))⟩
end Go.Proofs.Ytadpbbjahckoaaa
