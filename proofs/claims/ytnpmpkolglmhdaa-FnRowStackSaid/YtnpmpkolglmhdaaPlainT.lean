/- The plain law of folded sheets: a stack told at all places at once. Conditions: each theorem's own premises. -/
import Derived.Test.YtnpmpkolglmhdaaStackK
namespace Go.Proofs.Ytnpmpkolglmhdaa
open Go.RowKit
/-- A cell of a stack at any place (r, c) of the sheet as it lies: its row is a + r or a - r, its column b + c or b - c. -/
structure Tm where
  a : Int
  b : Int
  u : Bool
  h : Bool
def Tm.at (t : Tm) (r c : Int) : Cel := ⟨if t.h then t.a + r else t.a - r, if t.u == t.h then t.b + c else t.b - c, t.u, t.h⟩
/-- The same cell, its place moved by d rows and e columns. -/
def Tm.go (t : Tm) (d e : Int) : Tm := ⟨if t.h then t.a + d else t.a - d, if t.u == t.h then t.b + e else t.b - e, t.u, t.h⟩
/-- The same cell in a stack that is turned over. -/
def Tm.over (hi : Bool) (t : Tm) : Tm := ⟨t.a, t.b, !t.u, if hi then !t.h else t.h⟩
/-- How far the half that stays, and the half that moves, lie from the places behind the fold. -/
def offS (fst : Bool) (half : Nat) : Int := if fst then half else 0
def offM (fst : Bool) (half : Nat) : Int := if fst then half - 1 else 2 * half - 1
def putT (un : Bool) (A B : List Tm) : List Tm := if un then B.reverse ++ A else A ++ B.reverse
/-- A fold of the cells of a stack, told at all places at once; half: of the size that is halved. -/
def stepT (c : UInt8) (half : Nat) (T : List Tm) : List Tm :=
  if high (c.toNat : Int) then putT (under c) (T.map fun t => t.go (offS (fstC c) half) 0) (T.map fun t => (t.go (offM (fstC c) half) 0).over true)
  else putT (under c) (T.map fun t => t.go 0 (offS (fstC c) half)) (T.map fun t => (t.go 0 (offM (fstC c) half)).over false)
/-- A sheet's stacks as T tells them. -/
def Told (s : Sheet) (T : List Tm) : Prop := ∀ r c, r < s.R → c < s.C → s.f r c = T.map fun t => t.at r c
theorem at_go (t : Tm) (d e r c : Int) : (t.go d e).at r c = t.at (d + r) (e + c) := by
  unfold Tm.go Tm.at
  cases t.h <;> cases t.u <;> simp <;> omega
theorem at_over_w (t : Tm) (r c e : Int) : ((t.go 0 e).over false).at r c = turnC false (t.at r (e - c)) := by
  unfold Tm.over Tm.go Tm.at turnC
  cases t.h <;> cases t.u <;> simp <;> omega
theorem at_over_h (t : Tm) (r c e : Int) : ((t.go e 0).over true).at r c = turnC true (t.at (e - r) c) := by
  unfold Tm.over Tm.go Tm.at turnC
  cases t.h <;> cases t.u <;> simp <;> omega
theorem put_told (un hi : Bool) (A B : List Tm) (a b : List Cel) (r c : Int) (ha : a = A.map fun t => t.at r c) (hb : b.map (turnC hi) = B.map fun t => t.at r c) : putC un hi a b = (putT un A B).map fun t => t.at r c := by
  unfold putC putT
  rw [List.map_reverse, hb, ha]
  cases un <;> simp
theorem offS_is (fst : Bool) (half c : Nat) : ((stays fst half c : Nat) : Int) = offS fst half + c := by
  unfold stays offS
  cases fst <;> simp
theorem offM_is (fst : Bool) {half c : Nat} (h : c < half) : ((moves fst half c : Nat) : Int) = offM fst half - c := by
  unfold moves offM
  cases fst <;> simp <;> omega
theorem told_step {s : Sheet} {c : UInt8} {T : List Tm} (hF : Foldable s c) (h : Told s T) : Told (stepS s c) (stepT c (if high (c.toNat : Int) then s.R / 2 else s.C / 2) T) := by
  intro r k hr hk
  unfold stepS at hr hk ⊢
  unfold stepT
  cases hi : high (c.toNat : Int) with
  | true =>
    obtain ⟨e, b⟩ := hF.h hi
    rw [hi] at hr hk
    simp only [if_true] at hr hk ⊢
    have h1 : stays (fstC c) (s.R / 2) r < s.R := by unfold stays; cases fstC c <;> simp <;> omega
    have h2 : moves (fstC c) (s.R / 2) r < s.R := by unfold moves; cases fstC c <;> simp <;> omega
    refine put_told _ _ _ _ _ _ _ _ ?_ ?_
    · rw [h _ _ h1 hk, List.map_map]
      refine List.map_congr_left fun t _ => ?_
      show t.at _ _ = (t.go _ _).at _ _
      rw [at_go, offS_is, Int.zero_add]
    · rw [h _ _ h2 hk, List.map_map, List.map_map]
      refine List.map_congr_left fun t _ => ?_
      show turnC true (t.at _ _) = ((t.go _ 0).over true).at _ _
      rw [at_over_h, offM_is _ hr]
  | false =>
    obtain ⟨e, b⟩ := hF.w hi
    rw [hi] at hr hk
    simp only [Bool.false_eq_true, if_false] at hr hk ⊢
    have h1 : stays (fstC c) (s.C / 2) k < s.C := by unfold stays; cases fstC c <;> simp <;> omega
    have h2 : moves (fstC c) (s.C / 2) k < s.C := by unfold moves; cases fstC c <;> simp <;> omega
    refine put_told _ _ _ _ _ _ _ _ ?_ ?_
    · rw [h _ _ hr h1, List.map_map]
      refine List.map_congr_left fun t _ => ?_
      show t.at _ _ = (t.go _ _).at _ _
      rw [at_go, offS_is, Int.zero_add]
    · rw [h _ _ hr h2, List.map_map, List.map_map]
      refine List.map_congr_left fun t _ => ?_
      show turnC false (t.at _ _) = ((t.go 0 _).over false).at _ _
      rw [at_over_w, offM_is _ hk]
/-- The size that the k-th fold leaves of the size that it halves. -/
def halfAt (l : List UInt8) (k : Nat) (c : UInt8) : Nat := if high (c.toNat : Int) then (sheetTo l k).R / 2 else (sheetTo l k).C / 2
/-- The cells of the stacks behind the first k folds. -/
def tmTo (l : List UInt8) : Nat → List Tm
  | 0 => [⟨0, 0, true, true⟩]
  | k + 1 => match l[k]? with
    | some c => stepT c (halfAt l k c) (tmTo l k)
    | none => tmTo l k
theorem tmTo_succ (l : List UInt8) (k : Nat) (h : k < l.length) : tmTo l (k + 1) = stepT l[k] (halfAt l k l[k]) (tmTo l k) := by
  show (match l[k]? with
    | some c => stepT c (halfAt l k c) (tmTo l k)
    | none => tmTo l k) = _
  rw [List.getElem?_eq_getElem h]
theorem told_to {l : List UInt8} (hok : sheetOk l = true) : ∀ k, k ≤ l.length → Told (sheetTo l k) (tmTo l k)
  | 0, _ => by
    rw [sheetTo_zero]
    intro r c _ _
    show [(⟨r, c, true, true⟩ : Cel)] = [Tm.at ⟨0, 0, true, true⟩ r c]
    unfold Tm.at
    simp
  | k + 1, hk => by
    rw [sheetTo_succ l k (by omega), tmTo_succ l k (by omega)]
    exact told_step (foldable hok k (by omega)) (told_to hok k (by omega))
/-- The stack of a folded sheet, told. -/
theorem stack_told {l : List UInt8} (hok : sheetOk l = true) : stackC l = (tmTo l l.length).map fun t => t.at 0 0 := by
  obtain ⟨d1, d2⟩ := end_dims hok
  exact told_to hok l.length (Nat.le_refl _) 0 0 (by omega) (by omega)
end Go.Proofs.Ytnpmpkolglmhdaa
