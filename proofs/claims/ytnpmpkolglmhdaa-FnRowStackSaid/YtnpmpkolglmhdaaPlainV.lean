/- The plain law of folded sheets: over and under exchanged, mirrored, the last fold. Conditions: each theorem's own premises. -/
import Derived.Test.YtnpmpkolglmhdaaPlainU
import Derived.Test.YtnpmpkolglmhdaaSheetB
namespace Go.Proofs.Ytnpmpkolglmhdaa
open Go.RowKit
theorem putT_map (un : Bool) (A B : List Tm) (g : Tm → Tm) : (putT un A B).map g = putT un (A.map g) (B.map g) := by
  unfold putT
  cases un <;> simp
theorem putT_not (un : Bool) (A B : List Tm) : putT (!un) A.reverse B.reverse = (putT un A B).reverse := by
  unfold putT
  cases un <;> simp
theorem over_is {c : UInt8} (h : letter c = true) : high ((overC c).toNat : Int) = high (c.toNat : Int) ∧ wide ((overC c).toNat : Int) = wide (c.toNat : Int) ∧ fstC (overC c) = fstC c ∧ under (overC c) = !under c ∧ letter (overC c) = true := by
  rcases letter_is h with rfl | rfl | rfl | rfl | rfl | rfl | rfl | rfl <;> decide
theorem mir_is {c : UInt8} (h : letter c = true) : high ((mirC c).toNat : Int) = high (c.toNat : Int) ∧ wide ((mirC c).toNat : Int) = wide (c.toNat : Int) ∧ (high (c.toNat : Int) = false → fstC (mirC c) = !fstC c) ∧ (high (c.toNat : Int) = true → fstC (mirC c) = fstC c) ∧ under (mirC c) = under c ∧ letter (mirC c) = true := by
  rcases letter_is h with rfl | rfl | rfl | rfl | rfl | rfl | rfl | rfl <;> decide
/-- A text whose letters fold the same sizes. -/
structure Like (g : UInt8 → UInt8) (l : List UInt8) : Prop where
  h : ∀ c ∈ l, high ((g c).toNat : Int) = high (c.toNat : Int)
  w : ∀ c ∈ l, wide ((g c).toNat : Int) = wide (c.toNat : Int)
theorem countP_map_eq {p : UInt8 → Bool} {g : UInt8 → UInt8} : ∀ {l : List UInt8}, (∀ c ∈ l, p (g c) = p c) → (l.map g).countP p = l.countP p
  | [], _ => rfl
  | c :: l, h => by
    rw [List.map_cons, List.countP_cons, List.countP_cons, countP_map_eq fun x hx => h x (List.mem_cons_of_mem _ hx), h c List.mem_cons_self]
theorem like_dims {g : UInt8 → UInt8} {l : List UInt8} (h : Like g l) : ∀ k, k ≤ l.length → (sheetTo (l.map g) k).R = (sheetTo l k).R ∧ (sheetTo (l.map g) k).C = (sheetTo l k).C
  | 0, _ => by
    rw [sheetTo_zero, sheetTo_zero]
    constructor
    · show rowsOf _ = rowsOf _
      unfold rowsOf
      rw [countP_map_eq (p := fun c : UInt8 => high c.toNat) h.h]
    · show colsOf _ = colsOf _
      unfold colsOf
      rw [countP_map_eq (p := fun c : UInt8 => wide c.toNat) h.w]
  | k + 1, hk => by
    obtain ⟨h1, h2⟩ := like_dims h k (by omega)
    rw [sheetTo_succ _ k (by rw [List.length_map]; omega), sheetTo_succ l k (by omega)]
    have e : (l.map g)[k]'(by rw [List.length_map]; omega) = g (l[k]'(by omega)) := List.getElem_map _
    rw [e]
    have hh := h.h _ (List.getElem_mem (show k < l.length by omega))
    unfold stepS
    rw [hh]
    cases high (l[k].toNat : Int) <;> simp [h1, h2]
theorem like_half {g : UInt8 → UInt8} {l : List UInt8} (h : Like g l) (k : Nat) (hk : k < l.length) : halfAt (l.map g) k (g l[k]) = halfAt l k l[k] := by
  obtain ⟨h1, h2⟩ := like_dims h k (by omega)
  unfold halfAt
  rw [h.h _ (List.getElem_mem hk), h1, h2]
theorem tm_over {l : List UInt8} (hl : ∀ c ∈ l, letter c = true) : ∀ k, k ≤ l.length → tmTo (l.map overC) k = (tmTo l k).reverse
  | 0, _ => rfl
  | k + 1, hk => by
    have hk' : k < l.length := by omega
    have hL : Like overC l := ⟨fun c hc => (over_is (hl c hc)).1, fun c hc => (over_is (hl c hc)).2.1⟩
    have e : (l.map overC)[k]'(by rw [List.length_map]; omega) = overC l[k] := List.getElem_map _
    obtain ⟨o1, _, o3, o4, _⟩ := over_is (hl _ (List.getElem_mem hk'))
    rw [tmTo_succ _ k (by rw [List.length_map]; omega), tmTo_succ l k hk', e, like_half hL k hk', tm_over hl k (by omega)]
    unfold stepT
    rw [o1, o3, o4]
    cases high (l[k].toNat : Int)
    · simp only [Bool.false_eq_true, if_false]
      rw [List.map_reverse, List.map_reverse, putT_not]
    · simp only [if_true]
      rw [List.map_reverse, List.map_reverse, putT_not]
theorem ok_map {g : UInt8 → UInt8} {l : List UInt8} (hok : sheetOk l = true) (hg : ∀ c, letter c = true → letter (g c) = true) : sheetOk (l.map g) = true := by
  obtain ⟨h1, h2⟩ := ok_is hok
  unfold sheetOk
  simp only [Bool.and_eq_true, List.all_eq_true, decide_eq_true_eq, List.length_map]
  refine ⟨fun c hc => ?_, h2⟩
  obtain ⟨x, hx, rfl⟩ := List.mem_map.1 hc
  exact hg x (h1 x hx)
/-- Over and under exchanged turn the stack's order. -/
theorem stack_over {l : List UInt8} (hok : sheetOk l = true) : stackC (l.map overC) = (stackC l).reverse := by
  obtain ⟨h1, _⟩ := ok_is hok
  have hok2 := ok_map (g := overC) hok fun c hc => (over_is hc).2.2.2.2
  rw [stack_told hok, stack_told hok2, List.length_map, tm_over h1 _ (Nat.le_refl _), List.map_reverse]
/-- A cell of the mirrored sheet: Ct columns all in all, Ck of them left. -/
def Tm.mir (Ct Ck : Int) (t : Tm) : Tm := ⟨t.a, if t.u == t.h then Ct - 1 - t.b - (Ck - 1) else Ct - 1 - t.b + (Ck - 1), t.u, t.h⟩
theorem mir_go_h (Ct Ck d : Int) (t : Tm) : (t.go d 0).mir Ct Ck = (t.mir Ct Ck).go d 0 := by
  unfold Tm.go Tm.mir
  cases t.u <;> cases t.h <;> simp
theorem mir_over (Ct Ck : Int) (t : Tm) : (t.over true).mir Ct Ck = (t.mir Ct Ck).over true := by
  unfold Tm.over Tm.mir
  cases t.u <;> cases t.h <;> simp
theorem tm_mir_s (Ct half : Int) (f : Bool) (n : Nat) (hn : half = n) (t : Tm) : (t.go 0 (offS f n)).mir Ct half = (t.mir Ct (2 * half)).go 0 (offS (!f) n) := by
  subst hn
  unfold Tm.go Tm.mir offS
  cases f <;> cases t.u <;> cases t.h <;> simp <;> omega
theorem tm_mir_m (Ct half : Int) (f : Bool) (n : Nat) (hn : half = n) (t : Tm) : ((t.go 0 (offM f n)).over false).mir Ct half = ((t.mir Ct (2 * half)).go 0 (offM (!f) n)).over false := by
  subst hn
  unfold Tm.over Tm.go Tm.mir offM
  cases f <;> cases t.u <;> cases t.h <;> simp <;> omega
theorem tm_mir {l : List UInt8} (hok : sheetOk l = true) : ∀ k, k ≤ l.length → tmTo (l.map mirC) k = (tmTo l k).map (Tm.mir (colsOf l) (sheetTo l k).C)
  | 0, _ => by
    rw [sheetTo_zero]
    show [(⟨0, 0, true, true⟩ : Tm)] = [Tm.mir (colsOf l) (colsOf l) ⟨0, 0, true, true⟩]
    unfold Tm.mir
    simp
  | k + 1, hk => by
    obtain ⟨hl, _⟩ := ok_is hok
    have hk' : k < l.length := by omega
    have hL : Like mirC l := ⟨fun c hc => (mir_is (hl c hc)).1, fun c hc => (mir_is (hl c hc)).2.1⟩
    have e : (l.map mirC)[k]'(by rw [List.length_map]; omega) = mirC l[k] := List.getElem_map _
    obtain ⟨o1, _, o3, o4, o5, _⟩ := mir_is (hl _ (List.getElem_mem hk'))
    have hF := foldable hok k hk'
    rw [tmTo_succ _ k (by rw [List.length_map]; omega), tmTo_succ l k hk', e, like_half hL k hk', tm_mir hok k (by omega), sheetTo_succ l k hk']
    unfold stepT stepS halfAt
    rw [o1, o5]
    cases hi : high (l[k].toNat : Int)
    · have he := (hF.w hi).1
      rw [o3 hi]
      simp only [Bool.false_eq_true, if_false]
      rw [putT_map]
      congr 1
      · rw [List.map_map, List.map_map]
        refine List.map_congr_left fun t _ => ?_
        show (t.mir _ _).go 0 _ = (t.go 0 _).mir _ _
        rw [tm_mir_s _ _ _ _ rfl]
        congr 2
        omega
      · rw [List.map_map, List.map_map]
        refine List.map_congr_left fun t _ => ?_
        show ((t.mir _ _).go 0 _).over false = ((t.go 0 _).over false).mir _ _
        rw [tm_mir_m _ _ _ _ rfl]
        congr 3
        omega
    · rw [o4 hi]
      simp only [if_true]
      rw [putT_map]
      congr 1
      · rw [List.map_map, List.map_map]
        refine List.map_congr_left fun t _ => ?_
        show (t.mir _ _).go _ 0 = (t.go _ 0).mir _ _
        rw [mir_go_h]
      · rw [List.map_map, List.map_map]
        refine List.map_congr_left fun t _ => ?_
        show ((t.mir _ _).go _ 0).over true = ((t.go _ 0).over true).mir _ _
        rw [mir_over, mir_go_h]
/-- Mirrored, columns are counted from the other side. -/
theorem stack_mir {l : List UInt8} (hok : sheetOk l = true) : stackC (l.map mirC) = (stackC l).map fun x => ⟨x.row, colsOf l - 1 - x.col, x.up, x.head⟩ := by
  obtain ⟨h1, _⟩ := ok_is hok
  have hok2 := ok_map (g := mirC) hok fun c hc => (mir_is hc).2.2.2.2.2
  rw [stack_told hok, stack_told hok2, List.length_map, tm_mir hok _ (Nat.le_refl _), List.map_map, List.map_map, (end_dims hok).2]
  refine List.map_congr_left fun t _ => ?_
  show (t.mir _ _).at 0 0 = ⟨(t.at 0 0).row, _ - 1 - (t.at 0 0).col, (t.at 0 0).up, (t.at 0 0).head⟩
  unfold Tm.mir Tm.at
  cases t.u <;> cases t.h <;> simp
end Go.Proofs.Ytnpmpkolglmhdaa
