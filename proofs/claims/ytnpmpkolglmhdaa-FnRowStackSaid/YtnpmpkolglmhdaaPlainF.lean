/- The plain law of folded sheets: a stack told from its first letter on. Conditions: each theorem's own premises. -/
import Derived.Test.YtnpmpkolglmhdaaPlainU
import Derived.Test.YtnpmpkolglmhdaaStackM
namespace Go.Proofs.Ytnpmpkolglmhdaa
open Go.RowKit
/-- What lies at a cell's place, turned as the cell is. -/
def spreadC (f : Nat → Nat → List Cel) (y : Cel) : List Cel :=
  (if y.up then f y.row.toNat y.col.toNat else (f y.row.toNat y.col.toNat).reverse).map fun x => ⟨x.row, x.col, x.up == y.up, x.head == y.head⟩
theorem spread_turn (f : Nat → Nat → List Cel) (hi : Bool) (y : Cel) : spreadC f (turnC hi y) = (spreadC f y).reverse.map (turnC hi) := by
  have hg : ∀ x : Cel, (⟨x.row, x.col, x.up == !y.up, x.head == (if hi then !y.head else y.head)⟩ : Cel) = turnC hi ⟨x.row, x.col, x.up == y.up, x.head == y.head⟩ := fun x => by
    unfold turnC
    cases x.up <;> cases y.up <;> cases x.head <;> cases y.head <;> cases hi <;> rfl
  unfold spreadC
  show List.map (fun x : Cel => (⟨x.row, x.col, x.up == !y.up, x.head == (if hi then !y.head else y.head)⟩ : Cel)) (if (!y.up) = true then f y.row.toNat y.col.toNat else (f y.row.toNat y.col.toNat).reverse) = _
  rw [← List.map_reverse, List.map_map]
  cases y.up
  · simp only [Bool.not_false, if_true, Bool.false_eq_true, if_false, List.reverse_reverse]
    exact List.map_congr_left fun x _ => by rw [Function.comp]; cases hi <;> simp [turnC] <;> (cases x.head <;> cases y.head <;> rfl)
  · simp only [Bool.not_true, if_true, Bool.false_eq_true, if_false]
    exact List.map_congr_left fun x _ => by rw [Function.comp]; cases hi <;> simp [turnC] <;> (cases x.head <;> cases y.head <;> rfl)
theorem flatMap_turn {E : Cel → List Cel} (hE : ∀ hi y, E (turnC hi y) = (E y).reverse.map (turnC hi)) (hi : Bool) : ∀ b : List Cel, (b.flatMap E).reverse.map (turnC hi) = (b.reverse.map (turnC hi)).flatMap E
  | [] => rfl
  | y :: b => by
    rw [List.flatMap_cons, List.reverse_append, List.map_append, flatMap_turn hE hi b, List.reverse_cons, List.map_append, List.flatMap_append, ← hE]
    simp
theorem putC_spread {E : Cel → List Cel} (hE : ∀ hi y, E (turnC hi y) = (E y).reverse.map (turnC hi)) (un hi : Bool) (a b : List Cel) : putC un hi (a.flatMap E) (b.flatMap E) = (putC un hi a b).flatMap E := by
  unfold putC
  cases un
  · simp only [Bool.false_eq_true, if_false]
    rw [flatMap_turn hE, List.flatMap_append]
  · simp only [if_true]
    rw [flatMap_turn hE, List.flatMap_append]
/-- A sheet each of whose layers is spread. -/
structure SpreadS (E : Cel → List Cel) (s s' : Sheet) : Prop where
  R : s.R = s'.R
  C : s.C = s'.C
  f : ∀ r c, r < s'.R → c < s'.C → s.f r c = (s'.f r c).flatMap E
theorem spread_step {E : Cel → List Cel} (hE : ∀ hi y, E (turnC hi y) = (E y).reverse.map (turnC hi)) {s s' : Sheet} {c : UInt8} (hF : Foldable s' c) (h : SpreadS E s s') : SpreadS E (stepS s c) (stepS s' c) := by
  unfold stepS
  cases hi : high (c.toNat : Int)
  · obtain ⟨he, _⟩ := hF.w hi
    refine ⟨h.R, by simp [h.C], fun r q hr hq => ?_⟩
    simp only [Bool.false_eq_true, if_false] at hr hq ⊢
    unfold foldW
    have m1 := stays_lt (fst := fstC c) hq
    have m2 := moves_lt (fst := fstC c) hq
    rw [h.C, h.f _ _ hr (by omega), h.f _ _ hr (by omega), putC_spread hE]
  · obtain ⟨he, _⟩ := hF.h hi
    refine ⟨by simp [h.R], h.C, fun r q hr hq => ?_⟩
    simp only [if_true] at hr hq ⊢
    unfold foldH
    have m1 := stays_lt (fst := fstC c) hr
    have m2 := moves_lt (fst := fstC c) hr
    rw [h.R, h.f _ _ (by omega) hq, h.f _ _ (by omega) hq, putC_spread hE]
theorem ok_tail {c : UInt8} {t : List UInt8} (hok : sheetOk (c :: t) = true) : sheetOk t = true := by
  obtain ⟨h1, h2⟩ := ok_is hok
  unfold sheetOk
  simp only [Bool.and_eq_true, List.all_eq_true, decide_eq_true_eq]
  rw [List.length_cons] at h2
  exact ⟨fun x hx => h1 x (List.mem_cons_of_mem _ hx), by omega⟩
theorem spread_zero {c : UInt8} {t : List UInt8} (hok : sheetOk (c :: t) = true) : SpreadS (spreadC (stepS (sheet0 (c :: t)) c).f) (stepS (sheet0 (c :: t)) c) (sheet0 t) := by
  have hl := (ok_is hok).1 c List.mem_cons_self
  have hd : (stepS (sheet0 (c :: t)) c).R = rowsOf t ∧ (stepS (sheet0 (c :: t)) c).C = colsOf t := by
    unfold stepS sheet0
    simp only
    rw [rowsOf_cons, colsOf_cons, letter_high hl]
    cases high (c.toNat : Int) <;> simp
  refine ⟨hd.1, hd.2, fun r q _ _ => ?_⟩
  show _ = ([⟨r, q, true, true⟩] : List Cel).flatMap _
  rw [List.flatMap_singleton]
  unfold spreadC
  simp
theorem spread_to {c : UInt8} {t : List UInt8} (hok : sheetOk (c :: t) = true) : ∀ k, k ≤ t.length → SpreadS (spreadC (stepS (sheet0 (c :: t)) c).f) (sheetTo (c :: t) (k + 1)) (sheetTo t k)
  | 0, _ => by
    rw [sheetTo_zero, sheetTo_succ (c :: t) 0 (by simp), sheetTo_zero]
    exact spread_zero hok
  | k + 1, hk => by
    have ht := ok_tail hok
    rw [sheetTo_succ (c :: t) (k + 1) (by simp; omega), sheetTo_succ t k (by omega)]
    exact spread_step (spread_turn _) (foldable ht k (by omega)) (spread_to hok k (by omega))
/-- A stack, told from its first letter on. -/
theorem stack_front {c : UInt8} {t : List UInt8} (hok : sheetOk (c :: t) = true) : stackC (c :: t) = (stackC t).flatMap (spreadC (stepS (sheet0 (c :: t)) c).f) := by
  obtain ⟨d1, d2⟩ := end_dims (ok_tail hok)
  exact (spread_to hok t.length (Nat.le_refl _)).f 0 0 (by omega) (by omega)
/-- Lists of two, one behind the other. -/
theorem flat_two {E : Cel → List Cel} : ∀ {l : List Cel}, (∀ y ∈ l, (E y).length = 2) → ∀ {a j : Nat} {y : Cel}, l[a]? = some y → j < 2 → (l.flatMap E)[2 * a + j]? = (E y)[j]?
  | [], _, _, _, _, h, _ => by cases h
  | x :: l, hE, 0, j, y, h, hj => by
    have e : x = y := by simpa using h
    subst e
    have h2 := hE x List.mem_cons_self
    rw [List.flatMap_cons, List.getElem?_append_left (by omega)]
    congr 1
    omega
  | x :: l, hE, a + 1, j, y, h, hj => by
    have h2 := hE x List.mem_cons_self
    have h' : l[a]? = some y := by simpa using h
    rw [List.flatMap_cons, List.getElem?_append_right (by omega), h2, ← flat_two (fun z hz => hE z (List.mem_cons_of_mem _ hz)) h' hj]
    congr 1
    omega
/-- The two layers behind a first fold to the left. -/
theorem first_right {c : UInt8} {t : List UInt8} (hc : c = 82 ∨ c = 114) (r q : Nat) : (stepS (sheet0 (c :: t)) c).f r q = putC (under c) false [⟨r, q, true, true⟩] [⟨r, ((2 * (colsOf (c :: t) / 2) - 1 - q : Nat) : Int), true, true⟩] := by
  rcases hc with rfl | rfl <;> rfl
theorem lv_atF {l : List UInt8} (hok : sheetOk l = true) {k : Nat} {x : Cel} (hx : (stackC l)[k]? = some x) : lv l x.row x.col = some k := by
  unfold lv
  rw [if_pos hok]
  refine find_hit hx rfl rfl fun j q hj hq e => ?_
  obtain ⟨hj1, e1⟩ := List.getElem?_eq_some_iff.1 hq
  obtain ⟨hk1, e2⟩ := List.getElem?_eq_some_iff.1 hx
  have := List.pairwise_iff_getElem.1 (stack_apart hok) j k hj1 hk1 hj
  rw [e1, e2] at this
  exact this e
theorem spread_two {c : UInt8} {t : List UInt8} (hc : c = 82 ∨ c = 114) (y : Cel) : (spreadC (stepS (sheet0 (c :: t)) c).f y).length = 2 := by
  unfold spreadC
  rw [first_right hc, List.length_map]
  unfold putC
  cases y.up <;> cases under c <;> rfl
/-- A cell of the left half: its level, and which way up it lies. -/
theorem left_front {c : UInt8} {t : List UInt8} (hc : c = 82 ∨ c = 114) (hok : sheetOk (c :: t) = true) {a : Nat} {y : Cel} (hy : (stackC t)[a]? = some y) :
    ∃ (j : Nat) (x : Cel), j < 2 ∧ (stackC (c :: t))[2 * a + j]? = some x ∧ x.row = y.row ∧ x.col = y.col ∧ x.up = y.up := by
  obtain ⟨r1, _, c1, _⟩ := in_range (ok_tail hok) (List.mem_of_getElem? hy)
  have hf := fun j (hj : j < 2) => flat_two (E := spreadC (stepS (sheet0 (c :: t)) c).f) (l := stackC t) (fun z _ => spread_two hc z) hy hj
  rw [← stack_front hok] at hf
  refine ⟨if under c == y.up then 1 else 0, ⟨y.row, y.col, y.up, y.head⟩, by split <;> omega, ?_, rfl, rfl, rfl⟩
  rw [hf _ (by split <;> omega)]
  unfold spreadC
  rw [first_right hc]
  unfold putC
  have e1 : (y.row.toNat : Int) = y.row := by omega
  have e2 : (y.col.toNat : Int) = y.col := by omega
  cases hu : y.up <;> cases under c <;> simp [e1, e2]
theorem lv_left {c : UInt8} {t : List UInt8} (hc : c = 82 ∨ c = 114) (hok : sheetOk (c :: t) = true) {row col : Int} {a : Nat} (h : lv t row col = some a) : ∃ j, j < 2 ∧ lv (c :: t) row col = some (2 * a + j) ∧ (celOf (c :: t) (2 * a + j)).up = (celOf t a).up := by
  obtain ⟨_, hy, e1, e2, _⟩ := lv_in h
  obtain ⟨j, x, hj, hx, f1, f2, f3⟩ := left_front hc hok hy
  refine ⟨j, hj, ?_, ?_⟩
  · rw [← e1, ← e2, ← f1, ← f2]
    exact lv_atF hok hx
  · rw [← f3]
    unfold celOf
    rw [hx]
    rfl
/-- In the left half the creases are those of the other letters. -/
theorem right_left {c : UInt8} {t : List UInt8} (hc : c = 82 ∨ c = 114) (hok : sheetOk (c :: t) = true) {row col : Int} {a b : Nat} (ha : lv t row col = some a) (hb : lv t row (col + 1) = some b) (hab : a ≠ b) : rightC (c :: t) row col = rightC t row col := by
  obtain ⟨j, hj, h1, u1⟩ := lv_left hc hok ha
  obtain ⟨i, hi, h2, u2⟩ := lv_left hc hok hb
  unfold rightC
  rw [ha, hb, h1, h2, creaseC_some, creaseC_some]
  by_cases e : a < b
  · rw [Nat.min_eq_left (by omega), Nat.min_eq_left (by omega), u1]
  · rw [Nat.min_eq_right (by omega), Nat.min_eq_right (by omega), u2]
/-- The crease in the midst is the first fold's own. -/
theorem right_mid {c : UInt8} {t : List UInt8} (hc : c = 82 ∨ c = 114) (hok : sheetOk (c :: t) = true) {row col : Int} {a : Nat} (h : lv t row col = some a) (hm : col + 1 = colsOf t) : rightC (c :: t) row col = if under c then ⟨#[77]⟩ else ⟨#[86]⟩ := by
  obtain ⟨_, hy, p1, p2, _⟩ := lv_in h
  obtain ⟨y, hye⟩ : ∃ y, y = celOf t a := ⟨_, rfl⟩
  rw [← hye] at hy p1 p2
  obtain ⟨r1, _, c1, _⟩ := in_range (ok_tail hok) (List.mem_of_getElem? hy)
  have hC : colsOf (c :: t) = 2 * colsOf t := by rw [colsOf_cons]; rcases hc with rfl | rfl <;> rfl
  have hf := fun j (hj : j < 2) => flat_two (E := spreadC (stepS (sheet0 (c :: t)) c).f) (l := stackC t) (fun z _ => spread_two hc z) hy hj
  rw [← stack_front hok] at hf
  have e1 : (y.row.toNat : Int) = row := by omega
  have e2 : (y.col.toNat : Int) = col := by omega
  have e3 : ((2 * (colsOf (c :: t) / 2) - 1 - y.col.toNat : Nat) : Int) = col + 1 := by omega
  have g : ∃ x0 x1 : Cel, (stackC (c :: t))[2 * a]? = some x0 ∧ (stackC (c :: t))[2 * a + 1]? = some x1 ∧ x0.up = (!under c) ∧ x0.row = row ∧ x1.row = row ∧ ((x0.col = col ∧ x1.col = col + 1) ∨ (x0.col = col + 1 ∧ x1.col = col)) := by
    have h0 := hf 0 (by omega)
    have h1 := hf 1 (by omega)
    unfold spreadC at h0 h1
    rw [first_right hc, e1, e2, e3] at h0 h1
    unfold putC turnC at h0 h1
    rw [Nat.add_zero] at h0
    cases hu : y.up <;> cases hn : under c <;> rw [hu, hn] at h0 h1 <;> simp at h0 h1 <;> exact ⟨_, _, h0, h1, rfl, rfl, rfl, by simp⟩
  obtain ⟨x0, x1, s0, s1, u0, w0, w1, hd⟩ := g
  have l0 := lv_atF hok s0
  have l1 := lv_atF hok s1
  rw [w0] at l0
  rw [w1] at l1
  have hcel : celOf (c :: t) (2 * a) = x0 := by unfold celOf; rw [s0]; rfl
  unfold rightC
  rcases hd with ⟨d0, d1⟩ | ⟨d0, d1⟩
  · rw [d0] at l0
    rw [d1] at l1
    rw [l0, l1, creaseC_some, Nat.min_eq_left (by omega), hcel, u0]
    cases under c <;> rfl
  · rw [d0] at l0
    rw [d1] at l1
    rw [l0, l1, creaseC_some, Nat.min_eq_right (by omega), hcel, u0]
    cases under c <;> rfl
end Go.Proofs.Ytnpmpkolglmhdaa
