/- The plain law of FnDragon: the path of a word takes no step twice, visits no place three times, and ends at a distance that its folds tell: all 127 words, tried one by one. Conditions: each theorem's own premises. -/
import Derived.Test.YtalbokejljjflaaPlainR
import Derived.Test.YtalbokejljjflaaPlainW
import Derived.Test.YtalbokejljjflaaPathD
namespace Go.Proofs.Ytalbokejljjflaa
open Go.RowKit
/-- The places of a path from a state on. -/
def goP (s : (Int × Int) × (Int × Int)) : List UInt8 → List (Int × Int)
  | [] => [s.1]
  | c :: t => s.1 :: goP (pstep s c) t
theorem goP_get : ∀ (l : List UInt8) (s : (Int × Int) × (Int × Int)) (i : Nat), i ≤ l.length → (goP s l)[i]? = some ((l.take i).foldl pstep s).1
  | [], s, i, h => by
    have : i = 0 := by simpa using h
    subst this
    rfl
  | c :: t, s, 0, _ => rfl
  | c :: t, s, i + 1, h => by
    show (goP (pstep s c) t)[i]? = _
    rw [goP_get t (pstep s c) i (by simpa using h)]
    rfl
theorem goP_length : ∀ (l : List UInt8) (s : (Int × Int) × (Int × Int)), (goP s l).length = l.length + 1
  | [], _ => rfl
  | c :: t, s => by
    show (goP (pstep s c) t).length + 1 = _
    rw [goP_length t]
    rfl
theorem places_go (l : List UInt8) : places l = (0, 0) :: goP ((1, 0), (1, 0)) l := by
  apply List.ext_getElem?
  intro i
  cases i with
  | zero => rfl
  | succ i =>
    rw [List.getElem?_cons_succ]
    by_cases h : i ≤ l.length
    · rw [places_at l i h, goP_get l _ i h]
      rfl
    · rw [List.getElem?_eq_none (by rw [places_length]; omega), List.getElem?_eq_none (by rw [goP_length]; omega)]
/-- A number for a place. -/
def numP (p : Int × Int) : Nat := (p.1 + 256 * p.2 + 40000).toNat
/-- The sums of neighbors. -/
def sums : List Nat → List Nat
  | a :: b :: t => Nat.add a b :: sums (b :: t)
  | _ => []
def noTwo : List Nat → Bool
  | [] => true
  | x :: t => (t.all fun y => !Nat.beq x y) && noTwo t
def cntN (x : Nat) : List Nat → Nat
  | [] => 0
  | y :: t => if Nat.beq x y then Nat.succ (cntN x t) else cntN x t
def chk (n : Nat) (l : List UInt8) : Bool :=
  let ns := (places l).map numP
  noTwo (sums ns) && (ns.all fun x => Nat.ble (cntN x ns) 2) && ((stAt l l.length).1.1 * (stAt l l.length).1.1 + (stAt l l.length).1.2 * (stAt l l.length).1.2 == (2 ^ n : Nat))
/-- The same, by the places gone through once. -/
def chkG (n : Nat) (l : List UInt8) : Bool :=
  let ns := ((0, 0) :: goP ((1, 0), (1, 0)) l).map numP
  noTwo (sums ns) && (ns.all fun x => Nat.ble (cntN x ns) 2) &&
    (match (goP ((1, 0), (1, 0)) l).getLast? with
    | some e => e.1 * e.1 + e.2 * e.2 == (2 ^ n : Nat)
    | none => false)
theorem sums_get : ∀ (l : List Nat) (i : Nat) (a b : Nat), l[i]? = some a → l[i + 1]? = some b → (sums l)[i]? = some (a + b)
  | [], _, _, _, h, _ => by simp at h
  | [x], i, _, _, _, h => by simp at h
  | x :: y :: t, 0, a, b, h1, h2 => by
    have e1 : x = a := by simpa using h1
    have e2 : y = b := by simpa using h2
    subst e1 e2
    rfl
  | x :: y :: t, i + 1, a, b, h1, h2 => by
    show (sums (y :: t))[i]? = _
    exact sums_get (y :: t) i a b (by simpa using h1) (by simpa using h2)
theorem noTwo_get : ∀ (l : List Nat), noTwo l = true → ∀ (i j : Nat) (x : Nat), j < i → l[j]? = some x → l[i]? ≠ some x
  | [], _, _, _, _, _, h => by simp at h
  | y :: t, h, i, j, x, hij, hj => by
    unfold noTwo at h
    rw [Bool.and_eq_true] at h
    intro hi
    cases i with
    | zero => omega
    | succ i =>
      rw [List.getElem?_cons_succ] at hi
      cases j with
      | zero =>
        have e : y = x := by simpa using hj
        subst e
        have := List.all_eq_true.1 h.1 y (List.mem_of_getElem? hi)
        simp at this
      | succ j =>
        rw [List.getElem?_cons_succ] at hj
        exact noTwo_get t h.2 i j x (by omega) hj hi
theorem cntN_is (x : Nat) : ∀ l : List Nat, cntN x l = l.count x
  | [] => rfl
  | y :: t => by
    unfold cntN
    rw [cntN_is x t, List.count_cons]
    by_cases e : x = y
    · subst e; simp
    · have e1 : Nat.beq x y = false := by
        cases h : Nat.beq x y with
        | false => rfl
        | true => exact absurd (Nat.eq_of_beq_eq_true h) e
      have e2 : (y == x) = false := by rw [beq_eq_false_iff_ne]; exact fun h => e h.symm
      rw [e1, e2]
      rfl
theorem count_num (ps : List (Int × Int)) (p : Int × Int) : ps.count p ≤ (ps.map numP).count (numP p) := by
  induction ps with
  | nil => exact Nat.le_refl _
  | cons q ps ih =>
    rw [List.map_cons, List.count_cons, List.count_cons]
    by_cases e : q = p
    · subst e
      simp only [beq_self_eq_true, if_true]
      omega
    · have : (q == p) = false := by rw [beq_eq_false_iff_ne]; exact e
      rw [this]
      simp only [Bool.false_eq_true, if_false]
      split <;> omega
theorem chk_once {n : Nat} {l : List UInt8} (h : chk n l = true) : OnceP (places l) := by
  unfold chk at h
  simp only [Bool.and_eq_true] at h
  intro i k a b c d hik h1 h2 h3 h4 hs
  have g := fun j x (hx : (places l)[j]? = some x) => show ((places l).map numP)[j]? = some (numP x) from by rw [List.getElem?_map, hx]; rfl
  have s1 := sums_get _ _ _ _ (g _ _ h1) (g _ _ h2)
  have s2 := sums_get _ _ _ _ (g _ _ h3) (g _ _ h4)
  have e : numP a + numP b = numP c + numP d := by
    rcases hs with ⟨rfl, rfl⟩ | ⟨rfl, rfl⟩
    · rfl
    · exact Nat.add_comm _ _
  rw [e] at s1
  exact noTwo_get _ h.1.1 i k _ hik s1 s2
theorem chk_two {n : Nat} {l : List UInt8} (h : chk n l = true) : mostP (places l) ≤ 2 := by
  unfold chk at h
  simp only [Bool.and_eq_true] at h
  rcases (mostP_is (places l)).2 with h0 | ⟨p, hp⟩
  · omega
  · rw [← hp]
    by_cases hm : p ∈ places l
    · have := List.all_eq_true.1 h.1.2 (numP p) (List.mem_map.2 ⟨p, hm, rfl⟩)
      rw [cntN_is] at this
      exact Nat.le_trans (count_num _ _) (Nat.le_of_ble_eq_true this)
    · rw [List.count_eq_zero.2 hm]
      exact Nat.zero_le _
theorem chk_end {n : Nat} {l : List UInt8} (h : chk n l = true) : (stAt l l.length).1.1 * (stAt l l.length).1.1 + (stAt l l.length).1.2 * (stAt l l.length).1.2 = (2 ^ n : Nat) := by
  unfold chk at h
  simp only [Bool.and_eq_true, beq_iff_eq] at h
  exact h.2
theorem chk_go {n : Nat} {l : List UInt8} (h : chkG n l = true) : chk n l = true := by
  unfold chkG at h
  unfold chk
  rw [places_go]
  have hl : (goP ((1, 0), (1, 0)) l).getLast? = some (stAt l l.length).1 := by
    rw [List.getLast?_eq_getElem?, goP_length, Nat.add_sub_cancel, goP_get l _ l.length (Nat.le_refl _)]
    rfl
  rw [hl] at h
  exact h
/-- All words of n folds. -/
def allW : Nat → List (List UInt8)
  | 0 => [[]]
  | n + 1 => (allW n).flatMap fun a => [a ++ 77 :: otherL a, a ++ 86 :: otherL a]
theorem mem_allW : ∀ (n : Nat) (l : List UInt8), wordOk l = true → l.length + 1 = 2 ^ n → l ∈ allW n
  | 0, l, _, hl => by
    have : l.length = 0 := by omega
    rw [List.eq_nil_of_length_eq_zero this]
    exact List.mem_singleton.2 rfl
  | n + 1, l, h, hl => by
    have h2 : l.length + 1 = 2 ^ n * 2 := by rw [hl, Nat.pow_succ]
    have hp : 0 < 2 ^ n := Nat.two_pow_pos n
    have hh : l.length / 2 < l.length := by omega
    have hw := wordOk_half h
    have hlen : (l.take (l.length / 2)).length + 1 = 2 ^ n := by rw [List.length_take]; omega
    have ih := mem_allW n _ hw hlen
    have hsplit : l = l.take (l.length / 2) ++ l[l.length / 2] :: otherL (l.take (l.length / 2)) := by
      have h' := h
      unfold wordOk at h'
      simp only [Bool.and_eq_true] at h'
      have hw' := h'.2
      rw [word_step l (by omega), Bool.and_eq_true, beq_iff_eq] at hw'
      rw [← hw'.2]
      conv => lhs; rw [← List.take_append_drop (l.length / 2) l, List.drop_eq_getElem_cons hh]
    have hc : isMV l[l.length / 2] = true := by
      unfold wordOk creas at h
      simp only [Bool.and_eq_true] at h
      exact List.all_eq_true.1 h.1.1.1 _ (List.getElem_mem hh)
    have hc' : l[l.length / 2] = 77 ∨ l[l.length / 2] = 86 := by simpa [isMV] using hc
    unfold allW
    rw [List.mem_flatMap]
    refine ⟨_, ih, ?_⟩
    rcases hc' with e | e <;> rw [e] at hsplit <;> rw [← hsplit] <;> simp
set_option maxRecDepth 100000 in
theorem all_words : ((List.range 7).all fun n => (allW n).all (chkG n)) = true := by decide +kernel
theorem word_chk {n : Nat} {l : List UInt8} (hn : n < 7) (h : wordOk l = true) (hl : l.length + 1 = 2 ^ n) : chk n l = true :=
  chk_go (List.all_eq_true.1 (List.all_eq_true.1 all_words n (List.mem_range.2 hn)) l (mem_allW n l h hl))
end Go.Proofs.Ytalbokejljjflaa
