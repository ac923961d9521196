/- The walks of WordEven, of the program and of the reference. Conditions: each theorem's own premises. -/
import Derived.Test.YtdgkjlehofkooaaWordA
import Derived.Laws.BitsAllLaws
import Derived.Laws.BitsLemmas
import Derived.Maps.AppendAt
namespace Go.Proofs.Ytdgkjlehofkooaa.W
set_option maxRecDepth 100000
open Go.RowKit
/-- Every other element, from the first one on. -/
def evens : List UInt8 → List UInt8
  | a :: _ :: r => a :: evens r
  | [a] => [a]
  | [] => []
theorem evens_get : ∀ (n : Nat) (l : List UInt8), l.length ≤ n → ∀ k, (evens l)[k]? = l[2 * k]?
  | _, [], _, k => by simp [evens]
  | _, [a], _, k => by
    cases k with
    | zero => rfl
    | succ k => simp [evens, Nat.mul_succ]
  | n + 1, a :: b :: r, h, k => by
    cases k with
    | zero => rfl
    | succ k =>
      have := evens_get n r (by simp at h; omega) k
      simp only [evens, List.getElem?_cons_succ, Nat.mul_succ]
      exact this
theorem evens_len : ∀ (n : Nat) (l : List UInt8), l.length ≤ n → (evens l).length = (l.length + 1) / 2
  | _, [], _ => rfl
  | _, [a], _ => by simp [evens]
  | n + 1, a :: b :: r, h => by
    have := evens_len n r (by simp at h; omega)
    simp only [evens, List.length_cons, this]
    omega
/-- Every other element, from the place f on. -/
def evensFrom (f : Nat) (l : List UInt8) : List UInt8 := evens (l.drop f)
/-- The elements at odd places. -/
def odds (l : List UInt8) : List UInt8 := evens (l.drop 1)
theorem odds_get (l : List UInt8) (k : Nat) : (odds l)[k]? = l[2 * k + 1]? := by
  unfold odds
  rw [evens_get _ _ (Nat.le_refl _), List.getElem?_drop]
  congr 1
  omega
theorem odds_len (l : List UInt8) : (odds l).length = l.length / 2 := by
  unfold odds
  rw [evens_len _ _ (Nat.le_refl _), List.length_drop]
  omega
/-- No two that follow each other are equal. -/
def alt (m : List UInt8) : Bool := (List.range (m.length - 1)).all fun k => m[k]? != m[k + 1]?
theorem alt_true {m : List UInt8} (h : ∀ k, k + 1 < m.length → m[k]? ≠ m[k + 1]?) : alt m = true := by
  unfold alt
  rw [List.all_eq_true]
  intro k hk
  simp only [List.mem_range] at hk
  simpa using h k (by omega)
theorem alt_false {m : List UInt8} (k : Nat) (hk : k + 1 < m.length) (h : m[k]? = m[k + 1]?) : alt m = false := by
  unfold alt
  rw [List.all_eq_false]
  exact ⟨k, by simp; omega, by simp [h]⟩
def evenN : Nat → List UInt8 → Bool
  | 0, _ => true
  | n + 1, l => l.isEmpty || (alt (evens l) && evenN n (odds l))
theorem evenN_more : ∀ (n m : Nat) (l : List UInt8), l.length ≤ n → l.length ≤ m → evenN n l = evenN m l
  | 0, 0, _, _, _ => rfl
  | 0, m + 1, l, h, _ => by
    obtain rfl := List.eq_nil_of_length_eq_zero (Nat.le_zero.1 h)
    rfl
  | n + 1, 0, l, _, h => by
    obtain rfl := List.eq_nil_of_length_eq_zero (Nat.le_zero.1 h)
    rfl
  | n + 1, m + 1, l, h1, h2 => by
    unfold evenN
    by_cases hl : l = []
    · subst hl; rfl
    · have : 0 < l.length := List.length_pos_iff.2 hl
      rw [evenN_more n m (odds l) (by rw [odds_len]; omega) (by rw [odds_len]; omega)]
/-- What l5Even tells. -/
def evn (l : List UInt8) : Bool := evenN l.length l
theorem evn_nil : evn [] = true := rfl
theorem evn_cons (l : List UInt8) (h : 0 < l.length) : evn l = (alt (evens l) && evn (odds l)) := by
  unfold evn
  obtain ⟨n, hn⟩ : ∃ n, l.length = n + 1 := ⟨l.length - 1, by omega⟩
  rw [hn]
  show (l.isEmpty || (alt (evens l) && evenN n (odds l))) = _
  have : l.isEmpty = false := by
    cases l with
    | nil => simp at h
    | cons a r => rfl
  rw [this, Bool.false_or, evenN_more n (odds l).length (odds l) (by rw [odds_len]; omega) (Nat.le_refl _)]
/-- 2 to the power of n, minus 1, for some n from 0 to 6. -/
def plen (n : Nat) : Bool := [0, 1, 3, 7, 15, 31, 63].contains n
def wordEvenL (l : List UInt8) : Bool := creas l && plen l.length && evn l
theorem plen_half (n : Nat) (h : plen n = true) : plen (n / 2) = true := by
  have : n ≤ 63 := by
    unfold plen at h
    simp at h
    omega
  have key : ∀ n : Fin 64, plen n.val = true → plen (n.val / 2) = true := by decide
  exact key ⟨n, by omega⟩ h
theorem plen_and (n : Nat) (h : n ≤ 63) : (n &&& (n + 1) = 0 ↔ plen n = true) := by
  have key : ∀ n : Fin 64, (n.val &&& (n.val + 1) = 0 ↔ plen n.val = true) := by decide
  exact key ⟨n, by omega⟩
theorem mem_evens (l : List UInt8) (c : UInt8) (h : c ∈ evens l) : c ∈ l := by
  obtain ⟨k, hk⟩ := List.mem_iff_getElem?.1 h
  rw [evens_get _ _ (Nat.le_refl _)] at hk
  exact List.mem_of_getElem? hk
theorem mem_odds (l : List UInt8) (c : UInt8) (h : c ∈ odds l) : c ∈ l := by
  obtain ⟨k, hk⟩ := List.mem_iff_getElem?.1 h
  rw [odds_get] at hk
  exact List.mem_of_getElem? hk
theorem creas_odds (l : List UInt8) (h : creas l = true) : creas (odds l) = true := by
  unfold creas at *
  simp only [Bool.and_eq_true, List.all_eq_true, decide_eq_true_eq] at *
  exact ⟨fun c hc => h.1 c (mem_odds l c hc), by rw [odds_len]; omega⟩
theorem wordEven_step (l : List UInt8) (h1 : creas l = true) (h2 : plen l.length = true) (h3 : 0 < l.length) : wordEvenL l = (alt (evens l) && wordEvenL (odds l)) := by
  unfold wordEvenL
  rw [h1, h2, creas_odds l h1, odds_len, plen_half _ h2, evn_cons l h3]
  simp
theorem ofInt_i64 (a : Nat) (ha : a < 9223372036854775808) : (BitVec.ofInt 64 (a : Int)).toNat = a := by
  rw [BitVec.ofInt_natCast, BitVec.toNat_ofNat]; exact Nat.mod_eq_of_lt (by omega)
theorem i64_and_nat (a b : Nat) (ha : a < 9223372036854775808) (hb : b < 9223372036854775808) : bits .and .i64 (a : Int) (b : Int) = ((a &&& b : Nat) : Int) := by
  have hx : a &&& b < 2 ^ 63 := Nat.and_lt_two_pow _ (by omega)
  show IntKind.i64.wrap ((BitVec.ofInt 64 (a : Int) &&& BitVec.ofInt 64 (b : Int)).toNat : Int) = _
  rw [BitVec.toNat_and, ofInt_i64 a ha, ofInt_i64 b hb, IntKind.wrap_i64]
  omega
/-- 2 to the power of n, a word that the walk does not open. -/
def pow2 (n : Nat) : Nat := 2 ^ n
theorem pow2_succ (n : Nat) : pow2 (n + 1) = pow2 n * 2 := Nat.pow_succ 2 n
theorem pow2_le {n m : Nat} (h : n ≤ m) : pow2 n ≤ pow2 m := Nat.pow_le_pow_right (by omega) h
theorem pow2_pos (n : Nat) : 1 ≤ pow2 n := Nat.one_le_two_pow
/-- What l5Folds returns. -/
def foldsNum (n : Nat) : Int := ((List.range 7).find? fun k => 2 ^ k == n + 1).elim (-1) fun k => (k : Int)
theorem foldsNum_hit (k n : Nat) (hk : k ≤ 6) (h : 2 ^ k = n + 1) : foldsNum n = (k : Int) := by
  obtain rfl : n = 2 ^ k - 1 := by omega
  have key : ∀ k : Fin 7, foldsNum (2 ^ k.val - 1) = (k.val : Int) := by decide
  exact key ⟨k, by omega⟩
theorem foldsNum_miss (n : Nat) (h : ∀ k, k < 7 → 2 ^ k ≠ n + 1) : foldsNum n = -1 := by
  unfold foldsNum
  have : (List.range 7).find? (fun k => 2 ^ k == n + 1) = none := by
    rw [List.find?_eq_none]
    intro k hk
    simpa using h k (by simpa using hk)
  rw [this]
  rfl
theorem foldsNum_plen (n : Nat) (h : n ≤ 63) : decide (0 ≤ foldsNum n) = plen n := by
  have key : ∀ n : Fin 64, decide (0 ≤ foldsNum n.val) = plen n.val := by decide
  exact key ⟨n, by omega⟩
theorem foldsNum_bd (n : Nat) : -1 ≤ foldsNum n ∧ foldsNum n ≤ 6 := by
  by_cases h : ∃ k, k < 7 ∧ 2 ^ k = n + 1
  · obtain ⟨k, hk, he⟩ := h
    rw [foldsNum_hit k n (by omega) he]
    omega
  · rw [foldsNum_miss n (fun k hk he => h ⟨k, hk, he⟩)]
    omega
end Go.Proofs.Ytdgkjlehofkooaa.W
