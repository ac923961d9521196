/- The plain law of a booklet: what the pages of a sheet add up to. Conditions: each theorem's own premises. -/
import Derived.Test.YthhkflknbjkneaaStackQ
import Derived.Test.YthhkflknbjkneaaStackP
import Derived.Test.YthhkflknbjkneaaPlainU
namespace Go.Proofs.Ythhkflknbjkneaa
open Go.RowKit
/-- The sum of the first n values of f. -/
def sumN : Nat → (Nat → Int) → Int
  | 0, _ => 0
  | n + 1, f => sumN n f + f n
theorem sum_congr {f g : Nat → Int} : ∀ n, (∀ t, t < n → f t = g t) → sumN n f = sumN n g
  | 0, _ => rfl
  | n + 1, h => by
    show sumN n f + f n = sumN n g + g n
    rw [sum_congr n fun t ht => h t (by omega), h n (by omega)]
theorem sum_zero : ∀ n, sumN n (fun _ => 0) = 0
  | 0 => rfl
  | n + 1 => by show sumN n _ + 0 = 0; rw [sum_zero n]; rfl
theorem sum_add (f g : Nat → Int) : ∀ n, sumN n (fun t => f t + g t) = sumN n f + sumN n g
  | 0 => rfl
  | n + 1 => by
    show sumN n _ + (f n + g n) = (sumN n f + f n) + (sumN n g + g n)
    rw [sum_add f g n]
    omega
theorem sum_swap (f : Nat → Nat → Int) (m : Nat) : ∀ n, sumN n (fun t => sumN m (fun k => f t k)) = sumN m (fun k => sumN n (fun t => f t k))
  | 0 => (sum_zero m).symm
  | n + 1 => by
    show sumN n _ + sumN m _ = sumN m fun k => sumN n (fun t => f t k) + f n k
    rw [sum_swap f m n, sum_add]
theorem sum_single (g : Nat → Int) (k0 : Nat) : ∀ n, sumN n (fun k => if k = k0 then g k else 0) = if k0 < n then g k0 else 0
  | 0 => by rw [if_neg (by omega)]; rfl
  | n + 1 => by
    show sumN n _ + (if n = k0 then g n else 0) = _
    rw [sum_single g k0 n]
    by_cases h1 : n = k0
    · subst h1
      rw [if_neg (by omega), if_pos rfl, if_pos (by omega)]
      omega
    · rw [if_neg h1]
      by_cases h2 : k0 < n
      · rw [if_pos h2, if_pos (by omega)]; omega
      · rw [if_neg h2, if_neg (by omega)]; omega
theorem sum_const_single (x : Int) (k0 n : Nat) (h : k0 < n) : sumN n (fun t => if t = k0 then x else 0) = x := by
  rw [sum_single (fun _ => x) k0 n, if_pos h]
/-- A sum in another order. -/
theorem sum_perm (g : Nat → Int) (n : Nat) (σ τ : Nat → Nat) (h1 : ∀ t, t < n → σ t < n) (h2 : ∀ k, k < n → τ k < n ∧ ∀ t, t < n → (k = σ t ↔ t = τ k)) : sumN n (fun t => g (σ t)) = sumN n g := by
  have e1 : sumN n (fun t => g (σ t)) = sumN n (fun t => sumN n (fun k => if k = σ t then g k else 0)) := sum_congr n fun t ht => by
    rw [sum_single g (σ t) n, if_pos (h1 t ht)]
  rw [e1, sum_swap]
  refine sum_congr n fun k hk => ?_
  obtain ⟨hk1, hk2⟩ := h2 k hk
  rw [sum_congr (g := fun t => if t = τ k then g k else 0) n fun t ht => by
    by_cases h : t = τ k
    · rw [if_pos h, if_pos ((hk2 t ht).2 h)]
    · rw [if_neg h, if_neg fun e => h ((hk2 t ht).1 e)]]
  exact sum_const_single _ _ _ hk1
theorem sum_succ (f : Nat → Int) (n : Nat) : sumN (n + 1) f = sumN n f + f n := rfl
theorem lv_atB {l : List UInt8} (hok : sheetOk l = true) {k : Nat} {x : Cel} (hx : (stackC l)[k]? = some x) : lv l x.row x.col = some k := by
  unfold lv
  rw [if_pos hok]
  refine find_hit hx rfl rfl fun j q hj hq e => ?_
  obtain ⟨hj1, e1⟩ := List.getElem?_eq_some_iff.1 hq
  obtain ⟨hk1, e2⟩ := List.getElem?_eq_some_iff.1 hx
  have := List.pairwise_iff_getElem.1 (stack_apart hok) j k hj1 hk1 hj
  rw [e1, e2] at this
  exact this e
/-- The pages of the place that comes t-th, C places a row. -/
def bothC (l : List UInt8) (C t : Nat) : Int := frontC l ((t / C : Nat) : Int) ((t % C : Nat) : Int) + backC l ((t / C : Nat) : Int) ((t % C : Nat) : Int)
theorem both_at (l : List UInt8) {C i j : Nat} (hj : j < C) : bothC l C (i * C + j) = frontC l i j + backC l i j := by
  unfold bothC
  have e1 : (i * C + j) / C = i := by rw [Nat.mul_comm, Nat.mul_add_div (by omega), Nat.div_eq_of_lt hj]; omega
  have e2 : (i * C + j) % C = j := by rw [Nat.mul_comm, Nat.mul_add_mod, Nat.mod_eq_of_lt hj]
  rw [e1, e2]
theorem both_lv {l : List UInt8} {row col : Int} {k : Nat} (h : lv l row col = some k) : frontC l row col + backC l row col = 4 * (((stackC l).length : Int) - 1 - k) + 3 := by
  rw [frontC_some h, backC_some h]
  unfold upperC
  cases (celOf l k).up <;> simp <;> omega
theorem level_sum (n : Nat) : ∀ m, m ≤ n → sumN m (fun k => 4 * ((n : Int) - 1 - k) + 3) = 4 * (n : Int) * m - 2 * (m : Int) * m + m
  | 0, _ => by simp [sumN]
  | m + 1, h => by
    rw [sum_succ, level_sum n m (by omega)]
    push_cast
    have h1 : 4 * (n : Int) * ((m : Int) + 1) = 4 * (n : Int) * m + 4 * (n : Int) := by rw [Int.mul_add, Int.mul_one]
    have h2 : 2 * ((m : Int) + 1) * ((m : Int) + 1) = 2 * (m : Int) * m + 4 * m + 2 := by
      rw [Int.mul_add 2 (m : Int) 1, Int.add_mul, Int.mul_add (2 * (m : Int)) m 1]
      omega
    rw [h1, h2]
    omega
theorem pages_sum {l : List UInt8} (hok : sheetOk l = true) : 2 * sumN (rowsOf l * colsOf l) (bothC l (colsOf l)) = (2 * (rowsOf l * colsOf l : Nat) : Int) * ((2 * (rowsOf l * colsOf l : Nat) : Int) + 1) := by
  obtain ⟨R, hR⟩ : ∃ R, R = rowsOf l := ⟨_, rfl⟩
  obtain ⟨C, hC⟩ : ∃ C, C = colsOf l := ⟨_, rfl⟩
  have hlen : (stackC l).length = R * C := by rw [stackC_length, hR, hC, area_eq l (ok_is hok).1]
  rw [← hR, ← hC]
  obtain ⟨n, hn⟩ : ∃ n, n = R * C := ⟨_, rfl⟩
  rw [← hn] at hlen ⊢
  have hC0 : 0 < C := by rw [hC]; exact (colsOf_bd l (ok_is hok).2).1
  have hex : ∀ t, t < n → ∃ k, lv l ((t / C : Nat) : Int) ((t % C : Nat) : Int) = some k := fun t ht => by
    refine lv_some hok (decide_eq_true ?_)
    have h1 : t / C < R := Nat.div_lt_of_lt_mul (by rw [Nat.mul_comm]; omega)
    have h2 : t % C < C := Nat.mod_lt _ hC0
    rw [← hR, ← hC]
    exact ⟨Int.natCast_nonneg _, Int.ofNat_lt.2 h1, Int.natCast_nonneg _, Int.ofNat_lt.2 h2⟩
  have hsum : sumN n (bothC l C) = sumN n (fun t => (fun k : Nat => 4 * ((n : Int) - 1 - k) + 3) ((lv l ((t / C : Nat) : Int) ((t % C : Nat) : Int)).getD 0)) := sum_congr n fun t ht => by
    obtain ⟨k, hk⟩ := hex t ht
    show bothC l C t = _
    unfold bothC
    rw [both_lv hk, hk, hlen]
    rfl
  rw [hsum, sum_perm (fun k : Nat => 4 * ((n : Int) - 1 - k) + 3) n (fun t => (lv l ((t / C : Nat) : Int) ((t % C : Nat) : Int)).getD 0) (fun k => (celOf l k).row.toNat * C + (celOf l k).col.toNat) (fun t ht => by
    obtain ⟨k, hk⟩ := hex t ht
    show (lv l _ _).getD 0 < n
    rw [hk, ← hlen]
    exact lv_lt hk) (fun k hk => by
    obtain ⟨x, hx⟩ : ∃ x, (stackC l)[k]? = some x := ⟨_, List.getElem?_eq_getElem (by omega)⟩
    have hcx : celOf l k = x := by unfold celOf; rw [hx]; rfl
    obtain ⟨r1, r2, c1, c2⟩ := in_range hok (List.mem_of_getElem? hx)
    rw [← hR] at r2
    rw [← hC] at c2
    rw [hcx]
    have hl := lv_atB hok hx
    have e1 : (x.row.toNat : Int) = x.row := by omega
    have e2 : (x.col.toNat : Int) = x.col := by omega
    have d1 : (x.row.toNat * C + x.col.toNat) / C = x.row.toNat := by rw [Nat.mul_comm, Nat.mul_add_div (by omega), Nat.div_eq_of_lt (by omega)]; omega
    have d2 : (x.row.toNat * C + x.col.toNat) % C = x.col.toNat := by rw [Nat.mul_comm, Nat.mul_add_mod, Nat.mod_eq_of_lt (by omega)]
    refine ⟨?_, fun t ht => ⟨fun e => ?_, fun e => ?_⟩⟩
    · have : x.row.toNat * C + C ≤ R * C := by rw [← Nat.succ_mul]; exact Nat.mul_le_mul_right C (by omega)
      omega
    · obtain ⟨k', hk'⟩ := hex t ht
      rw [hk'] at e
      have e : k = k' := e
      subst e
      obtain ⟨_, hx', h1, h2, _⟩ := lv_in hk'
      rw [hcx] at h1 h2
      have : t = C * (t / C) + t % C := (Nat.div_add_mod t C).symm
      rw [this]
      have g1 : x.row.toNat = t / C := by omega
      have g2 : x.col.toNat = t % C := by omega
      rw [g1, g2, Nat.mul_comm]
    · rw [e]
      show k = (lv l _ _).getD 0
      rw [d1, d2, e1, e2, hl]
      rfl), level_sum n n (Nat.le_refl _)]
  have : ∀ z : Int, 2 * (4 * z * z - 2 * z * z + z) = 2 * z * (2 * z + 1) := fun z => by
    rw [Int.mul_add, Int.mul_sub, Int.mul_add]
    have a1 : 4 * z * z = 4 * (z * z) := Int.mul_assoc _ _ _
    have a2 : 2 * z * z = 2 * (z * z) := Int.mul_assoc _ _ _
    have a3 : 2 * z * (2 * z) = 4 * (z * z) := by rw [Int.mul_assoc, Int.mul_left_comm z 2 z]; omega
    rw [a1, a2, a3]
    omega
  exact this n
end Go.Proofs.Ythhkflknbjkneaa
