/- Levels of stamps in plain Lean: the program's and the reference's words for a possible stack say the same, a possible stack read from the other side or numbered from the other end is possible, and how its levels change. Conditions: each theorem's own premises. -/
import Derived.Test.YtadpbbjahckoaaaStampG
namespace Go.Proofs.Ytadpbbjahckoaaa
set_option maxRecDepth 100000
open Go.RowKit
theorem getD_set_self {xs : List Int} {m : Nat} {y : Int} (h : m < xs.length) : (xs.set m y).getD m 0 = y := by
  rw [List.getD_eq_getElem?_getD, List.getElem?_set_self h]
  rfl
theorem getD_set_ne {xs : List Int} {m i : Nat} {y : Int} (h : m ≠ i) : (xs.set m y).getD i 0 = xs.getD i 0 := by
  rw [List.getD_eq_getElem?_getD, List.getElem?_set_ne h, List.getD_eq_getElem?_getD]
/-- Where lvGo succeeds, each level is the last place of its number. -/
theorem lvGo_last {n : Nat} : ∀ {l : List Int} {k : Nat} {acc lv : List Int}, acc.length = n → lvGo n l k acc = some lv → ∀ i : Nat, i < n → lv.getD i 0 = lastGo (i : Int) l k (acc.getD i 0)
  | [], _, acc, lv, _, h, i, _ => by
    have : some acc = some lv := h
    rw [Option.some.inj this]
    rfl
  | x :: t, k, acc, lv, hl, h, i, hi => by
    unfold lvGo at h
    split at h
    · cases h
    · rename_i hc
      rw [lvGo_last (by rw [List.length_set, hl]) h i hi]
      show lastGo _ t (k + 1) _ = lastGo _ t (k + 1) _
      congr 1
      by_cases e : x = (i : Int)
      · subst e
        rw [Int.toNat_natCast, getD_set_self (by omega), if_pos rfl]
      · rw [if_neg e, getD_set_ne (by omega)]
theorem lastGo_at (x : Int) : ∀ (l : List Int) (k : Nat) (acc : Int), lastGo x l k acc = acc ∨ ∃ j : Nat, l[j]? = some x ∧ lastGo x l k acc = (k : Int) + j
  | [], _, _ => .inl rfl
  | y :: t, k, acc => by
    show lastGo x t (k + 1) _ = acc ∨ ∃ j : Nat, (y :: t)[j]? = some x ∧ lastGo x t (k + 1) _ = (k : Int) + j
    rcases lastGo_at x t (k + 1) (if y = x then (k : Int) else acc) with h | ⟨j, h1, h2⟩
    · by_cases e : y = x
      · rw [if_pos e] at h
        rw [if_pos e]
        exact .inr ⟨0, by rw [e]; rfl, by rw [h]; omega⟩
      · rw [if_neg e] at h
        rw [if_neg e]
        exact .inl h
    · exact .inr ⟨j + 1, h1, by rw [h2]; omega⟩
theorem lastOf_at {x : Int} {l : List Int} (h : 0 ≤ lastOf l x) : ∃ k : Nat, lastOf l x = k ∧ l[k]? = some x := by
  unfold lastOf at h ⊢
  rcases lastGo_at x l 0 (-1) with e | ⟨j, h1, h2⟩
  · omega
  · exact ⟨j, by rw [h2]; omega, h1⟩
theorem lastGo_mono (x : Int) : ∀ (l : List Int) (k : Nat) (acc : Int), (0 ≤ acc ∨ x ∈ l) → 0 ≤ lastGo x l k acc
  | [], _, acc, h => by
    rcases h with h | h
    · exact h
    · cases h
  | y :: t, k, acc, h => by
    show 0 ≤ lastGo x t (k + 1) _
    refine lastGo_mono x t (k + 1) _ ?_
    by_cases e : y = x
    · rw [if_pos e]; exact .inl (by omega)
    · rw [if_neg e]
      rcases h with h | h
      · exact .inl h
      · rcases List.mem_cons.1 h with h | h
        · exact absurd h.symm e
        · exact .inr h
theorem lastOf_mem {x : Int} {l : List Int} (h : x ∈ l) : 0 ≤ lastOf l x := lastGo_mono x l 0 (-1) (.inr h)
/-- Where lvGo fails, a number is out of range or there twice. -/
theorem lvGo_none {n : Nat} : ∀ {l : List Int} {k : Nat} {acc p : List Int}, acc.length = n → (∀ i : Nat, i < n → 0 ≤ acc.getD i 0 → (i : Int) ∈ p) → lvGo n l k acc = none → ∃ q x t, p ++ l = q ++ x :: t ∧ (x < 0 ∨ (n : Int) ≤ x ∨ x ∈ q)
  | [], _, _, _, _, _, h => by cases h
  | x :: t, k, acc, p, hl, hp, h => by
    unfold lvGo at h
    split at h
    · rename_i hc
      refine ⟨p, x, t, rfl, ?_⟩
      rcases hc with h1 | h1 | h1
      · exact .inl h1
      · exact .inr (.inl h1)
      · by_cases h0 : x < 0
        · exact .inl h0
        · by_cases h2 : (n : Int) ≤ x
          · exact .inr (.inl h2)
          · refine .inr (.inr ?_)
            have := hp x.toNat (by omega) h1
            rw [Int.toNat_of_nonneg (by omega)] at this
            exact this
    · rename_i hc
      obtain ⟨q, y, u, h1, h2⟩ := lvGo_none (p := p ++ [x]) (by rw [List.length_set, hl]) (fun i hi h0 => by
        by_cases e : x.toNat = i
        · refine List.mem_append.2 (.inr ?_)
          have : x = (i : Int) := by omega
          rw [this]
          exact List.mem_singleton.2 rfl
        · rw [getD_set_ne e] at h0
          exact List.mem_append.2 (.inl (hp i hi h0))) h
      exact ⟨q, y, u, by rw [← h1, List.append_assoc]; rfl, h2⟩
theorem levels_all {l : List Int} (h : ∀ i : Nat, i < l.length → (i : Int) ∈ l) : levelsL l ≠ none := by
  intro hn
  obtain ⟨q, x, t, h1, h2⟩ := lvGo_none (p := []) (List.length_replicate) (fun i hi h0 => by
    rw [List.getD_eq_getElem?_getD, List.getElem?_replicate, if_pos hi] at h0
    exact absurd h0 (by decide)) hn
  rw [List.nil_append] at h1
  have h3 := all_in_length l.length (q ++ t) fun i hi => by
    have := h i hi
    rw [h1] at this
    rcases List.mem_append.1 this with h4 | h4
    · exact List.mem_append.2 (.inl h4)
    · rcases List.mem_cons.1 h4 with h4 | h4
      · rcases h2 with h2 | h2 | h2
        · omega
        · omega
        · rw [h4]; exact List.mem_append.2 (.inl h2)
      · exact List.mem_append.2 (.inr h4)
  have h5 := congrArg List.length h1
  rw [List.length_append, List.length_cons] at h5
  rw [List.length_append] at h3
  omega
theorem countGo {n : Nat} : ∀ {l : List Int} {k : Nat} {acc lv : List Int}, acc.length = n → lvGo n l k acc = some lv → lv.countP (fun x => decide (0 ≤ x)) = acc.countP (fun x => decide (0 ≤ x)) + l.length
  | [], _, acc, lv, _, h => by
    have : some acc = some lv := h
    rw [Option.some.inj this]
    rfl
  | x :: t, k, acc, lv, hl, h => by
    unfold lvGo at h
    split at h
    · cases h
    · rename_i hc
      have hx : x.toNat < acc.length := by omega
      rw [countGo (by rw [List.length_set, hl]) h, List.countP_set hx, List.length_cons]
      have hy : ¬ 0 ≤ acc.getD x.toNat 0 := by omega
      rw [List.getD_eq_getElem?_getD, List.getElem?_eq_getElem hx] at hy
      have hy' : ¬ 0 ≤ acc[x.toNat] := hy
      rw [if_neg (by rw [decide_eq_true_eq]; exact hy'), if_pos (by rw [decide_eq_true_eq]; omega)]
      omega
/-- The levels of a list of numbers: each number is where its level says. -/
def Lv (l lv : List Int) : Prop := lv.length = l.length ∧ ∀ i : Nat, i < l.length → ∃ k : Nat, lv.getD i 0 = (k : Int) ∧ l[k]? = some (i : Int)
theorem levels_lv {l lv : List Int} (h : levelsL l = some lv) : Lv l lv := by
  have hlen := levelsL_length h
  refine ⟨hlen, fun i hi => ?_⟩
  have h1 := lvGo_last List.length_replicate h i hi
  have h2 := countGo List.length_replicate h
  have h3 : (List.replicate l.length (-1 : Int)).countP (fun x => decide (0 ≤ x)) = 0 := by
    rw [List.countP_replicate]
    rfl
  rw [h3, Nat.zero_add, ← hlen, List.countP_eq_length] at h2
  have h4 := h2 (lv.getD i 0) (List.mem_of_getElem? (getD_some (by omega)))
  rw [decide_eq_true_eq] at h4
  have h5 : (List.replicate l.length (-1 : Int)).getD i 0 = -1 := by rw [List.getD_eq_getElem?_getD, List.getElem?_replicate, if_pos hi]; rfl
  rw [h5] at h1
  obtain ⟨k, h6, h7⟩ := lastOf_at (x := (i : Int)) (l := l) (by unfold lastOf; omega)
  exact ⟨k, by rw [h1]; exact h6, h7⟩
theorem Lv.inj {l lv : List Int} (h : Lv l lv) {k m : Nat} {x : Int} (h1 : l[k]? = some x) (h2 : l[m]? = some x) : k = m := by
  apply Classical.byContradiction
  intro hne
  have hk := (List.getElem?_eq_some_iff.1 h1).1
  have h3 := all_in_length l.length (l.eraseIdx k) fun i hi => by
    obtain ⟨j, _, hj⟩ := h.2 i hi
    rw [List.mem_eraseIdx_iff_getElem?]
    by_cases e : j = k
    · subst e
      rw [h1] at hj
      rw [Option.some.inj hj] at h2
      exact ⟨m, fun e => hne e.symm, h2⟩
    · exact ⟨j, e, hj⟩
  rw [List.length_eraseIdx_of_lt hk] at h3
  omega
theorem Lv.mem {l lv : List Int} (h : Lv l lv) (i : Nat) (hi : i < l.length) : (i : Int) ∈ l := by
  obtain ⟨k, _, h2⟩ := h.2 i hi
  exact List.mem_of_getElem? h2
theorem Lv.uniq {l a b : List Int} (h : Lv l a) (k : Lv l b) : a = b := by
  refine List.ext_getElem (by rw [h.1, k.1]) fun i h1 h2 => ?_
  have hi : i < l.length := by rw [← h.1]; exact h1
  obtain ⟨p, p1, p2⟩ := h.2 i hi
  obtain ⟨q, q1, q2⟩ := k.2 i hi
  rw [h.inj p2 q2] at p1
  have e1 := getD_some h1
  have e2 := getD_some h2
  rw [List.getElem?_eq_getElem h1, p1] at e1
  rw [List.getElem?_eq_getElem h2, q1] at e2
  rw [Option.some.inj e1, Option.some.inj e2]
theorem lv_levels {l lv : List Int} (h : Lv l lv) : levelsL l = some lv := by
  cases e : levelsL l with
  | none => exact absurd e (levels_all h.mem)
  | some a => rw [h.uniq (levels_lv e)]
theorem sLevels_lv {l : List Int} (h : ∀ i : Nat, i < l.length → (i : Int) ∈ l) : Lv l (sLevels l.length l) := by
  rw [sLevels_all fun i hi => lastOf_mem (h i hi)]
  refine ⟨by rw [List.length_map, List.length_range], fun i hi => ?_⟩
  obtain ⟨k, h1, h2⟩ := lastOf_at (lastOf_mem (h i hi))
  refine ⟨k, ?_, h2⟩
  rw [List.getD_eq_getElem?_getD, List.getElem?_map, List.getElem?_range hi]
  exact h1
theorem sLevels_full {l : List Int} (h : (sLevels l.length l).length = l.length) : ∀ i : Nat, i < l.length → (i : Int) ∈ l := by
  intro i hi
  apply Classical.byContradiction
  intro hm
  have h0 : lastOf l (i : Int) < 0 := by
    apply Classical.byContradiction
    intro hc
    obtain ⟨k, _, h2⟩ := lastOf_at (x := (i : Int)) (l := l) (by omega)
    exact hm (List.mem_of_getElem? h2)
  rw [sLevels_none hi h0] at h
  simp only [List.length_nil] at h
  omega
/-- Both words for levels say the same. -/
theorem levels_same (l : List Int) : (levelsL l = none ∧ (sLevels l.length l).length ≠ l.length) ∨ (levelsL l = some (sLevels l.length l) ∧ Lv l (sLevels l.length l)) := by
  cases e : levelsL l with
  | some lv =>
    have h := levels_lv e
    have h2 := sLevels_lv h.mem
    exact .inr ⟨by rw [h.uniq h2], h2⟩
  | none => exact .inl ⟨rfl, fun hf => levels_all (sLevels_full hf) e⟩
theorem pair_sym {a b c d : Int} (h1 : a ≠ c) (h2 : a ≠ d) (h3 : b ≠ c) (h4 : b ≠ d) : (btw c a b == btw d a b) = (btw a c d == btw b c d) := by
  have key : ((min a b < c ∧ c < max a b) ↔ (min a b < d ∧ d < max a b)) ↔ ((min c d < a ∧ a < max c d) ↔ (min c d < b ∧ b < max c d)) := by omega
  have e : ∀ x p q : Int, btw x p q = decide (min p q < x ∧ x < max p q) := fun x p q => by
    unfold btw
    rw [Bool.decide_and]
  have f : ∀ P Q : Prop, [Decidable P] → [Decidable Q] → (decide P == decide Q) = decide (P ↔ Q) := fun P Q _ _ => by
    by_cases h1 : P <;> by_cases h2 : Q <;> simp [h1, h2]
  rw [e, e, e, e, f, f]
  exact decide_eq_decide.2 key
theorem Lv.ne {l lv : List Int} (h : Lv l lv) {i j : Nat} (hi : i < l.length) (hj : j < l.length) (hij : i ≠ j) : lv.getD i 0 ≠ lv.getD j 0 := by
  intro e
  obtain ⟨p, p1, p2⟩ := h.2 i hi
  obtain ⟨q, q1, q2⟩ := h.2 j hj
  have : p = q := by omega
  rw [this, q2] at p2
  have := Option.some.inj p2
  omega
/-- No two pairs of one side lie through each other. -/
def UnX (n : Nat) (lv : List Int) : Prop := ∀ k o : Nat, k + 1 < n → o + 1 < n → k ≠ o → k % 2 = o % 2 → pairOk lv k o = true
theorem pairOk_sym {l lv : List Int} (h : Lv l lv) {k o : Nat} (hk : k + 1 < l.length) (ho : o + 1 < l.length) (hne : k ≠ o) (hp : k % 2 = o % 2) : pairOk lv k o = pairOk lv o k := by
  unfold pairOk
  exact pair_sym (h.ne (by omega) (by omega) (by omega)) (h.ne (by omega) (by omega) (by omega)) (h.ne (by omega) (by omega) (by omega)) (h.ne (by omega) (by omega) (by omega))
theorem unx_impl {l lv : List Int} (h : Lv l lv) : uncrossedL lv = true ↔ UnX l.length lv := by
  constructor
  · intro hu k o hk ho hne hp
    have key : ∀ a b : Nat, a < b → a % 2 = b % 2 → b + 1 < l.length → pairOk lv a b = true := by
      intro a b hab hpar hb
      obtain ⟨j, rfl⟩ : ∃ j, b = a + 2 + 2 * j := ⟨(b - a - 2) / 2, by omega⟩
      cases e : pairOk lv a (a + 2 + 2 * j) with
      | true => rfl
      | false => rw [uncrossed_false (by rw [h.1]; exact hb) e] at hu; cases hu
    rcases Nat.lt_or_gt_of_ne hne with h1 | h1
    · exact key k o h1 hp ho
    · rw [pairOk_sym h hk ho hne hp]
      exact key o k h1 hp.symm hk
  · intro hu
    refine uncrossed_true fun k j hj => ?_
    rw [h.1] at hj
    exact hu _ _ (by omega) (by omega) (by omega) (by omega)
theorem unx_spec {l lv : List Int} (h : Lv l lv) : sUncrossedL lv = true ↔ UnX l.length lv := by
  constructor
  · intro hu k o hk ho hne hp
    have key : ∀ a b : Nat, a < b → a % 2 = b % 2 → b + 1 < l.length → pairOk lv b a = true := by
      intro a b hab hpar hb
      obtain ⟨j, hj⟩ : ∃ j, a = b % 2 + 2 * j := ⟨a / 2, by omega⟩
      cases e : pairOk lv b a with
      | true => rfl
      | false => rw [hj] at e hab; rw [sUncrossed_false (by rw [h.1]; exact hb) hab e] at hu; cases hu
    rcases Nat.lt_or_gt_of_ne hne with h1 | h1
    · rw [pairOk_sym h hk ho hne hp]
      exact key k o h1 hp ho
    · exact key o k h1 hp.symm hk
  · intro hu
    refine sUncrossed_true fun k j hk hj => ?_
    rw [h.1] at hk
    exact hu _ _ (by omega) (by omega) (by omega) (by omega)
theorem unx_same {l lv : List Int} (h : Lv l lv) : uncrossedL lv = sUncrossedL lv := by
  rw [Bool.eq_iff_iff, unx_impl h, unx_spec h]
/-- A possible stack, told by its levels. -/
theorem poss_iff (l : List Int) : possL l = true ↔ rangeN l.length = true ∧ ∃ lv, Lv l lv ∧ UnX l.length lv := by
  unfold possL
  rw [Bool.and_eq_true]
  refine and_congr Iff.rfl ?_
  cases e : levelsL l with
  | none =>
    refine ⟨fun h => (by cases h), fun ⟨lv, h, _⟩ => ?_⟩
    rw [lv_levels h] at e
    cases e
  | some lv =>
    have h := levels_lv e
    show uncrossedL lv = true ↔ _
    rw [unx_impl h]
    exact ⟨fun h1 => ⟨lv, h, h1⟩, fun ⟨a, h1, h2⟩ => by rw [h.uniq h1]; exact h2⟩
theorem poss_same (l : List Int) : possL l = sPossL l := by
  unfold possL sPossL sStackL
  rcases levels_same l with ⟨h1, h2⟩ | ⟨h1, h2⟩
  · rw [h1, decide_eq_false h2]
    cases rangeN l.length <;> rfl
  · rw [h1, decide_eq_true h2.1]
    show (_ && uncrossedL _) = _
    rw [unx_same h2]
    cases rangeN l.length <;> rfl
/-- Levels of the other order. -/
theorem Lv.reverse {l lv : List Int} (h : Lv l lv) : Lv l.reverse (lv.map fun x => (l.length : Int) - 1 - x) := by
  refine ⟨by rw [List.length_map, List.length_reverse, h.1], fun i hi => ?_⟩
  rw [List.length_reverse] at hi
  obtain ⟨k, h1, h2⟩ := h.2 i hi
  have hk := (List.getElem?_eq_some_iff.1 h2).1
  refine ⟨l.length - 1 - k, ?_, ?_⟩
  · have := getD_some (xs := lv) (i := i) (by rw [h.1]; exact hi)
    rw [List.getD_eq_getElem?_getD, List.getElem?_map, this, h1]
    show (l.length : Int) - 1 - k = _
    omega
  · rw [List.getElem?_reverse (by omega), show l.length - 1 - (l.length - 1 - k) = k by omega]
    exact h2
theorem getD_over {lv : List Int} {N : Int} {i : Nat} (h : i < lv.length) : (lv.map fun x => N - x).getD i 0 = N - lv.getD i 0 := by
  rw [List.getD_eq_getElem?_getD, List.getElem?_map, getD_some h]
  rfl
theorem btw_over (N x a b : Int) : btw (N - x) (N - a) (N - b) = btw x a b := by
  unfold btw
  rw [Bool.eq_iff_iff]
  simp only [Bool.and_eq_true, decide_eq_true_eq]
  omega
theorem UnX.reverse {n : Nat} {lv : List Int} {N : Int} (h : UnX n lv) (hl : lv.length = n) : UnX n (lv.map fun x => N - x) := by
  intro k o hk ho hne hp
  have := h k o hk ho hne hp
  unfold pairOk at this ⊢
  rw [getD_over (by omega), getD_over (by omega), getD_over (by omega), getD_over (by omega), btw_over, btw_over]
  exact this
theorem poss_reverse {l : List Int} (h : possL l = true) : possL l.reverse = true := by
  rw [poss_iff] at h ⊢
  obtain ⟨h1, lv, h2, h3⟩ := h
  rw [List.length_reverse]
  exact ⟨h1, _, h2.reverse, h3.reverse h2.1⟩
theorem getD_rev {lv : List Int} {i : Nat} (h : i < lv.length) : lv.reverse.getD i 0 = lv.getD (lv.length - 1 - i) 0 := by
  rw [List.getD_eq_getElem?_getD, List.getElem?_reverse h, List.getD_eq_getElem?_getD]
/-- Levels of a stack numbered from its other end. -/
theorem Lv.back {l lv : List Int} (h : Lv l lv) : Lv (backL l) lv.reverse := by
  refine ⟨by rw [List.length_reverse, backL_length, h.1], fun i hi => ?_⟩
  rw [backL_length] at hi
  obtain ⟨k, h1, h2⟩ := h.2 (l.length - 1 - i) (by omega)
  refine ⟨k, ?_, ?_⟩
  · rw [getD_rev (by rw [h.1]; exact hi), h.1]
    exact h1
  · unfold backL
    rw [List.getElem?_map, h2]
    show some ((l.length : Int) - 1 - ((l.length - 1 - i : Nat) : Int)) = some (i : Int)
    congr 1
    omega
theorem btw_comm (x a b : Int) : btw x a b = btw x b a := by
  unfold btw
  rw [Int.min_comm, Int.max_comm]
theorem UnX.back {n : Nat} {lv : List Int} (h : UnX n lv) (hl : lv.length = n) : UnX n lv.reverse := by
  intro k o hk ho hne hp
  have := h (n - 2 - k) (n - 2 - o) (by omega) (by omega) (by omega) (by omega)
  unfold pairOk at this ⊢
  rw [getD_rev (by omega), getD_rev (by omega), getD_rev (by omega), getD_rev (by omega), hl]
  rw [show n - 2 - k + 1 = n - 1 - k by omega, show n - 2 - k = n - 1 - (k + 1) by omega, show n - 2 - o + 1 = n - 1 - o by omega, show n - 2 - o = n - 1 - (o + 1) by omega] at this
  rw [btw_comm, btw_comm (lv.getD (n - 1 - (o + 1)) 0)]
  rw [beq_iff_eq] at this ⊢
  exact this.symm
theorem poss_back {l : List Int} (h : possL l = true) : possL (backL l) = true := by
  rw [poss_iff] at h ⊢
  obtain ⟨h1, lv, h2, h3⟩ := h
  rw [backL_length]
  exact ⟨h1, _, h2.back, h3.back h2.1⟩
theorem back_reverse (l : List Int) : backL l.reverse = (backL l).reverse := by
  unfold backL
  rw [List.map_reverse, List.length_reverse]
theorem back_back (l : List Int) : backL (backL l) = l := by
  unfold backL
  rw [List.map_map, List.length_map]
  conv => rhs; rw [← List.map_id l]
  refine List.map_congr_left fun x _ => ?_
  show (l.length : Int) - 1 - ((l.length : Int) - 1 - x) = x
  omega
theorem foldB_over {l lv : List Int} (h : Lv l lv) {k : Nat} (hk : k + 1 < l.length) : foldB (lv.map fun x => (l.length : Int) - 1 - x) k = swp (foldB lv k) := by
  have hne := h.ne (i := k) (j := k + 1) (by omega) hk (by omega)
  have hl := h.1
  unfold foldB
  rw [getD_over (by omega), getD_over (by omega)]
  have e : decide ((l.length : Int) - 1 - lv.getD k 0 < (l.length : Int) - 1 - lv.getD (k + 1) 0) = !decide (lv.getD k 0 < lv.getD (k + 1) 0) := by
    rw [← decide_not]
    exact decide_eq_decide.2 (by omega)
  rw [e]
  cases decide (lv.getD k 0 < lv.getD (k + 1) 0) <;> cases ((k : Int) % 2 == 0) <;> rfl
theorem folds_over {l lv : List Int} (h : Lv l lv) : foldsL (lv.map fun x => (l.length : Int) - 1 - x) (l.length - 1) = (foldsL lv (l.length - 1)).map swp := by
  unfold foldsL
  rw [List.map_map]
  refine List.map_congr_left fun k hk => ?_
  have := List.mem_range.1 hk
  exact foldB_over h (by omega)
end Go.Proofs.Ytadpbbjahckoaaa
