/- The program's stacks, sorted, are the reference's stacks, in plain Lean, at every number of stamps. Conditions: each theorem's own premises. -/
import Derived.Test.YtadpbbjahckoaaaIterB
import Derived.Test.YtadpbbjahckoaaaSortA
namespace Go.Proofs.Ytadpbbjahckoaaa
set_option maxRecDepth 100000
open Go.RowKit
theorem cmpL_prefix : ∀ (b t u : List Int), cmpL (b ++ t) (b ++ u) = cmpL t u
  | [], _, _ => rfl
  | x :: b, t, u => by
    show (if x < x then -1 else if x < x then 1 else cmpL (b ++ t) (b ++ u)) = _
    rw [if_neg (by omega), if_neg (by omega)]
    exact cmpL_prefix b t u
theorem allL_prefix (n : Nat) : ∀ (m : Nat) (b l : List Int), l ∈ allL n m b → ∃ t, l = b ++ t
  | 0, b, l, h => ⟨[], by rw [List.append_nil]; exact List.mem_singleton.1 h⟩
  | m + 1, b, l, h => by
    have h' : l ∈ List.flatMap (fun (j : Nat) => if b.contains (j : Int) then [] else allL n m (b ++ [(j : Int)])) (List.range n) := h
    obtain ⟨j, _, hm⟩ := List.mem_flatMap.1 h'
    by_cases hc : b.contains (j : Int) = true
    · rw [if_pos hc] at hm; cases hm
    · rw [if_neg hc] at hm
      obtain ⟨t, ht⟩ := allL_prefix n m _ l hm
      exact ⟨(j : Int) :: t, by rw [ht, List.append_assoc]; rfl⟩
theorem allL_sorted (n : Nat) : ∀ (m : Nat) (b : List Int), (allL n m b).Pairwise fun x y => cmpL x y < 0
  | 0, b => List.pairwise_singleton _ _
  | m + 1, b => by
    show (List.flatMap (fun (j : Nat) => if b.contains (j : Int) then [] else allL n m (b ++ [(j : Int)])) (List.range n)).Pairwise _
    rw [List.pairwise_flatMap]
    refine ⟨fun j _ => ?_, List.pairwise_lt_range.imp fun {i j} hij x hx y hy => ?_⟩
    · show (if b.contains (j : Int) then [] else allL n m (b ++ [(j : Int)])).Pairwise _
      split
      · exact List.Pairwise.nil
      · exact allL_sorted n m _
    · have hx' : x ∈ (if b.contains (i : Int) then [] else allL n m (b ++ [(i : Int)])) := hx
      have hy' : y ∈ (if b.contains (j : Int) then [] else allL n m (b ++ [(j : Int)])) := hy
      split at hx'
      · cases hx'
      · split at hy'
        · cases hy'
        · obtain ⟨t, rfl⟩ := allL_prefix n m _ x hx'
          obtain ⟨u, rfl⟩ := allL_prefix n m _ y hy'
          rw [List.append_assoc, List.append_assoc, cmpL_prefix]
          show (if (i : Int) < (j : Int) then -1 else if (j : Int) < (i : Int) then 1 else cmpL t u) < 0
          rw [if_pos (by omega)]
          omega
theorem stacksS_sorted (n : Nat) : (stacksS n).Pairwise fun x y => cmpL x y < 0 := (allL_sorted n n []).filter possL
theorem stacksS_nodup (n : Nat) : (stacksS n).Nodup := (stacksS_sorted n).imp fun {a b} h e => by
  rw [e, cmpL_self] at h
  omega
theorem insertAt_erase {l : List Int} {i : Nat} {x : Int} (hx : x ∉ l) : (insertAt l i x).erase x = l := by
  unfold insertAt
  rw [List.append_assoc, List.erase_append_right _ (fun h => hx (List.mem_of_mem_take h))]
  show l.take i ++ (x :: l.drop i).erase x = l
  rw [List.erase_cons_head, List.take_append_drop]
theorem insertAt_get {l : List Int} {i : Nat} (hi : i ≤ l.length) (x : Int) : (insertAt l i x)[i]? = some x := by
  unfold insertAt
  rw [List.append_assoc, List.getElem?_append_right (by rw [List.length_take]; omega), List.length_take, Nat.min_eq_left hi, Nat.sub_self]
  rfl
theorem insertAt_low {l : List Int} {i j : Nat} (hij : i < j) (hj : j ≤ l.length) (x : Int) : (insertAt l j x)[i]? = l[i]? := by
  unfold insertAt
  rw [List.append_assoc, List.getElem?_append_left (by rw [List.length_take]; omega), List.getElem?_take, if_pos hij]
theorem squeeze (p v : Int) (f : Int → Int) (hf : ∀ v, f v = if v > p then v - 1 else v) : f v = if v > p then v - 1 else v := hf v
theorem btw_squeeze {p x a b : Int} (hx : x ≠ p) (ha : a ≠ p) (hb : b ≠ p) : btw (if x > p then x - 1 else x) (if a > p then a - 1 else a) (if b > p then b - 1 else b) = btw x a b := by
  unfold btw
  rw [Bool.eq_iff_iff]
  simp only [Bool.and_eq_true, decide_eq_true_eq]
  split <;> split <;> split <;> omega
/-- A possible stack without its last stamp is possible. -/
theorem poss_less {l : List Int} {n p : Nat} (hl : l.length = n + 1) (h1 : 1 ≤ n) (h : possL l = true) (hp : l[p]? = some (n : Int)) : possL (l.eraseIdx p) = true := by
  rw [poss_iff] at h ⊢
  obtain ⟨hr, lv, hlv, hU⟩ := h
  have hpl := (List.getElem?_eq_some_iff.1 hp).1
  have hlen : (l.eraseIdx p).length = n := by rw [List.length_eraseIdx_of_lt hpl]; omega
  rw [hlen]
  have hpn : lv.getD n 0 = (p : Int) := by
    obtain ⟨k, h2, h3⟩ := hlv.2 n (by omega)
    rw [h2, hlv.inj h3 hp]
  have hget : ∀ i, i < n → ((List.range n).map fun (i : Nat) => if lv.getD i 0 > (p : Int) then lv.getD i 0 - 1 else lv.getD i 0).getD i 0 = if lv.getD i 0 > (p : Int) then lv.getD i 0 - 1 else lv.getD i 0 := fun i hi => by
    rw [List.getD_eq_getElem?_getD, List.getElem?_map, List.getElem?_range hi]
    rfl
  have hne : ∀ i, i < n → lv.getD i 0 ≠ (p : Int) := fun i hi => by
    rw [← hpn]
    exact hlv.ne (by omega) (by omega) (by omega)
  refine ⟨?_, (List.range n).map fun (i : Nat) => if lv.getD i 0 > (p : Int) then lv.getD i 0 - 1 else lv.getD i 0, ⟨by rw [List.length_map, List.length_range, hlen], fun i hi => ?_⟩, ?_⟩
  · unfold rangeN at hr ⊢
    rw [decide_eq_true_eq] at hr ⊢
    omega
  · rw [hlen] at hi
    obtain ⟨k, h2, h3⟩ := hlv.2 i (by omega)
    have h4 := hne i hi
    rw [hget i hi, h2]
    by_cases hk : p < k
    · refine ⟨k - 1, by rw [if_pos (by omega)]; omega, ?_⟩
      rw [List.getElem?_eraseIdx, if_neg (by omega), show k - 1 + 1 = k by omega]
      exact h3
    · refine ⟨k, by rw [if_neg (by omega)], ?_⟩
      rw [List.getElem?_eraseIdx, if_pos (by omega)]
      exact h3
  · intro k o hk ho hko hpar
    have h5 := hU k o (by omega) (by omega) hko hpar
    unfold pairOk at h5 ⊢
    rw [hget k (by omega), hget (k + 1) hk, hget o (by omega), hget (o + 1) ho, btw_squeeze (hne o (by omega)) (hne k (by omega)) (hne (k + 1) hk), btw_squeeze (hne (o + 1) ho) (hne k (by omega)) (hne (k + 1) hk)]
    exact h5
theorem stacksL_mem : ∀ n : Nat, 1 ≤ n → ∀ l : List Int, l ∈ stacksL n ↔ l.length = n ∧ possL l = true
  | 0, h, _ => by omega
  | 1, _, l => by
    constructor
    · intro h
      have : l = [0] := List.mem_singleton.1 h
      rw [this]
      exact ⟨rfl, by decide⟩
    · rintro ⟨h1, h2⟩
      match l, h1, h2 with
      | [x], _, h2 =>
        have := poss_in h2 x (by simp)
        simp only [List.length_singleton] at this
        have hx : x = 0 := by omega
        rw [hx]
        exact List.mem_singleton.2 rfl
  | n + 2, _, l => by
    have hdef : stacksL (n + 2) = (stacksL (n + 1)).flatMap fun l => putTo (n + 2) l (n + 2) := rfl
    constructor
    · intro h
      refine ⟨stacksL_length (n + 2) (by omega) l h, ?_⟩
      rw [hdef] at h
      obtain ⟨t, _, hm⟩ := List.mem_flatMap.1 h
      unfold putTo at hm
      exact (List.mem_filter.1 hm).2
    · rintro ⟨h1, h2⟩
      obtain ⟨_, lv, hlv, _⟩ := (poss_iff l).1 h2
      obtain ⟨p, _, hp⟩ := hlv.2 (n + 1) (by omega)
      have hpl := (List.getElem?_eq_some_iff.1 hp).1
      have h3 := poss_less (n := n + 1) h1 (by omega) h2 hp
      have h4 : (l.eraseIdx p).length = n + 1 := by rw [List.length_eraseIdx_of_lt hpl]; omega
      have h5 := (stacksL_mem (n + 1) (by omega) (l.eraseIdx p)).2 ⟨h4, h3⟩
      have h6 : insertAt (l.eraseIdx p) p (((n + 2 : Nat) : Int) - 1) = l := by
        have e : ((n + 2 : Nat) : Int) - 1 = ((n + 1 : Nat) : Int) := by omega
        obtain ⟨_, hx⟩ := List.getElem?_eq_some_iff.1 hp
        unfold insertAt
        have ht : (l.take p).length = p := by rw [List.length_take]; omega
        rw [e, List.eraseIdx_eq_take_drop_succ, List.take_left' ht, List.drop_left' ht, ← hx, List.append_assoc]
        show l.take p ++ l[p] :: l.drop (p + 1) = l
        rw [← List.drop_eq_getElem_cons hpl, List.take_append_drop]
      rw [hdef]
      refine List.mem_flatMap.2 ⟨l.eraseIdx p, h5, ?_⟩
      unfold putTo
      exact List.mem_filter.2 ⟨List.mem_map.2 ⟨p, List.mem_range.2 (by omega), h6⟩, h2⟩
theorem stacksL_nodup : ∀ n : Nat, (stacksL n).Nodup
  | 0 => List.pairwise_singleton _ _
  | 1 => List.pairwise_singleton _ _
  | n + 2 => by
    have hdef : stacksL (n + 2) = (stacksL (n + 1)).flatMap fun l => putTo (n + 2) l (n + 2) := rfl
    have hno : ∀ l ∈ stacksL (n + 1), l.length = n + 1 ∧ ((n + 2 : Nat) : Int) - 1 ∉ l := fun l hl => by
      obtain ⟨h1, h2⟩ := (stacksL_mem (n + 1) (by omega) l).1 hl
      refine ⟨h1, fun hm => ?_⟩
      have := poss_in h2 _ hm
      omega
    rw [hdef]
    show List.Pairwise _ _
    rw [List.pairwise_flatMap]
    refine ⟨fun l hl => ?_, ?_⟩
    · obtain ⟨h1, h2⟩ := hno l hl
      unfold putTo
      refine List.Pairwise.filter _ ?_
      rw [List.pairwise_map, List.pairwise_iff_getElem]
      intro i j hi hj hij e
      rw [List.getElem_range, List.getElem_range] at e
      rw [List.length_range] at hi hj
      have e1 := insertAt_get (l := l) (i := i) (by omega) (((n + 2 : Nat) : Int) - 1)
      rw [e, insertAt_low hij (by omega)] at e1
      exact h2 (List.mem_of_getElem? e1)
    · refine List.Pairwise.imp_of_mem ?_ (stacksL_nodup (n + 1))
      intro a b ha hb hab x hx y hy e
      unfold putTo at hx hy
      obtain ⟨i, _, rfl⟩ := List.mem_map.1 (List.mem_filter.1 hx).1
      obtain ⟨j, _, rfl⟩ := List.mem_map.1 (List.mem_filter.1 hy).1
      have e1 : (insertAt a i (((n + 2 : Nat) : Int) - 1)).erase (((n + 2 : Nat) : Int) - 1) = (insertAt b j (((n + 2 : Nat) : Int) - 1)).erase (((n + 2 : Nat) : Int) - 1) := by rw [e]
      rw [insertAt_erase (hno a ha).2, insertAt_erase (hno b hb).2] at e1
      exact hab e1
theorem sorted_eq : ∀ {a b : List (List Int)}, a.Perm b → (a.Pairwise fun x y => ¬ cmpL y x < 0) → (b.Pairwise fun x y => cmpL x y < 0) → a = b
  | [], b, h, _, _ => (List.nil_perm.1 h).symm
  | x :: s, [], h, _, _ => absurd (List.perm_nil.1 h) (by simp)
  | x :: s, y :: t, h, ha, hb => by
    obtain ⟨ha1, ha2⟩ := List.pairwise_cons.1 ha
    obtain ⟨hb1, hb2⟩ := List.pairwise_cons.1 hb
    have hxy : x = y := by
      have hy : y ∈ x :: s := h.mem_iff.2 (by simp)
      have hx : x ∈ y :: t := h.mem_iff.1 (by simp)
      rcases List.mem_cons.1 hy with h1 | h1
      · exact h1.symm
      · rcases List.mem_cons.1 hx with h2 | h2
        · exact h2
        · exact absurd (hb1 x h2) (ha1 y h1)
    subst hxy
    rw [sorted_eq (List.Perm.cons_inv h) ha2 hb2]
theorem perms {n : Nat} (h1 : 1 ≤ n) : (stacksL n).Perm (stacksS n) := by
  rw [List.perm_ext_iff_of_nodup (stacksL_nodup n) (stacksS_nodup n)]
  intro l
  rw [stacksL_mem n h1]
  exact ⟨fun ⟨h2, h3⟩ => by rw [← h2]; exact poss_mem h3, stacks_mem⟩
theorem manyS {n : Nat} (h1 : 1 ≤ n) : (stacksL n).length = (stacksS n).length := (perms h1).length_eq
theorem idL_poss (n : Nat) (h1 : 1 ≤ n) (h7 : n ≤ 7) : possL ((List.range n).map fun (k : Nat) => (k : Int)) = true := by
  have e : n = 1 ∨ n = 2 ∨ n = 3 ∨ n = 4 ∨ n = 5 ∨ n = 6 ∨ n = 7 := by omega
  rcases e with rfl | rfl | rfl | rfl | rfl | rfl | rfl
  all_goals decide +kernel
theorem stacks_pos {n : Nat} (h1 : 1 ≤ n) (h7 : n ≤ 7) : 0 < (stacksL n).length :=
  List.length_pos_of_mem ((stacksL_mem n h1 _).2 ⟨by rw [List.length_map, List.length_range], idL_poss n h1 h7⟩)
theorem sorted_stacks {n : Nat} (h1 : 1 ≤ n) {l : List (List Int)} (hp : l.Perm (stacksL n)) (hs : l.Pairwise fun x y => ¬ cmpL y x < 0) : l = stacksS n :=
  sorted_eq (hp.trans (perms h1)) hs (stacksS_sorted n)
end Go.Proofs.Ytadpbbjahckoaaa
