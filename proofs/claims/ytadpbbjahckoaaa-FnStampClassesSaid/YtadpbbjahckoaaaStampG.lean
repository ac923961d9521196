/- Lists of lists of integers in memory, and all orders of numbers as a plain list: words of our own. Conditions: each theorem's own premises. -/
import Derived.Test.YtadpbbjahckoaaaStampF
namespace Go.Proofs.Ytadpbbjahckoaaa
set_option maxRecDepth 100000
open Go.RowKit
/-- A list of integers in memory: its block, its capacity, what it holds. -/
structure RD where
  g : Nat
  cap : Nat
  xs : List Int
def RD.v (r : RD) : Value := .slice (some ⟨r.g, 0, none⟩) r.xs.length r.cap
/-- These lists lie in memory, from block lo on, none of them in block q. -/
def Lie (w : World) (lo q : Nat) (rs : List RD) : Prop := ∀ r ∈ rs, RowI w r.g r.xs ∧ r.g ≠ q ∧ lo ≤ r.g
/-- A list of lists has come back, in a block of its own. -/
def ListsBack (w : World) (lo : Nat) (xss : List (List Int)) (e : Ending) (w' : World) : Prop :=
  ∃ (rs : List RD) (G k cap : Nat), rs.map RD.xs = xss ∧ rs.length = k ∧ e = .returned (.slice (some ⟨G, 0, none⟩) k cap) ∧
    w'.ownsRow w.heap.size 22 1 (.slice (some ⟨G, 0, none⟩) k cap) k (rs.map RD.v) ∧ w.heap.size ≤ G ∧ Lie w' lo G rs ∧ Below w.heap.size w w'
/-- All lists of n numbers that begin with b, m numbers to come. -/
def allL (n : Nat) : Nat → List Int → List (List Int)
  | 0, b => [b]
  | m + 1, b => (List.range n).flatMap fun (j : Nat) => if b.contains (j : Int) then [] else allL n m (b ++ [(j : Int)])
def allTo (n m : Nat) (b : List Int) (i : Nat) : List (List Int) := (List.range i).flatMap fun (j : Nat) => if b.contains (j : Int) then [] else allL n m (b ++ [(j : Int)])
theorem allTo_zero (n m : Nat) (b : List Int) : allTo n m b 0 = [] := rfl
theorem allTo_full (n m : Nat) (b : List Int) : allTo n m b n = allL n (m + 1) b := rfl
theorem allTo_skip {n m i : Nat} {b : List Int} (h : b.contains (i : Int) = true) : allTo n m b (i + 1) = allTo n m b i := by
  unfold allTo
  rw [List.range_succ, List.flatMap_append]
  simp only [List.flatMap_cons, List.flatMap_nil, h]
  simp
theorem allTo_add {n m i : Nat} {b : List Int} (h : b.contains (i : Int) = false) : allTo n m b (i + 1) = allTo n m b i ++ allL n m (b ++ [(i : Int)]) := by
  unfold allTo
  rw [List.range_succ, List.flatMap_append]
  simp only [List.flatMap_cons, List.flatMap_nil, h]
  simp
/-- Some number below n is missing in a list of fewer than n. -/
theorem all_in_length : ∀ (n : Nat) (b : List Int), (∀ i : Nat, i < n → (i : Int) ∈ b) → n ≤ b.length
  | 0, _, _ => Nat.zero_le _
  | n + 1, b, h => by
    have h1 := all_in_length n (b.erase (n : Int)) fun i hi => (List.mem_erase_of_ne (by omega)).2 (h i (by omega))
    have h2 : (n : Int) ∈ b := h n (by omega)
    have h3 := List.length_erase_of_mem h2
    have h4 := List.length_pos_of_mem h2
    omega
theorem allL_some (n : Nat) : ∀ (m : Nat) (b : List Int), b.length + m = n → 0 < (allL n m b).length
  | 0, b, _ => by show 0 < 1; omega
  | m + 1, b, h => by
    have : ∃ i : Nat, i < n ∧ (i : Int) ∉ b := by
      apply Classical.byContradiction
      intro hno
      have := all_in_length n b fun i hi => Classical.byContradiction fun hx => hno ⟨i, hi, hx⟩
      omega
    obtain ⟨i, hi, hb⟩ := this
    have h1 := allL_some n m (b ++ [(i : Int)]) (by rw [List.length_append, List.length_singleton]; omega)
    obtain ⟨l, hl⟩ := List.exists_mem_of_length_pos h1
    refine List.length_pos_of_mem (a := l) ?_
    show l ∈ List.flatMap _ _
    rw [List.mem_flatMap]
    exact ⟨i, List.mem_range.2 hi, by rw [List.contains_eq_mem, if_neg (by simpa using hb)]; exact hl⟩
theorem flat_length {α β : Type} (f : α → List β) (K : Nat) : ∀ (l : List α), (∀ x ∈ l, (f x).length ≤ K) → (l.flatMap f).length ≤ l.length * K
  | [], _ => by simp
  | x :: t, h => by
    rw [List.flatMap_cons, List.length_append, List.length_cons, Nat.succ_mul]
    have h1 := h x (by simp)
    have h2 := flat_length f K t fun y hy => h y (by simp [hy])
    omega
theorem allL_length (n : Nat) (hn : n ≤ 7) : ∀ (m : Nat) (b : List Int), (allL n m b).length ≤ 7 ^ m
  | 0, _ => by show 1 ≤ 1; omega
  | m + 1, b => by
    have h := flat_length (fun j : Nat => if b.contains (j : Int) then [] else allL n m (b ++ [(j : Int)])) (7 ^ m) (List.range n) (fun j _ => by
      show (if b.contains (j : Int) then [] else allL n m (b ++ [(j : Int)])).length ≤ _
      split
      · simp
      · exact allL_length n hn m _)
    rw [List.length_range] at h
    have h2 : n * 7 ^ m ≤ 7 * 7 ^ m := Nat.mul_le_mul_right _ hn
    rw [Nat.pow_succ, Nat.mul_comm]
    exact Nat.le_trans h h2
theorem allTo_length (n : Nat) (hn : n ≤ 7) (m : Nat) (b : List Int) (i : Nat) (hi : i ≤ n) : (allTo n m b i).length ≤ 7 ^ (m + 1) := by
  have h := flat_length (fun j : Nat => if b.contains (j : Int) then [] else allL n m (b ++ [(j : Int)])) (7 ^ m) (List.range i) (fun j _ => by
    show (if b.contains (j : Int) then [] else allL n m (b ++ [(j : Int)])).length ≤ _
    split
    · simp
    · exact allL_length n hn m _)
  rw [List.length_range] at h
  have h2 : i * 7 ^ m ≤ 7 * 7 ^ m := Nat.mul_le_mul_right _ (by omega)
  rw [Nat.pow_succ, Nat.mul_comm]
  exact Nat.le_trans h h2
theorem pow7 {m : Nat} (h : m ≤ 7) : 7 ^ m ≤ 823543 := Nat.le_trans (Nat.pow_le_pow_right (by omega) h) (by decide)
theorem Lie.below {w w' : World} {lo q B : Nat} {rs : List RD} (h : Lie w lo q rs) (hb : Below B w w') (hB : w.heap.size ≤ B) : Lie w' lo q rs := fun r hr => ⟨(h r hr).1.below hb (Nat.lt_of_lt_of_le (h r hr).1.1 hB), (h r hr).2⟩
theorem Lie.append {w : World} {lo q : Nat} {a b : List RD} (h : Lie w lo q a) (k : Lie w lo q b) : Lie w lo q (a ++ b) := fun r hr => by
  rcases List.mem_append.1 hr with h1 | h1
  · exact h r h1
  · exact k r h1
theorem infoRow : (Try.prog.info? 22).map (fun i => (i.zero, i.size, i.bytes)) = some (some (.slice none 0 0), 1, 24) := by kernel_rfl
theorem rows_oneCell (rs : List RD) : ∀ u ∈ rs.map RD.v, u.oneCell' = true := by
  intro u hu
  obtain ⟨r, _, rfl⟩ := List.mem_map.1 hu
  rfl
theorem Lie.of {w : World} {a lo p q : Nat} {rs : List RD} (h : Lie w a p rs) (hlo : lo ≤ a) (hq : q < a) : Lie w lo q rs := fun r hr => by
  obtain ⟨h1, h2, h3⟩ := h r hr
  exact ⟨h1, by omega, by omega⟩
/-- A list of lists has been put behind another one. -/
theorem lists_join {lo lr g2 g6 H : Nat} {w5 w6 : World} {v : Value} {us bs : List RD} (ha : Lie w5 lr g2 us) (hb : Lie w5 lr g2 bs)
    (hgr : w5.grownBy w6 v.ownBlock) (hvo : v.ownBlock = some g2) (hat : v.ownBlock = some g6 ∨ g6 = H) (hH : w5.heap.size = H) (hlo : lo ≤ w5.heap.size) (hg2 : lo ≤ g2) :
    Lie w6 lr g6 (us ++ bs) ∧ Below lo w5 w6 ∧ lo ≤ g6 := by
  rw [hvo] at hgr hat
  have hk : ∀ k, k < w5.heap.size → k ≠ g2 → w6.heap[k]? = w5.heap[k]? := fun k h1 h2 => hgr.block k h1 (by intro e; injection e; omega)
  have hg6 : g6 = g2 ∨ g6 = H := by
    rcases hat with h | h
    · exact .inl (Option.some.inj h).symm
    · exact .inr h
  refine ⟨fun r hr => ?_, (Below.refl _ _).grown hgr hlo (by intro k hk; cases hk; exact hg2), by omega⟩
  obtain ⟨h1, h2, h3⟩ := (ha.append hb) r hr
  have h4 := h1.1
  exact ⟨h1.keep (hk _ h4 h2), by omega, h3⟩
theorem add_at (g j : Nat) : (⟨g, 0, none⟩ : Addr).add j = ⟨g, j, none⟩ := by
  unfold Addr.add
  by_cases h0 : j = 0
  · subst h0; rfl
  · simp [h0]
theorem rowI_cells {w : World} {g : Nat} {l : List Int} (h : RowI w g l) : ∀ j u, (l.map (Value.int .i64))[j]? = some u → w.cell? ((⟨g, 0, none⟩ : Addr).add j) = some u := by
  intro j u hu
  rw [List.getElem?_map] at hu
  cases e : l[j]? with
  | none => rw [e] at hu; cases hu
  | some x =>
    rw [e] at hu
    have hu' : Value.int .i64 x = u := Option.some.inj hu
    rw [← hu']
    rw [add_at]
    exact h.2 j x e
theorem own_cells {w : World} {base n size g cap : Nat} {e : TypeId} {xs : List Value} (h : w.ownsRow base e size (.slice (some ⟨g, 0, none⟩) n cap) n xs) : ∀ j u, xs[j]? = some u → w.cell? ((⟨g, 0, none⟩ : Addr).add j) = some u := by
  intro j u hu
  rw [add_at]
  exact ownI_at h hu
theorem own_form' {w : World} {base n size : Nat} {e : TypeId} {v : Value} {xs : List Value} (h : w.ownsRow base e size v n xs) (hv : v ≠ .slice none 0 0) : ∃ g cap, v = .slice (some ⟨g, 0, none⟩) n cap ∧ base ≤ g ∧ g < w.heap.size := by
  rcases h.2 with ⟨h0, _⟩ | ⟨g, cap, cur, rfl, h1, _⟩
  · exact absurd h0 hv
  · exact ⟨g, cap, rfl, h1, (h.lt g rfl).2⟩
theorem addr_nonnil {a : Addr} {n c : Nat} : (Value.slice (some a) n c) ≠ .slice none 0 0 := by intro h; cases h
theorem ownsRow_of_blk {w w' : World} {base g n cap size : Nat} {e : TypeId} {xs : List Value} (h : w.ownsRow base e size (.slice (some ⟨g, 0, none⟩) n cap) n xs) (hb : w'.heap[g]? = w.heap[g]?) : w'.ownsRow base e size (.slice (some ⟨g, 0, none⟩) n cap) n xs := by
  refine ⟨h.1, ?_⟩
  rcases h.2 with ⟨h', _⟩ | ⟨g', cap', cur, h', r1, r2, r⟩
  · simp at h'
  · simp only [Value.slice.injEq, Option.some.injEq, Addr.mk.injEq, and_true, true_and] at h'
    obtain ⟨rfl, rfl⟩ := h'
    exact .inr ⟨g, cap, cur, rfl, r1, hb.trans r2, r⟩
end Go.Proofs.Ytadpbbjahckoaaa
