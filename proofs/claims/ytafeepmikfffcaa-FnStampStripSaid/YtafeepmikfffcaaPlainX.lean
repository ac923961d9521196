/- Stacks of stamps are folded strips, in plain Lean: all possible stacks of at most six stamps, by the kernel. Conditions: each theorem's own premises. -/
import Derived.Test.YtafeepmikfffcaaStampI
import Derived.Test.YtafeepmikfffcaaStripD
namespace Go.Proofs.Ytafeepmikfffcaa
open Go.RowKit
/-- A text with the k-th fold exchanged. -/
def swapAt (k : Nat) (bs : List UInt8) : List UInt8 := bs.take k ++ ((bs.drop k).take 1).map swp ++ bs.drop (k + 1)
def stripT (n : Nat) (l : List Int) : Bool :=
  layersOk (List.replicate n 1) (foldsL (sLevels n l) (n - 1)) l && (List.range (n - 1)).all fun k => !layersOk (List.replicate n 1) (swapAt k (foldsL (sLevels n l) (n - 1))) l
theorem strips1 : (stacksS 1).all (stripT 1) = true := by decide +kernel
theorem strips2 : (stacksS 2).all (stripT 2) = true := by decide +kernel
theorem strips3 : (stacksS 3).all (stripT 3) = true := by decide +kernel
theorem strips4 : (stacksS 4).all (stripT 4) = true := by decide +kernel
theorem strips5 : (stacksS 5).all (stripT 5) = true := by decide +kernel
theorem strips6 : (stacksS 6).all (stripT 6) = true := by decide +kernel
theorem strips {n : Nat} (h1 : 1 ≤ n) (h6 : n ≤ 6) : (stacksS n).all (stripT n) = true := by
  have : n = 1 ∨ n = 2 ∨ n = 3 ∨ n = 4 ∨ n = 5 ∨ n = 6 := by omega
  rcases this with rfl | rfl | rfl | rfl | rfl | rfl
  · exact strips1
  · exact strips2
  · exact strips3
  · exact strips4
  · exact strips5
  · exact strips6
theorem strip_yes {n : Nat} {l : List Int} (hn : l.length = n) (h6 : n ≤ 6) (h : possL l = true) : layersOk (List.replicate n 1) (foldsL (sLevels n l) (n - 1)) l = true ∧
    ∀ k, k < n - 1 → layersOk (List.replicate n 1) (swapAt k (foldsL (sLevels n l) (n - 1))) l = false := by
  obtain ⟨h1, _⟩ := (poss_iff l).1 h
  unfold rangeN at h1
  rw [decide_eq_true_eq, hn] at h1
  have hm := poss_mem h
  rw [hn] at hm
  have := List.all_eq_true.1 (strips h1.1 h6) l hm
  unfold stripT at this
  rw [Bool.and_eq_true] at this
  refine ⟨this.1, fun k hk => ?_⟩
  have := List.all_eq_true.1 this.2 k (List.mem_range.2 hk)
  simpa using this
theorem foldsL_length' (lv : List Int) (k : Nat) : (foldsL lv k).length = k := by unfold foldsL; rw [List.length_map, List.length_range]
theorem foldB_mv (lv : List Int) (k : Nat) : isMV (foldB lv k) = true := by
  unfold foldB
  split <;> rfl
theorem foldsL_mv (lv : List Int) (n : Nat) : foldsOk (foldsL lv n) (n : Int) = true := by
  unfold foldsOk
  rw [foldsL_length', decide_eq_true rfl, Bool.and_true]
  unfold foldsL
  rw [List.all_map, List.all_eq_true]
  intro k _
  exact foldB_mv lv k
end Go.Proofs.Ytafeepmikfffcaa
