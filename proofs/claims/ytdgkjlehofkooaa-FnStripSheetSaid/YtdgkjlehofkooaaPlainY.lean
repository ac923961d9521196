/- A sheet of one row and at most four columns is a strip. Conditions: each theorem's own premises. -/
import Derived.Test.YtdgkjlehofkooaaStripD
import Derived.Test.YtdgkjlehofkooaaStackM
namespace Go.Proofs.Ytdgkjlehofkooaa
/-- The texts of at most two letters that fold the width. -/
def txts : List (List UInt8) := [] :: (([82, 76, 114, 108] : List UInt8).map (fun c => [c]) ++ ([82, 76, 114, 108] : List UInt8).flatMap (fun c => ([82, 76, 114, 108] : List UInt8).map (fun d => [c, d])))
def foR (l : List UInt8) : Nat → ByteArray
  | 0 => ⟨#[]⟩
  | k + 1 => foR l k ++ rightC l 0 k
def layT (l : List UInt8) (k : Nat) : List Int := ((stackC l).take k).map fun x => x.col
def upT (l : List UInt8) (k : Nat) : Bool := ((stackC l).take k).any fun x => x.col == 0 && x.up
def ysT (l : List UInt8) : List Int := if upT l (colsOf l) then layT l (colsOf l) else (layT l (colsOf l)).reverse
def okT (l : List UInt8) : Bool := decide (colsOf l ≤ (stackC l).length) && (decide (∀ k : Fin 5, (foR l k.val).size ≤ 5) && (layersOk (List.replicate (colsOf l) 1) (bl (foR l (colsOf l))) (ysT l) && possL (ysT l)))
theorem txts_ok : ∀ l ∈ txts, okT l = true := by decide +kernel
theorem txts_in {l : List UInt8} (h : sheetOk l = true) (hr : rowsOf l ≤ 1) (hc : colsOf l ≤ 4) : l ∈ txts := by
  obtain ⟨h1, _⟩ := ok_is h
  have hh : l.countP (fun c => high c.toNat) = 0 := by
    apply Classical.byContradiction
    intro e
    have : 2 ^ 1 ≤ rowsOf l := Nat.pow_le_pow_right (by omega) (by omega)
    omega
  have hall : ∀ c ∈ l, wide (c.toNat : Int) = true := fun c hc => by
    have h2 := List.countP_eq_zero.1 hh c hc
    have h3 := h1 c hc
    unfold letter at h3
    simp only [Bool.not_eq_true] at h2
    rw [h2, Bool.or_false] at h3
    exact h3
  have hlen : l.countP (fun c => wide c.toNat) = l.length := List.countP_eq_length.2 hall
  have h2 : l.length ≤ 2 := by
    apply Classical.byContradiction
    intro e
    have : 2 ^ 3 ≤ colsOf l := by
      unfold colsOf
      exact Nat.pow_le_pow_right (by omega) (by omega)
    omega
  have hl : ∀ c ∈ l, c = 82 ∨ c = 76 ∨ c = 114 ∨ c = 108 := fun c hc => by
    have h3 := hall c hc
    rcases letter_is (h1 c hc) with rfl | rfl | rfl | rfl | rfl | rfl | rfl | rfl
    · exact .inl rfl
    · exact .inr (.inl rfl)
    · exact .inr (.inr (.inl rfl))
    · exact .inr (.inr (.inr rfl))
    all_goals exact absurd h3 (by decide)
  clear hall hlen hh h1 h hr hc
  match l, h2, hl with
  | [], _, _ => decide
  | [a], _, hl =>
    rcases hl a List.mem_cons_self with rfl | rfl | rfl | rfl <;> decide
  | [a, b], _, hl =>
    rcases hl a List.mem_cons_self with rfl | rfl | rfl | rfl <;> rcases hl b (List.mem_cons_of_mem _ List.mem_cons_self) with rfl | rfl | rfl | rfl <;> decide
end Go.Proofs.Ytdgkjlehofkooaa
