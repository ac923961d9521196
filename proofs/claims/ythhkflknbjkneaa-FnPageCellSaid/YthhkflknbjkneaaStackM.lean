/- The walks of the creases of a folded sheet, of the program and of the reference. Conditions: each theorem's own premises. -/
import Derived.Test.YthhkflknbjkneaaStackL
namespace Go.Proofs.Ythhkflknbjkneaa
open Go.RowKit
/-- The crease between two cells, told by their levels. -/
def creaseC (l : List UInt8) : Option Nat → Option Nat → ByteArray
  | some a, some b => if (celOf l (min a b)).up then ⟨#[86]⟩ else ⟨#[77]⟩
  | _, _ => ⟨#[]⟩
theorem creaseC_none (l : List UInt8) (o : Option Nat) : creaseC l none o = ⟨#[]⟩ := rfl
theorem creaseC_none2 (l : List UInt8) (o : Option Nat) : creaseC l o none = ⟨#[]⟩ := by cases o <;> rfl
theorem creaseC_some (l : List UInt8) (a b : Nat) : creaseC l (some a) (some b) = if (celOf l (min a b)).up then ⟨#[86]⟩ else ⟨#[77]⟩ := rfl
def rightC (l : List UInt8) (row col : Int) : ByteArray := creaseC l (lv l row col) (lv l row (col + 1))
def downC (l : List UInt8) (row col : Int) : ByteArray := creaseC l (lv l row col) (lv l (row + 1) col)
theorem lv_far {l : List UInt8} {row col : Int} (h : ¬ (0 ≤ row ∧ row ≤ 1000 ∧ 0 ≤ col ∧ col ≤ 1000)) : lv l row col = none := by
  cases e : lv l row col with
  | none => rfl
  | some k =>
    obtain ⟨hok, _, _, _, hin⟩ := lv_in e
    have h5 := (ok_is hok).2
    have b1 := (rowsOf_bd l h5).2
    have b2 := (colsOf_bd l h5).2
    have hin : 0 ≤ row ∧ row < (rowsOf l : Int) ∧ 0 ≤ col ∧ col < (colsOf l : Int) := of_decide_eq_true hin
    exact absurd ⟨by omega, by omega, by omega, by omega⟩ h
theorem lv_lt {l : List UInt8} {row col : Int} {k : Nat} (h : lv l row col = some k) : k < (stackC l).length := by
  obtain ⟨_, hk, _⟩ := lv_in h
  exact (List.getElem?_eq_some_iff.1 hk).1
theorem crease_small (l : List UInt8) (a b : Option Nat) : (creaseC l a b).size ≤ 1 := by
  cases a with
  | none => exact Nat.zero_le _
  | some a =>
    cases b with
    | none => exact Nat.zero_le _
    | some b =>
      rw [creaseC_some]
      cases (celOf l (min a b)).up <;> exact Nat.le_refl 1
theorem l6In_yes (n lo hi : Int) (w : World) (h1 : lo ≤ n) (h2 : n ≤ hi) : Calls Try.prog 31 #[.int .i64 n, .int .i64 lo, .int .i64 hi] w fun e w' => e = .returned (.bool true) ∧ w = w' := by
  go_enter Try.func31, Try.ntmps31
  go_wp2
  go_ret
  exact ⟨rfl, rfl⟩
theorem l6In_no (n lo hi : Int) (w : World) (h : ¬ (lo ≤ n ∧ n ≤ hi)) : Calls Try.prog 31 #[.int .i64 n, .int .i64 lo, .int .i64 hi] w fun e w' => e = .returned (.bool false) ∧ w = w' := by
  by_cases h1 : lo ≤ n
  · have h2 : ¬ n ≤ hi := fun h2 => h ⟨h1, h2⟩
    clear h
    go_enter Try.func31, Try.ntmps31
    go_wp2
    go_ret
    exact ⟨rfl, rfl⟩
  · clear h
    go_enter Try.func31, Try.ntmps31
    go_wp2
    go_ret
    exact ⟨rfl, rfl⟩
theorem lv_pair {l : List UInt8} {r1 c1 r2 c2 : Int} : ∀ a, lv l r1 c1 = some a → ∀ b, lv l r2 c2 = some b → sheetOk l = true ∧ a < (stackC l).length ∧ b < (stackC l).length := fun _ ha _ hb => ⟨(lv_in ha).1, lv_lt ha, lv_lt hb⟩
end Go.Proofs.Ythhkflknbjkneaa
