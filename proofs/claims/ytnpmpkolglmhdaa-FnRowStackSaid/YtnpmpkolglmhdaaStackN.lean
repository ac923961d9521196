/- The walks of PageCell, of the program and of the reference, and of the laws' helpers on cells: equal, marked, held. Conditions: each theorem's own premises. -/
import Derived.Test.YtnpmpkolglmhdaaStackM
namespace Go.Proofs.Ytnpmpkolglmhdaa
open Go.RowKit
/-- The cell on which a page is, and whether there is one. -/
def pageC (l : List UInt8) (page : Int) : Cel × Bool :=
  if sheetOk l = true ∧ 1 ≤ page ∧ page ≤ 2 * (stackC l).length then (celOf l ((stackC l).length - 1 - ((page - 1) / 2).toNat), true) else (⟨0, 0, false, false⟩, false)
end Go.Proofs.Ytnpmpkolglmhdaa
