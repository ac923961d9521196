/-
  No cell of these rows narrows 'for every input' (looked for: loops, veiled, ifaces, maps, wideKeys, modest, calm, conditions, laid).
  DERIVED. THE GIVEN ROWS OF THIS SEAT. 6 by the template 'for every input the law returns true; each argument reads behind the call as it read before'; 0 by the template 'total and deterministic' (their statements: YteabgphbkkapbaaTotals.lean).
  GIVEN WITH THE SEED: the statements are not yours to turn. If you find one false, say at which input.
  Laid BY PROGRAM, IN A SANDBOX (cutbox-rows.mjs): the forced cells as the released guide's own fill.sh prints them over the translation 6da730c82d855341… (all of the seat's roots in one cut). By AI agents, Wed Nov 11 2026. No macro, syntax, notation, axiom, sorry.
-/
import Derived.Test.YteabgphbkkapbaaChecked
import GoSem.Claim
import GoSem.ClaimJoined
import GoSem.ClaimMapViews
import Derived.JoinedTies
import Derived.KernelRfl
namespace Go.Proofs.Yteabgphbkkapbaa
/- THE CELL 'sum', in the pinned program and in every row, IS THE sha256 OF THE DUMP (.gsa) THAT YteabgphbkkapbaaProg.lean LOADS. Nothing in Lean hashes anything: it is a label: what it is worth is what the hold of that sum in a sandbox is worth. -/
noncomputable def Try.pinned : Pinned := { name := "yteabgphbkkapbaa", sum := "6da730c82d8553419279248fb81c9607c9b5c9940512673fef7da6bc4d18ec05", checked := Try.checked }
namespace Rows
def none {H : Type} : Left H := { results := [], args := [] }

/-- 'laws.FnExactSheetStack': WHATEVER THE INPUT: true; the input reads as it did. -/
def fnExactSheetStackSpec : ChangeSpec := { name := "fnExactSheetStack", fn := fun _ => fun
  | [d] => { results := [.lit (.bool true)], args := [d] }
  | _ => none }
def fnExactSheetStackRow : OpenClaim := { program := "yteabgphbkkapbaa", sum := "6da730c82d8553419279248fb81c9607c9b5c9940512673fef7da6bc4d18ec05", func := "loop.example/flatfolding/laws.FnExactSheetStack", spec := "fnExactSheetStack", unfollowed := true, recurses := true, apart := false }
def FnExactSheetStackSaid : Prop := fnExactSheetStackRow.holds Try.pinned (OpenSpec.ofChange fnExactSheetStackSpec)

/-- ITS FALSE NEIGHBOUR: 'it returns false'. Refute it at one input. -/
def fnExactSheetStackWrong : ChangeSpec := { name := "fnExactSheetStack", fn := fun _ => fun
  | [d] => { results := [.lit (.bool false)], args := [d] }
  | _ => none }
def FnExactSheetStackWrongFalsely : Prop := fnExactSheetStackRow.holds Try.pinned (OpenSpec.ofChange fnExactSheetStackWrong)

/-- 'laws.FnExactSheetLevel': WHATEVER THE INPUT: true; the input reads as it did. -/
def fnExactSheetLevelSpec : ChangeSpec := { name := "fnExactSheetLevel", fn := fun _ => fun
  | [d1, d2, d3] => { results := [.lit (.bool true)], args := [d1, d2, d3] }
  | _ => none }
def fnExactSheetLevelRow : OpenClaim := { program := "yteabgphbkkapbaa", sum := "6da730c82d8553419279248fb81c9607c9b5c9940512673fef7da6bc4d18ec05", func := "loop.example/flatfolding/laws.FnExactSheetLevel", spec := "fnExactSheetLevel", unfollowed := true, recurses := true, apart := false }
def FnExactSheetLevelSaid : Prop := fnExactSheetLevelRow.holds Try.pinned (OpenSpec.ofChange fnExactSheetLevelSpec)

/-- ITS FALSE NEIGHBOUR: 'it returns false'. Refute it at one input. -/
def fnExactSheetLevelWrong : ChangeSpec := { name := "fnExactSheetLevel", fn := fun _ => fun
  | [d1, d2, d3] => { results := [.lit (.bool false)], args := [d1, d2, d3] }
  | _ => none }
def FnExactSheetLevelWrongFalsely : Prop := fnExactSheetLevelRow.holds Try.pinned (OpenSpec.ofChange fnExactSheetLevelWrong)

/-- 'laws.FnExactPageCell': WHATEVER THE INPUT: true; the input reads as it did. -/
def fnExactPageCellSpec : ChangeSpec := { name := "fnExactPageCell", fn := fun _ => fun
  | [d1, d2] => { results := [.lit (.bool true)], args := [d1, d2] }
  | _ => none }
def fnExactPageCellRow : OpenClaim := { program := "yteabgphbkkapbaa", sum := "6da730c82d8553419279248fb81c9607c9b5c9940512673fef7da6bc4d18ec05", func := "loop.example/flatfolding/laws.FnExactPageCell", spec := "fnExactPageCell", unfollowed := true, recurses := true, apart := false }
def FnExactPageCellSaid : Prop := fnExactPageCellRow.holds Try.pinned (OpenSpec.ofChange fnExactPageCellSpec)

/-- ITS FALSE NEIGHBOUR: 'it returns false'. Refute it at one input. -/
def fnExactPageCellWrong : ChangeSpec := { name := "fnExactPageCell", fn := fun _ => fun
  | [d1, d2] => { results := [.lit (.bool false)], args := [d1, d2] }
  | _ => none }
def FnExactPageCellWrongFalsely : Prop := fnExactPageCellRow.holds Try.pinned (OpenSpec.ofChange fnExactPageCellWrong)

/-- 'laws.FnExactSheetRight': WHATEVER THE INPUT: true; the input reads as it did. -/
def fnExactSheetRightSpec : ChangeSpec := { name := "fnExactSheetRight", fn := fun _ => fun
  | [d1, d2, d3] => { results := [.lit (.bool true)], args := [d1, d2, d3] }
  | _ => none }
def fnExactSheetRightRow : OpenClaim := { program := "yteabgphbkkapbaa", sum := "6da730c82d8553419279248fb81c9607c9b5c9940512673fef7da6bc4d18ec05", func := "loop.example/flatfolding/laws.FnExactSheetRight", spec := "fnExactSheetRight", unfollowed := true, recurses := true, apart := false }
def FnExactSheetRightSaid : Prop := fnExactSheetRightRow.holds Try.pinned (OpenSpec.ofChange fnExactSheetRightSpec)

/-- ITS FALSE NEIGHBOUR: 'it returns false'. Refute it at one input. -/
def fnExactSheetRightWrong : ChangeSpec := { name := "fnExactSheetRight", fn := fun _ => fun
  | [d1, d2, d3] => { results := [.lit (.bool false)], args := [d1, d2, d3] }
  | _ => none }
def FnExactSheetRightWrongFalsely : Prop := fnExactSheetRightRow.holds Try.pinned (OpenSpec.ofChange fnExactSheetRightWrong)

/-- 'laws.FnExactSheetDown': WHATEVER THE INPUT: true; the input reads as it did. -/
def fnExactSheetDownSpec : ChangeSpec := { name := "fnExactSheetDown", fn := fun _ => fun
  | [d1, d2, d3] => { results := [.lit (.bool true)], args := [d1, d2, d3] }
  | _ => none }
def fnExactSheetDownRow : OpenClaim := { program := "yteabgphbkkapbaa", sum := "6da730c82d8553419279248fb81c9607c9b5c9940512673fef7da6bc4d18ec05", func := "loop.example/flatfolding/laws.FnExactSheetDown", spec := "fnExactSheetDown", unfollowed := true, recurses := true, apart := false }
def FnExactSheetDownSaid : Prop := fnExactSheetDownRow.holds Try.pinned (OpenSpec.ofChange fnExactSheetDownSpec)

/-- ITS FALSE NEIGHBOUR: 'it returns false'. Refute it at one input. -/
def fnExactSheetDownWrong : ChangeSpec := { name := "fnExactSheetDown", fn := fun _ => fun
  | [d1, d2, d3] => { results := [.lit (.bool false)], args := [d1, d2, d3] }
  | _ => none }
def FnExactSheetDownWrongFalsely : Prop := fnExactSheetDownRow.holds Try.pinned (OpenSpec.ofChange fnExactSheetDownWrong)

/-- 'laws.FnExactSheetCorner': WHATEVER THE INPUT: true; the input reads as it did. -/
def fnExactSheetCornerSpec : ChangeSpec := { name := "fnExactSheetCorner", fn := fun _ => fun
  | [d1, d2, d3] => { results := [.lit (.bool true)], args := [d1, d2, d3] }
  | _ => none }
def fnExactSheetCornerRow : OpenClaim := { program := "yteabgphbkkapbaa", sum := "6da730c82d8553419279248fb81c9607c9b5c9940512673fef7da6bc4d18ec05", func := "loop.example/flatfolding/laws.FnExactSheetCorner", spec := "fnExactSheetCorner", unfollowed := true, recurses := true, apart := false }
def FnExactSheetCornerSaid : Prop := fnExactSheetCornerRow.holds Try.pinned (OpenSpec.ofChange fnExactSheetCornerSpec)

/-- ITS FALSE NEIGHBOUR: 'it returns false'. Refute it at one input. -/
def fnExactSheetCornerWrong : ChangeSpec := { name := "fnExactSheetCorner", fn := fun _ => fun
  | [d1, d2, d3] => { results := [.lit (.bool false)], args := [d1, d2, d3] }
  | _ => none }
def FnExactSheetCornerWrongFalsely : Prop := fnExactSheetCornerRow.holds Try.pinned (OpenSpec.ofChange fnExactSheetCornerWrong)

/- THE SECOND FORM. 'bulk': how many values and letters a reading holds, each counted each time it is reached (what is shared counts as often as it is met; a slice's spare places count too). A statement '..UptoSaid' is the law's where the arguments, and the package variables that the reading takes, are together of bulk at most 1048576: NARROWER than '..Said'. Prove '..Said' where nothing that the law and all that it calls make is longer than what came in: it says more and counts as full. Else prove '..UptoSaid'. A law counts once. -/
mutual
def uptoBulk {H : Type} : DataW H → Nat
  | .lit (.string bytes) => bytes.length + 1
  | .lit _ => 1
  | .nil => 1
  | .ptr d => uptoBulk d + 1
  | .slice elems spare => uptoBulkAll elems + uptoBulkAll spare + 1
  | .agg parts => uptoBulkAll parts + 1
  | .iface _ d => uptoBulk d + 1
  | .map entries => uptoBulkEntries entries + 1
  | .held _ => 1
def uptoBulkAll {H : Type} : List (DataW H) → Nat
  | [] => 0
  | d :: r => uptoBulk d + uptoBulkAll r
def uptoBulkEntries {H : Type} : List (Lit × DataW H) → Nat
  | [] => 0
  | x :: r => uptoBulkEntry x + uptoBulkEntries r
def uptoBulkEntry {H : Type} : Lit × DataW H → Nat
  | (.string bytes, d) => bytes.length + uptoBulk d + 1
  | (_, d) => uptoBulk d + 1
 end
def uptoSmall : (H : Type) → List (DataW H) → Bool := fun _ ds => decide (uptoBulkAll ds ≤ 1048576)
def OpenSpec.upto (s : _root_.Go.ChangeSpec) : _root_.Go.OpenSpec := { _root_.Go.OpenSpec.ofChange s with cond := some uptoSmall }

/-- 'laws.FnExactSheetStack', WHERE WHAT IT READS IS OF BULK AT MOST 1048576: true; the input reads as it did. -/
def fnExactSheetStackUptoRow : OpenClaim := { program := "yteabgphbkkapbaa", sum := "6da730c82d8553419279248fb81c9607c9b5c9940512673fef7da6bc4d18ec05", func := "loop.example/flatfolding/laws.FnExactSheetStack", spec := "fnExactSheetStack", unfollowed := true, recurses := true, apart := false, narrowed := true }
def FnExactSheetStackUptoSaid : Prop := fnExactSheetStackUptoRow.holds Try.pinned (OpenSpec.upto fnExactSheetStackSpec)

/-- 'laws.FnExactSheetLevel', WHERE WHAT IT READS IS OF BULK AT MOST 1048576: true; the input reads as it did. -/
def fnExactSheetLevelUptoRow : OpenClaim := { program := "yteabgphbkkapbaa", sum := "6da730c82d8553419279248fb81c9607c9b5c9940512673fef7da6bc4d18ec05", func := "loop.example/flatfolding/laws.FnExactSheetLevel", spec := "fnExactSheetLevel", unfollowed := true, recurses := true, apart := false, narrowed := true }
def FnExactSheetLevelUptoSaid : Prop := fnExactSheetLevelUptoRow.holds Try.pinned (OpenSpec.upto fnExactSheetLevelSpec)

/-- 'laws.FnExactPageCell', WHERE WHAT IT READS IS OF BULK AT MOST 1048576: true; the input reads as it did. -/
def fnExactPageCellUptoRow : OpenClaim := { program := "yteabgphbkkapbaa", sum := "6da730c82d8553419279248fb81c9607c9b5c9940512673fef7da6bc4d18ec05", func := "loop.example/flatfolding/laws.FnExactPageCell", spec := "fnExactPageCell", unfollowed := true, recurses := true, apart := false, narrowed := true }
def FnExactPageCellUptoSaid : Prop := fnExactPageCellUptoRow.holds Try.pinned (OpenSpec.upto fnExactPageCellSpec)

/-- 'laws.FnExactSheetRight', WHERE WHAT IT READS IS OF BULK AT MOST 1048576: true; the input reads as it did. -/
def fnExactSheetRightUptoRow : OpenClaim := { program := "yteabgphbkkapbaa", sum := "6da730c82d8553419279248fb81c9607c9b5c9940512673fef7da6bc4d18ec05", func := "loop.example/flatfolding/laws.FnExactSheetRight", spec := "fnExactSheetRight", unfollowed := true, recurses := true, apart := false, narrowed := true }
def FnExactSheetRightUptoSaid : Prop := fnExactSheetRightUptoRow.holds Try.pinned (OpenSpec.upto fnExactSheetRightSpec)

/-- 'laws.FnExactSheetDown', WHERE WHAT IT READS IS OF BULK AT MOST 1048576: true; the input reads as it did. -/
def fnExactSheetDownUptoRow : OpenClaim := { program := "yteabgphbkkapbaa", sum := "6da730c82d8553419279248fb81c9607c9b5c9940512673fef7da6bc4d18ec05", func := "loop.example/flatfolding/laws.FnExactSheetDown", spec := "fnExactSheetDown", unfollowed := true, recurses := true, apart := false, narrowed := true }
def FnExactSheetDownUptoSaid : Prop := fnExactSheetDownUptoRow.holds Try.pinned (OpenSpec.upto fnExactSheetDownSpec)

/-- 'laws.FnExactSheetCorner', WHERE WHAT IT READS IS OF BULK AT MOST 1048576: true; the input reads as it did. -/
def fnExactSheetCornerUptoRow : OpenClaim := { program := "yteabgphbkkapbaa", sum := "6da730c82d8553419279248fb81c9607c9b5c9940512673fef7da6bc4d18ec05", func := "loop.example/flatfolding/laws.FnExactSheetCorner", spec := "fnExactSheetCorner", unfollowed := true, recurses := true, apart := false, narrowed := true }
def FnExactSheetCornerUptoSaid : Prop := fnExactSheetCornerUptoRow.holds Try.pinned (OpenSpec.upto fnExactSheetCornerSpec)

end Rows
end Go.Proofs.Yteabgphbkkapbaa
