/-
  No cell of these rows narrows 'for every input' (looked for: loops, veiled, ifaces, maps, wideKeys, modest, calm, conditions, laid).
  DERIVED. THE GIVEN ROWS OF THIS SEAT. 6 by the template 'for every input the law returns true; each argument reads behind the call as it read before'; 0 by the template 'total and deterministic' (their statements: YtnpmpkolglmhdaaTotals.lean).
  GIVEN WITH THE SEED: the statements are not yours to turn. If you find one false, say at which input.
  Laid BY PROGRAM, IN A SANDBOX (cutbox-rows.mjs): the forced cells as the released guide's own fill.sh prints them over the translation 4ccbbb3f7c9cc8d4… (all of the seat's roots in one cut). By AI agents, Wed Nov 11 2026. No macro, syntax, notation, axiom, sorry.
-/
import Derived.Test.YtnpmpkolglmhdaaChecked
import GoSem.Claim
import GoSem.ClaimJoined
import GoSem.ClaimMapViews
import Derived.JoinedTies
import Derived.KernelRfl
namespace Go.Proofs.Ytnpmpkolglmhdaa
/- THE CELL 'sum', in the pinned program and in every row, IS THE sha256 OF THE DUMP (.gsa) THAT YtnpmpkolglmhdaaProg.lean LOADS. Nothing in Lean hashes anything: it is a label: what it is worth is what the hold of that sum in a sandbox is worth. -/
noncomputable def Try.pinned : Pinned := { name := "ytnpmpkolglmhdaa", sum := "4ccbbb3f7c9cc8d498ce8ca28cd2d2f7efcdfc60acedce5d6d4e0e61b9b753fc", checked := Try.checked }
namespace Rows
def none {H : Type} : Left H := { results := [], args := [] }

/-- 'laws.FnOver': WHATEVER THE INPUT: true; the input reads as it did. -/
def fnOverSpec : ChangeSpec := { name := "fnOver", fn := fun _ => fun
  | [d] => { results := [.lit (.bool true)], args := [d] }
  | _ => none }
def fnOverRow : OpenClaim := { program := "ytnpmpkolglmhdaa", sum := "4ccbbb3f7c9cc8d498ce8ca28cd2d2f7efcdfc60acedce5d6d4e0e61b9b753fc", func := "loop.example/flatfolding/laws.FnOver", spec := "fnOver", unfollowed := true, recurses := true, apart := false }
def FnOverSaid : Prop := fnOverRow.holds Try.pinned (OpenSpec.ofChange fnOverSpec)

/-- ITS FALSE NEIGHBOUR: 'it returns false'. Refute it at one input. -/
def fnOverWrong : ChangeSpec := { name := "fnOver", fn := fun _ => fun
  | [d] => { results := [.lit (.bool false)], args := [d] }
  | _ => none }
def FnOverWrongFalsely : Prop := fnOverRow.holds Try.pinned (OpenSpec.ofChange fnOverWrong)

/-- 'laws.FnMirror': WHATEVER THE INPUT: true; the input reads as it did. -/
def fnMirrorSpec : ChangeSpec := { name := "fnMirror", fn := fun _ => fun
  | [d] => { results := [.lit (.bool true)], args := [d] }
  | _ => none }
def fnMirrorRow : OpenClaim := { program := "ytnpmpkolglmhdaa", sum := "4ccbbb3f7c9cc8d498ce8ca28cd2d2f7efcdfc60acedce5d6d4e0e61b9b753fc", func := "loop.example/flatfolding/laws.FnMirror", spec := "fnMirror", unfollowed := true, recurses := true, apart := false }
def FnMirrorSaid : Prop := fnMirrorRow.holds Try.pinned (OpenSpec.ofChange fnMirrorSpec)

/-- ITS FALSE NEIGHBOUR: 'it returns false'. Refute it at one input. -/
def fnMirrorWrong : ChangeSpec := { name := "fnMirror", fn := fun _ => fun
  | [d] => { results := [.lit (.bool false)], args := [d] }
  | _ => none }
def FnMirrorWrongFalsely : Prop := fnMirrorRow.holds Try.pinned (OpenSpec.ofChange fnMirrorWrong)

/-- 'laws.FnStackLast': WHATEVER THE INPUT: true; the input reads as it did. -/
def fnStackLastSpec : ChangeSpec := { name := "fnStackLast", fn := fun _ => fun
  | [d] => { results := [.lit (.bool true)], args := [d] }
  | _ => none }
def fnStackLastRow : OpenClaim := { program := "ytnpmpkolglmhdaa", sum := "4ccbbb3f7c9cc8d498ce8ca28cd2d2f7efcdfc60acedce5d6d4e0e61b9b753fc", func := "loop.example/flatfolding/laws.FnStackLast", spec := "fnStackLast", unfollowed := true, recurses := true, apart := false }
def FnStackLastSaid : Prop := fnStackLastRow.holds Try.pinned (OpenSpec.ofChange fnStackLastSpec)

/-- ITS FALSE NEIGHBOUR: 'it returns false'. Refute it at one input. -/
def fnStackLastWrong : ChangeSpec := { name := "fnStackLast", fn := fun _ => fun
  | [d] => { results := [.lit (.bool false)], args := [d] }
  | _ => none }
def FnStackLastWrongFalsely : Prop := fnStackLastRow.holds Try.pinned (OpenSpec.ofChange fnStackLastWrong)

/-- 'laws.FnStack': WHATEVER THE INPUT: true; the input reads as it did. -/
def fnStackSpec : ChangeSpec := { name := "fnStack", fn := fun _ => fun
  | [d] => { results := [.lit (.bool true)], args := [d] }
  | _ => none }
def fnStackRow : OpenClaim := { program := "ytnpmpkolglmhdaa", sum := "4ccbbb3f7c9cc8d498ce8ca28cd2d2f7efcdfc60acedce5d6d4e0e61b9b753fc", func := "loop.example/flatfolding/laws.FnStack", spec := "fnStack", unfollowed := true, recurses := true, apart := false }
def FnStackSaid : Prop := fnStackRow.holds Try.pinned (OpenSpec.ofChange fnStackSpec)

/-- ITS FALSE NEIGHBOUR: 'it returns false'. Refute it at one input. -/
def fnStackWrong : ChangeSpec := { name := "fnStack", fn := fun _ => fun
  | [d] => { results := [.lit (.bool false)], args := [d] }
  | _ => none }
def FnStackWrongFalsely : Prop := fnStackRow.holds Try.pinned (OpenSpec.ofChange fnStackWrong)

/-- 'laws.FnRowStack': WHATEVER THE INPUT: true; the input reads as it did. -/
def fnRowStackSpec : ChangeSpec := { name := "fnRowStack", fn := fun _ => fun
  | [d1, d2] => { results := [.lit (.bool true)], args := [d1, d2] }
  | _ => none }
def fnRowStackRow : OpenClaim := { program := "ytnpmpkolglmhdaa", sum := "4ccbbb3f7c9cc8d498ce8ca28cd2d2f7efcdfc60acedce5d6d4e0e61b9b753fc", func := "loop.example/flatfolding/laws.FnRowStack", spec := "fnRowStack", unfollowed := true, recurses := true, apart := false }
def FnRowStackSaid : Prop := fnRowStackRow.holds Try.pinned (OpenSpec.ofChange fnRowStackSpec)

/-- ITS FALSE NEIGHBOUR: 'it returns false'. Refute it at one input. -/
def fnRowStackWrong : ChangeSpec := { name := "fnRowStack", fn := fun _ => fun
  | [d1, d2] => { results := [.lit (.bool false)], args := [d1, d2] }
  | _ => none }
def FnRowStackWrongFalsely : Prop := fnRowStackRow.holds Try.pinned (OpenSpec.ofChange fnRowStackWrong)

/-- 'laws.FnSheetHalf': WHATEVER THE INPUT: true; the input reads as it did. -/
def fnSheetHalfSpec : ChangeSpec := { name := "fnSheetHalf", fn := fun _ => fun
  | [d] => { results := [.lit (.bool true)], args := [d] }
  | _ => none }
def fnSheetHalfRow : OpenClaim := { program := "ytnpmpkolglmhdaa", sum := "4ccbbb3f7c9cc8d498ce8ca28cd2d2f7efcdfc60acedce5d6d4e0e61b9b753fc", func := "loop.example/flatfolding/laws.FnSheetHalf", spec := "fnSheetHalf", unfollowed := true, recurses := true, apart := false }
def FnSheetHalfSaid : Prop := fnSheetHalfRow.holds Try.pinned (OpenSpec.ofChange fnSheetHalfSpec)

/-- ITS FALSE NEIGHBOUR: 'it returns false'. Refute it at one input. -/
def fnSheetHalfWrong : ChangeSpec := { name := "fnSheetHalf", fn := fun _ => fun
  | [d] => { results := [.lit (.bool false)], args := [d] }
  | _ => none }
def FnSheetHalfWrongFalsely : Prop := fnSheetHalfRow.holds Try.pinned (OpenSpec.ofChange fnSheetHalfWrong)

/- THE SECOND FORM. 'bulk': how many values and letters a reading holds, each counted each time it is reached (what is shared counts as often as it is met; a slice's spare places count too). A statement '..UptoSaid' is the law's where the arguments, and the package variables that the reading takes, are together of bulk at most 1048576: NARROWER than '..Said'. Prove '..Said' where nothing that the law and all that it calls make is longer than what came in: it says more and counts as full. Else prove '..UptoSaid'. A law counts once. -/
mutual
def uptoBulk {H : Type} : DataW H → Nat
  | .lit (.string bytes) => bytes.length + 1
  | .lit _ => 1
  | .nil => 1
  | .ptr d => uptoBulk d + 1
  | .slice elems spare => uptoBulkAll elems + uptoBulkAll spare + 1
  | .agg parts => uptoBulkAll parts + 1
  | .iface _ d => uptoBulk d + 1
  | .map entries => uptoBulkEntries entries + 1
  | .held _ => 1
def uptoBulkAll {H : Type} : List (DataW H) → Nat
  | [] => 0
  | d :: r => uptoBulk d + uptoBulkAll r
def uptoBulkEntries {H : Type} : List (Lit × DataW H) → Nat
  | [] => 0
  | x :: r => uptoBulkEntry x + uptoBulkEntries r
def uptoBulkEntry {H : Type} : Lit × DataW H → Nat
  | (.string bytes, d) => bytes.length + uptoBulk d + 1
  | (_, d) => uptoBulk d + 1
 end
def uptoSmall : (H : Type) → List (DataW H) → Bool := fun _ ds => decide (uptoBulkAll ds ≤ 1048576)
def OpenSpec.upto (s : _root_.Go.ChangeSpec) : _root_.Go.OpenSpec := { _root_.Go.OpenSpec.ofChange s with cond := some uptoSmall }

/-- 'laws.FnOver', WHERE WHAT IT READS IS OF BULK AT MOST 1048576: true; the input reads as it did. -/
def fnOverUptoRow : OpenClaim := { program := "ytnpmpkolglmhdaa", sum := "4ccbbb3f7c9cc8d498ce8ca28cd2d2f7efcdfc60acedce5d6d4e0e61b9b753fc", func := "loop.example/flatfolding/laws.FnOver", spec := "fnOver", unfollowed := true, recurses := true, apart := false, narrowed := true }
def FnOverUptoSaid : Prop := fnOverUptoRow.holds Try.pinned (OpenSpec.upto fnOverSpec)

/-- 'laws.FnMirror', WHERE WHAT IT READS IS OF BULK AT MOST 1048576: true; the input reads as it did. -/
def fnMirrorUptoRow : OpenClaim := { program := "ytnpmpkolglmhdaa", sum := "4ccbbb3f7c9cc8d498ce8ca28cd2d2f7efcdfc60acedce5d6d4e0e61b9b753fc", func := "loop.example/flatfolding/laws.FnMirror", spec := "fnMirror", unfollowed := true, recurses := true, apart := false, narrowed := true }
def FnMirrorUptoSaid : Prop := fnMirrorUptoRow.holds Try.pinned (OpenSpec.upto fnMirrorSpec)

/-- 'laws.FnStackLast', WHERE WHAT IT READS IS OF BULK AT MOST 1048576: true; the input reads as it did. -/
def fnStackLastUptoRow : OpenClaim := { program := "ytnpmpkolglmhdaa", sum := "4ccbbb3f7c9cc8d498ce8ca28cd2d2f7efcdfc60acedce5d6d4e0e61b9b753fc", func := "loop.example/flatfolding/laws.FnStackLast", spec := "fnStackLast", unfollowed := true, recurses := true, apart := false, narrowed := true }
def FnStackLastUptoSaid : Prop := fnStackLastUptoRow.holds Try.pinned (OpenSpec.upto fnStackLastSpec)

/-- 'laws.FnStack', WHERE WHAT IT READS IS OF BULK AT MOST 1048576: true; the input reads as it did. -/
def fnStackUptoRow : OpenClaim := { program := "ytnpmpkolglmhdaa", sum := "4ccbbb3f7c9cc8d498ce8ca28cd2d2f7efcdfc60acedce5d6d4e0e61b9b753fc", func := "loop.example/flatfolding/laws.FnStack", spec := "fnStack", unfollowed := true, recurses := true, apart := false, narrowed := true }
def FnStackUptoSaid : Prop := fnStackUptoRow.holds Try.pinned (OpenSpec.upto fnStackSpec)

/-- 'laws.FnRowStack', WHERE WHAT IT READS IS OF BULK AT MOST 1048576: true; the input reads as it did. -/
def fnRowStackUptoRow : OpenClaim := { program := "ytnpmpkolglmhdaa", sum := "4ccbbb3f7c9cc8d498ce8ca28cd2d2f7efcdfc60acedce5d6d4e0e61b9b753fc", func := "loop.example/flatfolding/laws.FnRowStack", spec := "fnRowStack", unfollowed := true, recurses := true, apart := false, narrowed := true }
def FnRowStackUptoSaid : Prop := fnRowStackUptoRow.holds Try.pinned (OpenSpec.upto fnRowStackSpec)

/-- 'laws.FnSheetHalf', WHERE WHAT IT READS IS OF BULK AT MOST 1048576: true; the input reads as it did. -/
def fnSheetHalfUptoRow : OpenClaim := { program := "ytnpmpkolglmhdaa", sum := "4ccbbb3f7c9cc8d498ce8ca28cd2d2f7efcdfc60acedce5d6d4e0e61b9b753fc", func := "loop.example/flatfolding/laws.FnSheetHalf", spec := "fnSheetHalf", unfollowed := true, recurses := true, apart := false, narrowed := true }
def FnSheetHalfUptoSaid : Prop := fnSheetHalfUptoRow.holds Try.pinned (OpenSpec.upto fnSheetHalfSpec)

end Rows
end Go.Proofs.Ytnpmpkolglmhdaa
