/-
  No cell of these rows narrows 'for every input' (looked for: loops, veiled, ifaces, maps, wideKeys, modest, calm, conditions, laid).
  DERIVED. THE GIVEN ROWS OF THIS SEAT. 6 by the template 'for every input the law returns true; each argument reads behind the call as it read before'; 0 by the template 'total and deterministic' (their statements: YtijchmpjjmkidaaTotals.lean).
  GIVEN WITH THE SEED: the statements are not yours to turn. If you find one false, say at which input.
  Laid BY PROGRAM, IN A SANDBOX (cutbox-rows.mjs): the forced cells as the released guide's own fill.sh prints them over the translation 18e54eaee6a900df… (all of the seat's roots in one cut). By AI agents, Wed Nov 11 2026. No macro, syntax, notation, axiom, sorry.
-/
import Derived.Test.YtijchmpjjmkidaaChecked
import GoSem.Claim
import GoSem.ClaimJoined
import GoSem.ClaimMapViews
import Derived.JoinedTies
import Derived.KernelRfl
namespace Go.Proofs.Ytijchmpjjmkidaa
/- THE CELL 'sum', in the pinned program and in every row, IS THE sha256 OF THE DUMP (.gsa) THAT YtijchmpjjmkidaaProg.lean LOADS. Nothing in Lean hashes anything: it is a label: what it is worth is what the hold of that sum in a sandbox is worth. -/
noncomputable def Try.pinned : Pinned := { name := "ytijchmpjjmkidaa", sum := "18e54eaee6a900dfbd2e350d06f2c10c8c9e9054a0df9d96b12ca4e928fcce2e", checked := Try.checked }
namespace Rows
def none {H : Type} : Left H := { results := [], args := [] }

/-- 'laws.FnExactSheetValid': WHATEVER THE INPUT: true; the input reads as it did. -/
def fnExactSheetValidSpec : ChangeSpec := { name := "fnExactSheetValid", fn := fun _ => fun
  | [d] => { results := [.lit (.bool true)], args := [d] }
  | _ => none }
def fnExactSheetValidRow : OpenClaim := { program := "ytijchmpjjmkidaa", sum := "18e54eaee6a900dfbd2e350d06f2c10c8c9e9054a0df9d96b12ca4e928fcce2e", func := "loop.example/flatfolding/laws.FnExactSheetValid", spec := "fnExactSheetValid", apart := false }
def FnExactSheetValidSaid : Prop := fnExactSheetValidRow.holds Try.pinned (OpenSpec.ofChange fnExactSheetValidSpec)

/-- ITS FALSE NEIGHBOUR: 'it returns false'. Refute it at one input. -/
def fnExactSheetValidWrong : ChangeSpec := { name := "fnExactSheetValid", fn := fun _ => fun
  | [d] => { results := [.lit (.bool false)], args := [d] }
  | _ => none }
def FnExactSheetValidWrongFalsely : Prop := fnExactSheetValidRow.holds Try.pinned (OpenSpec.ofChange fnExactSheetValidWrong)

/-- 'laws.FnExactSheetSize': WHATEVER THE INPUT: true; the input reads as it did. -/
def fnExactSheetSizeSpec : ChangeSpec := { name := "fnExactSheetSize", fn := fun _ => fun
  | [d] => { results := [.lit (.bool true)], args := [d] }
  | _ => none }
def fnExactSheetSizeRow : OpenClaim := { program := "ytijchmpjjmkidaa", sum := "18e54eaee6a900dfbd2e350d06f2c10c8c9e9054a0df9d96b12ca4e928fcce2e", func := "loop.example/flatfolding/laws.FnExactSheetSize", spec := "fnExactSheetSize", apart := false }
def FnExactSheetSizeSaid : Prop := fnExactSheetSizeRow.holds Try.pinned (OpenSpec.ofChange fnExactSheetSizeSpec)

/-- ITS FALSE NEIGHBOUR: 'it returns false'. Refute it at one input. -/
def fnExactSheetSizeWrong : ChangeSpec := { name := "fnExactSheetSize", fn := fun _ => fun
  | [d] => { results := [.lit (.bool false)], args := [d] }
  | _ => none }
def FnExactSheetSizeWrongFalsely : Prop := fnExactSheetSizeRow.holds Try.pinned (OpenSpec.ofChange fnExactSheetSizeWrong)

/-- 'laws.FnExactSheetOver': WHATEVER THE INPUT: true; the input reads as it did. -/
def fnExactSheetOverSpec : ChangeSpec := { name := "fnExactSheetOver", fn := fun _ => fun
  | [d] => { results := [.lit (.bool true)], args := [d] }
  | _ => none }
def fnExactSheetOverRow : OpenClaim := { program := "ytijchmpjjmkidaa", sum := "18e54eaee6a900dfbd2e350d06f2c10c8c9e9054a0df9d96b12ca4e928fcce2e", func := "loop.example/flatfolding/laws.FnExactSheetOver", spec := "fnExactSheetOver", apart := false }
def FnExactSheetOverSaid : Prop := fnExactSheetOverRow.holds Try.pinned (OpenSpec.ofChange fnExactSheetOverSpec)

/-- ITS FALSE NEIGHBOUR: 'it returns false'. Refute it at one input. -/
def fnExactSheetOverWrong : ChangeSpec := { name := "fnExactSheetOver", fn := fun _ => fun
  | [d] => { results := [.lit (.bool false)], args := [d] }
  | _ => none }
def FnExactSheetOverWrongFalsely : Prop := fnExactSheetOverRow.holds Try.pinned (OpenSpec.ofChange fnExactSheetOverWrong)

/-- 'laws.FnExactSheetMirror': WHATEVER THE INPUT: true; the input reads as it did. -/
def fnExactSheetMirrorSpec : ChangeSpec := { name := "fnExactSheetMirror", fn := fun _ => fun
  | [d] => { results := [.lit (.bool true)], args := [d] }
  | _ => none }
def fnExactSheetMirrorRow : OpenClaim := { program := "ytijchmpjjmkidaa", sum := "18e54eaee6a900dfbd2e350d06f2c10c8c9e9054a0df9d96b12ca4e928fcce2e", func := "loop.example/flatfolding/laws.FnExactSheetMirror", spec := "fnExactSheetMirror", apart := false }
def FnExactSheetMirrorSaid : Prop := fnExactSheetMirrorRow.holds Try.pinned (OpenSpec.ofChange fnExactSheetMirrorSpec)

/-- ITS FALSE NEIGHBOUR: 'it returns false'. Refute it at one input. -/
def fnExactSheetMirrorWrong : ChangeSpec := { name := "fnExactSheetMirror", fn := fun _ => fun
  | [d] => { results := [.lit (.bool false)], args := [d] }
  | _ => none }
def FnExactSheetMirrorWrongFalsely : Prop := fnExactSheetMirrorRow.holds Try.pinned (OpenSpec.ofChange fnExactSheetMirrorWrong)

/-- 'laws.FnExactWordOther': WHATEVER THE INPUT: true; the input reads as it did. -/
def fnExactWordOtherSpec : ChangeSpec := { name := "fnExactWordOther", fn := fun _ => fun
  | [d] => { results := [.lit (.bool true)], args := [d] }
  | _ => none }
def fnExactWordOtherRow : OpenClaim := { program := "ytijchmpjjmkidaa", sum := "18e54eaee6a900dfbd2e350d06f2c10c8c9e9054a0df9d96b12ca4e928fcce2e", func := "loop.example/flatfolding/laws.FnExactWordOther", spec := "fnExactWordOther", apart := false }
def FnExactWordOtherSaid : Prop := fnExactWordOtherRow.holds Try.pinned (OpenSpec.ofChange fnExactWordOtherSpec)

/-- ITS FALSE NEIGHBOUR: 'it returns false'. Refute it at one input. -/
def fnExactWordOtherWrong : ChangeSpec := { name := "fnExactWordOther", fn := fun _ => fun
  | [d] => { results := [.lit (.bool false)], args := [d] }
  | _ => none }
def FnExactWordOtherWrongFalsely : Prop := fnExactWordOtherRow.holds Try.pinned (OpenSpec.ofChange fnExactWordOtherWrong)

/-- 'laws.FnExactWordEven': WHATEVER THE INPUT: true; the input reads as it did. -/
def fnExactWordEvenSpec : ChangeSpec := { name := "fnExactWordEven", fn := fun _ => fun
  | [d] => { results := [.lit (.bool true)], args := [d] }
  | _ => none }
def fnExactWordEvenRow : OpenClaim := { program := "ytijchmpjjmkidaa", sum := "18e54eaee6a900dfbd2e350d06f2c10c8c9e9054a0df9d96b12ca4e928fcce2e", func := "loop.example/flatfolding/laws.FnExactWordEven", spec := "fnExactWordEven", recurses := true, apart := false }
def FnExactWordEvenSaid : Prop := fnExactWordEvenRow.holds Try.pinned (OpenSpec.ofChange fnExactWordEvenSpec)

/-- ITS FALSE NEIGHBOUR: 'it returns false'. Refute it at one input. -/
def fnExactWordEvenWrong : ChangeSpec := { name := "fnExactWordEven", fn := fun _ => fun
  | [d] => { results := [.lit (.bool false)], args := [d] }
  | _ => none }
def FnExactWordEvenWrongFalsely : Prop := fnExactWordEvenRow.holds Try.pinned (OpenSpec.ofChange fnExactWordEvenWrong)

/- THE SECOND FORM. 'bulk': how many values and letters a reading holds, each counted each time it is reached (what is shared counts as often as it is met; a slice's spare places count too). A statement '..UptoSaid' is the law's where the arguments, and the package variables that the reading takes, are together of bulk at most 1048576: NARROWER than '..Said'. Prove '..Said' where nothing that the law and all that it calls make is longer than what came in: it says more and counts as full. Else prove '..UptoSaid'. A law counts once. -/
mutual
def uptoBulk {H : Type} : DataW H → Nat
  | .lit (.string bytes) => bytes.length + 1
  | .lit _ => 1
  | .nil => 1
  | .ptr d => uptoBulk d + 1
  | .slice elems spare => uptoBulkAll elems + uptoBulkAll spare + 1
  | .agg parts => uptoBulkAll parts + 1
  | .iface _ d => uptoBulk d + 1
  | .map entries => uptoBulkEntries entries + 1
  | .held _ => 1
def uptoBulkAll {H : Type} : List (DataW H) → Nat
  | [] => 0
  | d :: r => uptoBulk d + uptoBulkAll r
def uptoBulkEntries {H : Type} : List (Lit × DataW H) → Nat
  | [] => 0
  | x :: r => uptoBulkEntry x + uptoBulkEntries r
def uptoBulkEntry {H : Type} : Lit × DataW H → Nat
  | (.string bytes, d) => bytes.length + uptoBulk d + 1
  | (_, d) => uptoBulk d + 1
 end
def uptoSmall : (H : Type) → List (DataW H) → Bool := fun _ ds => decide (uptoBulkAll ds ≤ 1048576)
def OpenSpec.upto (s : _root_.Go.ChangeSpec) : _root_.Go.OpenSpec := { _root_.Go.OpenSpec.ofChange s with cond := some uptoSmall }

/-- 'laws.FnExactSheetValid', WHERE WHAT IT READS IS OF BULK AT MOST 1048576: true; the input reads as it did. -/
def fnExactSheetValidUptoRow : OpenClaim := { program := "ytijchmpjjmkidaa", sum := "18e54eaee6a900dfbd2e350d06f2c10c8c9e9054a0df9d96b12ca4e928fcce2e", func := "loop.example/flatfolding/laws.FnExactSheetValid", spec := "fnExactSheetValid", apart := false, narrowed := true }
def FnExactSheetValidUptoSaid : Prop := fnExactSheetValidUptoRow.holds Try.pinned (OpenSpec.upto fnExactSheetValidSpec)

/-- 'laws.FnExactSheetSize', WHERE WHAT IT READS IS OF BULK AT MOST 1048576: true; the input reads as it did. -/
def fnExactSheetSizeUptoRow : OpenClaim := { program := "ytijchmpjjmkidaa", sum := "18e54eaee6a900dfbd2e350d06f2c10c8c9e9054a0df9d96b12ca4e928fcce2e", func := "loop.example/flatfolding/laws.FnExactSheetSize", spec := "fnExactSheetSize", apart := false, narrowed := true }
def FnExactSheetSizeUptoSaid : Prop := fnExactSheetSizeUptoRow.holds Try.pinned (OpenSpec.upto fnExactSheetSizeSpec)

/-- 'laws.FnExactSheetOver', WHERE WHAT IT READS IS OF BULK AT MOST 1048576: true; the input reads as it did. -/
def fnExactSheetOverUptoRow : OpenClaim := { program := "ytijchmpjjmkidaa", sum := "18e54eaee6a900dfbd2e350d06f2c10c8c9e9054a0df9d96b12ca4e928fcce2e", func := "loop.example/flatfolding/laws.FnExactSheetOver", spec := "fnExactSheetOver", apart := false, narrowed := true }
def FnExactSheetOverUptoSaid : Prop := fnExactSheetOverUptoRow.holds Try.pinned (OpenSpec.upto fnExactSheetOverSpec)

/-- 'laws.FnExactSheetMirror', WHERE WHAT IT READS IS OF BULK AT MOST 1048576: true; the input reads as it did. -/
def fnExactSheetMirrorUptoRow : OpenClaim := { program := "ytijchmpjjmkidaa", sum := "18e54eaee6a900dfbd2e350d06f2c10c8c9e9054a0df9d96b12ca4e928fcce2e", func := "loop.example/flatfolding/laws.FnExactSheetMirror", spec := "fnExactSheetMirror", apart := false, narrowed := true }
def FnExactSheetMirrorUptoSaid : Prop := fnExactSheetMirrorUptoRow.holds Try.pinned (OpenSpec.upto fnExactSheetMirrorSpec)

/-- 'laws.FnExactWordOther', WHERE WHAT IT READS IS OF BULK AT MOST 1048576: true; the input reads as it did. -/
def fnExactWordOtherUptoRow : OpenClaim := { program := "ytijchmpjjmkidaa", sum := "18e54eaee6a900dfbd2e350d06f2c10c8c9e9054a0df9d96b12ca4e928fcce2e", func := "loop.example/flatfolding/laws.FnExactWordOther", spec := "fnExactWordOther", apart := false, narrowed := true }
def FnExactWordOtherUptoSaid : Prop := fnExactWordOtherUptoRow.holds Try.pinned (OpenSpec.upto fnExactWordOtherSpec)

/-- 'laws.FnExactWordEven', WHERE WHAT IT READS IS OF BULK AT MOST 1048576: true; the input reads as it did. -/
def fnExactWordEvenUptoRow : OpenClaim := { program := "ytijchmpjjmkidaa", sum := "18e54eaee6a900dfbd2e350d06f2c10c8c9e9054a0df9d96b12ca4e928fcce2e", func := "loop.example/flatfolding/laws.FnExactWordEven", spec := "fnExactWordEven", recurses := true, apart := false, narrowed := true }
def FnExactWordEvenUptoSaid : Prop := fnExactWordEvenUptoRow.holds Try.pinned (OpenSpec.upto fnExactWordEvenSpec)

end Rows
end Go.Proofs.Ytijchmpjjmkidaa
