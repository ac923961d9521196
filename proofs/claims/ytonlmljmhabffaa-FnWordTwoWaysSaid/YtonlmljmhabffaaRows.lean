/-
  No cell of these rows narrows 'for every input' (looked for: loops, veiled, ifaces, maps, wideKeys, modest, calm, conditions, laid).
  DERIVED. THE GIVEN ROWS OF THIS SEAT. 6 by the template 'for every input the law returns true; each argument reads behind the call as it read before'; 0 by the template 'total and deterministic' (their statements: YtonlmljmhabffaaTotals.lean).
  GIVEN WITH THE SEED: the statements are not yours to turn. If you find one false, say at which input.
  Laid BY PROGRAM, IN A SANDBOX (cutbox-rows.mjs): the forced cells as the released guide's own fill.sh prints them over the translation 3124b040420af3c6… (all of the seat's roots in one cut). By AI agents, Wed Nov 11 2026. No macro, syntax, notation, axiom, sorry.
-/
import Derived.Test.YtonlmljmhabffaaChecked
import GoSem.Claim
import GoSem.ClaimJoined
import GoSem.ClaimMapViews
import Derived.JoinedTies
import Derived.KernelRfl
namespace Go.Proofs.Ytonlmljmhabffaa
/- THE CELL 'sum', in the pinned program and in every row, IS THE sha256 OF THE DUMP (.gsa) THAT YtonlmljmhabffaaProg.lean LOADS. Nothing in Lean hashes anything: it is a label: what it is worth is what the hold of that sum in a sandbox is worth. -/
noncomputable def Try.pinned : Pinned := { name := "ytonlmljmhabffaa", sum := "3124b040420af3c6fa91bdfd27552fd5d5170fa2785c835032a78c6ceaf71416", checked := Try.checked }
namespace Rows
def none {H : Type} : Left H := { results := [], args := [] }

/-- 'laws.FnExactWordValid': WHATEVER THE INPUT: true; the input reads as it did. -/
def fnExactWordValidSpec : ChangeSpec := { name := "fnExactWordValid", fn := fun _ => fun
  | [d] => { results := [.lit (.bool true)], args := [d] }
  | _ => none }
def fnExactWordValidRow : OpenClaim := { program := "ytonlmljmhabffaa", sum := "3124b040420af3c6fa91bdfd27552fd5d5170fa2785c835032a78c6ceaf71416", func := "loop.example/flatfolding/laws.FnExactWordValid", spec := "fnExactWordValid", recurses := true, apart := false }
def FnExactWordValidSaid : Prop := fnExactWordValidRow.holds Try.pinned (OpenSpec.ofChange fnExactWordValidSpec)

/-- ITS FALSE NEIGHBOUR: 'it returns false'. Refute it at one input. -/
def fnExactWordValidWrong : ChangeSpec := { name := "fnExactWordValid", fn := fun _ => fun
  | [d] => { results := [.lit (.bool false)], args := [d] }
  | _ => none }
def FnExactWordValidWrongFalsely : Prop := fnExactWordValidRow.holds Try.pinned (OpenSpec.ofChange fnExactWordValidWrong)

/-- 'laws.FnExactWordText': WHATEVER THE INPUT: true; the input reads as it did. -/
def fnExactWordTextSpec : ChangeSpec := { name := "fnExactWordText", fn := fun _ => fun
  | [d] => { results := [.lit (.bool true)], args := [d] }
  | _ => none }
def fnExactWordTextRow : OpenClaim := { program := "ytonlmljmhabffaa", sum := "3124b040420af3c6fa91bdfd27552fd5d5170fa2785c835032a78c6ceaf71416", func := "loop.example/flatfolding/laws.FnExactWordText", spec := "fnExactWordText", recurses := true, apart := false }
def FnExactWordTextSaid : Prop := fnExactWordTextRow.holds Try.pinned (OpenSpec.ofChange fnExactWordTextSpec)

/-- ITS FALSE NEIGHBOUR: 'it returns false'. Refute it at one input. -/
def fnExactWordTextWrong : ChangeSpec := { name := "fnExactWordText", fn := fun _ => fun
  | [d] => { results := [.lit (.bool false)], args := [d] }
  | _ => none }
def FnExactWordTextWrongFalsely : Prop := fnExactWordTextRow.holds Try.pinned (OpenSpec.ofChange fnExactWordTextWrong)

/-- 'laws.FnExactWordOf': WHATEVER THE INPUT: true; the input reads as it did. -/
def fnExactWordOfSpec : ChangeSpec := { name := "fnExactWordOf", fn := fun _ => fun
  | [d] => { results := [.lit (.bool true)], args := [d] }
  | _ => none }
def fnExactWordOfRow : OpenClaim := { program := "ytonlmljmhabffaa", sum := "3124b040420af3c6fa91bdfd27552fd5d5170fa2785c835032a78c6ceaf71416", func := "loop.example/flatfolding/laws.FnExactWordOf", spec := "fnExactWordOf", unfollowed := true, recurses := true, apart := false }
def FnExactWordOfSaid : Prop := fnExactWordOfRow.holds Try.pinned (OpenSpec.ofChange fnExactWordOfSpec)

/-- ITS FALSE NEIGHBOUR: 'it returns false'. Refute it at one input. -/
def fnExactWordOfWrong : ChangeSpec := { name := "fnExactWordOf", fn := fun _ => fun
  | [d] => { results := [.lit (.bool false)], args := [d] }
  | _ => none }
def FnExactWordOfWrongFalsely : Prop := fnExactWordOfRow.holds Try.pinned (OpenSpec.ofChange fnExactWordOfWrong)

/-- 'laws.FnWordOther': WHATEVER THE INPUT: true; the input reads as it did. -/
def fnWordOtherSpec : ChangeSpec := { name := "fnWordOther", fn := fun _ => fun
  | [d] => { results := [.lit (.bool true)], args := [d] }
  | _ => none }
def fnWordOtherRow : OpenClaim := { program := "ytonlmljmhabffaa", sum := "3124b040420af3c6fa91bdfd27552fd5d5170fa2785c835032a78c6ceaf71416", func := "loop.example/flatfolding/laws.FnWordOther", spec := "fnWordOther", recurses := true, apart := false }
def FnWordOtherSaid : Prop := fnWordOtherRow.holds Try.pinned (OpenSpec.ofChange fnWordOtherSpec)

/-- ITS FALSE NEIGHBOUR: 'it returns false'. Refute it at one input. -/
def fnWordOtherWrong : ChangeSpec := { name := "fnWordOther", fn := fun _ => fun
  | [d] => { results := [.lit (.bool false)], args := [d] }
  | _ => none }
def FnWordOtherWrongFalsely : Prop := fnWordOtherRow.holds Try.pinned (OpenSpec.ofChange fnWordOtherWrong)

/-- 'laws.FnWordText': WHATEVER THE INPUT: true; the input reads as it did. -/
def fnWordTextSpec : ChangeSpec := { name := "fnWordText", fn := fun _ => fun
  | [d] => { results := [.lit (.bool true)], args := [d] }
  | _ => none }
def fnWordTextRow : OpenClaim := { program := "ytonlmljmhabffaa", sum := "3124b040420af3c6fa91bdfd27552fd5d5170fa2785c835032a78c6ceaf71416", func := "loop.example/flatfolding/laws.FnWordText", spec := "fnWordText", recurses := true, apart := false }
def FnWordTextSaid : Prop := fnWordTextRow.holds Try.pinned (OpenSpec.ofChange fnWordTextSpec)

/-- ITS FALSE NEIGHBOUR: 'it returns false'. Refute it at one input. -/
def fnWordTextWrong : ChangeSpec := { name := "fnWordText", fn := fun _ => fun
  | [d] => { results := [.lit (.bool false)], args := [d] }
  | _ => none }
def FnWordTextWrongFalsely : Prop := fnWordTextRow.holds Try.pinned (OpenSpec.ofChange fnWordTextWrong)

/-- 'laws.FnWordTwoWays': WHATEVER THE INPUT: true; the input reads as it did. -/
def fnWordTwoWaysSpec : ChangeSpec := { name := "fnWordTwoWays", fn := fun _ => fun
  | [d1, d2] => { results := [.lit (.bool true)], args := [d1, d2] }
  | _ => none }
def fnWordTwoWaysRow : OpenClaim := { program := "ytonlmljmhabffaa", sum := "3124b040420af3c6fa91bdfd27552fd5d5170fa2785c835032a78c6ceaf71416", func := "loop.example/flatfolding/laws.FnWordTwoWays", spec := "fnWordTwoWays", recurses := true, apart := false }
def FnWordTwoWaysSaid : Prop := fnWordTwoWaysRow.holds Try.pinned (OpenSpec.ofChange fnWordTwoWaysSpec)

/-- ITS FALSE NEIGHBOUR: 'it returns false'. Refute it at one input. -/
def fnWordTwoWaysWrong : ChangeSpec := { name := "fnWordTwoWays", fn := fun _ => fun
  | [d1, d2] => { results := [.lit (.bool false)], args := [d1, d2] }
  | _ => none }
def FnWordTwoWaysWrongFalsely : Prop := fnWordTwoWaysRow.holds Try.pinned (OpenSpec.ofChange fnWordTwoWaysWrong)

/- THE SECOND FORM. 'bulk': how many values and letters a reading holds, each counted each time it is reached (what is shared counts as often as it is met; a slice's spare places count too). A statement '..UptoSaid' is the law's where the arguments, and the package variables that the reading takes, are together of bulk at most 1048576: NARROWER than '..Said'. Prove '..Said' where nothing that the law and all that it calls make is longer than what came in: it says more and counts as full. Else prove '..UptoSaid'. A law counts once. -/
mutual
def uptoBulk {H : Type} : DataW H → Nat
  | .lit (.string bytes) => bytes.length + 1
  | .lit _ => 1
  | .nil => 1
  | .ptr d => uptoBulk d + 1
  | .slice elems spare => uptoBulkAll elems + uptoBulkAll spare + 1
  | .agg parts => uptoBulkAll parts + 1
  | .iface _ d => uptoBulk d + 1
  | .map entries => uptoBulkEntries entries + 1
  | .held _ => 1
def uptoBulkAll {H : Type} : List (DataW H) → Nat
  | [] => 0
  | d :: r => uptoBulk d + uptoBulkAll r
def uptoBulkEntries {H : Type} : List (Lit × DataW H) → Nat
  | [] => 0
  | x :: r => uptoBulkEntry x + uptoBulkEntries r
def uptoBulkEntry {H : Type} : Lit × DataW H → Nat
  | (.string bytes, d) => bytes.length + uptoBulk d + 1
  | (_, d) => uptoBulk d + 1
 end
def uptoSmall : (H : Type) → List (DataW H) → Bool := fun _ ds => decide (uptoBulkAll ds ≤ 1048576)
def OpenSpec.upto (s : _root_.Go.ChangeSpec) : _root_.Go.OpenSpec := { _root_.Go.OpenSpec.ofChange s with cond := some uptoSmall }

/-- 'laws.FnExactWordValid', WHERE WHAT IT READS IS OF BULK AT MOST 1048576: true; the input reads as it did. -/
def fnExactWordValidUptoRow : OpenClaim := { program := "ytonlmljmhabffaa", sum := "3124b040420af3c6fa91bdfd27552fd5d5170fa2785c835032a78c6ceaf71416", func := "loop.example/flatfolding/laws.FnExactWordValid", spec := "fnExactWordValid", recurses := true, apart := false, narrowed := true }
def FnExactWordValidUptoSaid : Prop := fnExactWordValidUptoRow.holds Try.pinned (OpenSpec.upto fnExactWordValidSpec)

/-- 'laws.FnExactWordText', WHERE WHAT IT READS IS OF BULK AT MOST 1048576: true; the input reads as it did. -/
def fnExactWordTextUptoRow : OpenClaim := { program := "ytonlmljmhabffaa", sum := "3124b040420af3c6fa91bdfd27552fd5d5170fa2785c835032a78c6ceaf71416", func := "loop.example/flatfolding/laws.FnExactWordText", spec := "fnExactWordText", recurses := true, apart := false, narrowed := true }
def FnExactWordTextUptoSaid : Prop := fnExactWordTextUptoRow.holds Try.pinned (OpenSpec.upto fnExactWordTextSpec)

/-- 'laws.FnExactWordOf', WHERE WHAT IT READS IS OF BULK AT MOST 1048576: true; the input reads as it did. -/
def fnExactWordOfUptoRow : OpenClaim := { program := "ytonlmljmhabffaa", sum := "3124b040420af3c6fa91bdfd27552fd5d5170fa2785c835032a78c6ceaf71416", func := "loop.example/flatfolding/laws.FnExactWordOf", spec := "fnExactWordOf", unfollowed := true, recurses := true, apart := false, narrowed := true }
def FnExactWordOfUptoSaid : Prop := fnExactWordOfUptoRow.holds Try.pinned (OpenSpec.upto fnExactWordOfSpec)

/-- 'laws.FnWordOther', WHERE WHAT IT READS IS OF BULK AT MOST 1048576: true; the input reads as it did. -/
def fnWordOtherUptoRow : OpenClaim := { program := "ytonlmljmhabffaa", sum := "3124b040420af3c6fa91bdfd27552fd5d5170fa2785c835032a78c6ceaf71416", func := "loop.example/flatfolding/laws.FnWordOther", spec := "fnWordOther", recurses := true, apart := false, narrowed := true }
def FnWordOtherUptoSaid : Prop := fnWordOtherUptoRow.holds Try.pinned (OpenSpec.upto fnWordOtherSpec)

/-- 'laws.FnWordText', WHERE WHAT IT READS IS OF BULK AT MOST 1048576: true; the input reads as it did. -/
def fnWordTextUptoRow : OpenClaim := { program := "ytonlmljmhabffaa", sum := "3124b040420af3c6fa91bdfd27552fd5d5170fa2785c835032a78c6ceaf71416", func := "loop.example/flatfolding/laws.FnWordText", spec := "fnWordText", recurses := true, apart := false, narrowed := true }
def FnWordTextUptoSaid : Prop := fnWordTextUptoRow.holds Try.pinned (OpenSpec.upto fnWordTextSpec)

/-- 'laws.FnWordTwoWays', WHERE WHAT IT READS IS OF BULK AT MOST 1048576: true; the input reads as it did. -/
def fnWordTwoWaysUptoRow : OpenClaim := { program := "ytonlmljmhabffaa", sum := "3124b040420af3c6fa91bdfd27552fd5d5170fa2785c835032a78c6ceaf71416", func := "loop.example/flatfolding/laws.FnWordTwoWays", spec := "fnWordTwoWays", recurses := true, apart := false, narrowed := true }
def FnWordTwoWaysUptoSaid : Prop := fnWordTwoWaysUptoRow.holds Try.pinned (OpenSpec.upto fnWordTwoWaysSpec)

end Rows
end Go.Proofs.Ytonlmljmhabffaa
