/-
  No cell of these rows narrows 'for every input' (looked for: loops, veiled, ifaces, maps, wideKeys, modest, calm, conditions, laid).
  DERIVED. THE GIVEN ROWS OF THIS SEAT. 5 by the template 'for every input the law returns true; each argument reads behind the call as it read before'; 0 by the template 'total and deterministic' (their statements: YtadpbbjahckoaaaTotals.lean).
  GIVEN WITH THE SEED: the statements are not yours to turn. If you find one false, say at which input.
  Laid BY PROGRAM, IN A SANDBOX (cutbox-rows.mjs): the forced cells as the released guide's own fill.sh prints them over the translation 240e94882f335bde… (all of the seat's roots in one cut). By AI agents, Wed Nov 11 2026. No macro, syntax, notation, axiom, sorry.
-/
import Derived.Test.YtadpbbjahckoaaaChecked
import GoSem.Claim
import GoSem.ClaimJoined
import GoSem.ClaimMapViews
import Derived.JoinedTies
import Derived.KernelRfl
namespace Go.Proofs.Ytadpbbjahckoaaa
/- THE CELL 'sum', in the pinned program and in every row, IS THE sha256 OF THE DUMP (.gsa) THAT YtadpbbjahckoaaaProg.lean LOADS. Nothing in Lean hashes anything: it is a label: what it is worth is what the hold of that sum in a sandbox is worth. -/
noncomputable def Try.pinned : Pinned := { name := "ytadpbbjahckoaaa", sum := "240e94882f335bde2f9c85e4d9687f5b2f140b3158dc58f956a9d80116dc2707", checked := Try.checked }
namespace Rows
def none {H : Type} : Left H := { results := [], args := [] }

/-- 'laws.FnExactStampNth': WHATEVER THE INPUT: true; the input reads as it did. -/
def fnExactStampNthSpec : ChangeSpec := { name := "fnExactStampNth", fn := fun _ => fun
  | [d1, d2] => { results := [.lit (.bool true)], args := [d1, d2] }
  | _ => none }
def fnExactStampNthRow : OpenClaim := { program := "ytadpbbjahckoaaa", sum := "240e94882f335bde2f9c85e4d9687f5b2f140b3158dc58f956a9d80116dc2707", func := "loop.example/flatfolding/laws.FnExactStampNth", spec := "fnExactStampNth", unfollowed := true, recurses := true, apart := false }
def FnExactStampNthSaid : Prop := fnExactStampNthRow.holds Try.pinned (OpenSpec.ofChange fnExactStampNthSpec)

/-- ITS FALSE NEIGHBOUR: 'it returns false'. Refute it at one input. -/
def fnExactStampNthWrong : ChangeSpec := { name := "fnExactStampNth", fn := fun _ => fun
  | [d1, d2] => { results := [.lit (.bool false)], args := [d1, d2] }
  | _ => none }
def FnExactStampNthWrongFalsely : Prop := fnExactStampNthRow.holds Try.pinned (OpenSpec.ofChange fnExactStampNthWrong)

/-- 'laws.FnStampNth': WHATEVER THE INPUT: true; the input reads as it did. -/
def fnStampNthSpec : ChangeSpec := { name := "fnStampNth", fn := fun _ => fun
  | [d] => { results := [.lit (.bool true)], args := [d] }
  | _ => none }
def fnStampNthRow : OpenClaim := { program := "ytadpbbjahckoaaa", sum := "240e94882f335bde2f9c85e4d9687f5b2f140b3158dc58f956a9d80116dc2707", func := "loop.example/flatfolding/laws.FnStampNth", spec := "fnStampNth", unfollowed := true, recurses := true, apart := false }
def FnStampNthSaid : Prop := fnStampNthRow.holds Try.pinned (OpenSpec.ofChange fnStampNthSpec)

/-- ITS FALSE NEIGHBOUR: 'it returns false'. Refute it at one input. -/
def fnStampNthWrong : ChangeSpec := { name := "fnStampNth", fn := fun _ => fun
  | [d] => { results := [.lit (.bool false)], args := [d] }
  | _ => none }
def FnStampNthWrongFalsely : Prop := fnStampNthRow.holds Try.pinned (OpenSpec.ofChange fnStampNthWrong)

/-- 'laws.FnStampRank': WHATEVER THE INPUT: true; the input reads as it did. -/
def fnStampRankSpec : ChangeSpec := { name := "fnStampRank", fn := fun _ => fun
  | [d] => { results := [.lit (.bool true)], args := [d] }
  | _ => none }
def fnStampRankRow : OpenClaim := { program := "ytadpbbjahckoaaa", sum := "240e94882f335bde2f9c85e4d9687f5b2f140b3158dc58f956a9d80116dc2707", func := "loop.example/flatfolding/laws.FnStampRank", spec := "fnStampRank", unfollowed := true, recurses := true, apart := false }
def FnStampRankSaid : Prop := fnStampRankRow.holds Try.pinned (OpenSpec.ofChange fnStampRankSpec)

/-- ITS FALSE NEIGHBOUR: 'it returns false'. Refute it at one input. -/
def fnStampRankWrong : ChangeSpec := { name := "fnStampRank", fn := fun _ => fun
  | [d] => { results := [.lit (.bool false)], args := [d] }
  | _ => none }
def FnStampRankWrongFalsely : Prop := fnStampRankRow.holds Try.pinned (OpenSpec.ofChange fnStampRankWrong)

/-- 'laws.FnStampClasses': WHATEVER THE INPUT: true; the input reads as it did. -/
def fnStampClassesSpec : ChangeSpec := { name := "fnStampClasses", fn := fun _ => fun
  | [d] => { results := [.lit (.bool true)], args := [d] }
  | _ => none }
def fnStampClassesRow : OpenClaim := { program := "ytadpbbjahckoaaa", sum := "240e94882f335bde2f9c85e4d9687f5b2f140b3158dc58f956a9d80116dc2707", func := "loop.example/flatfolding/laws.FnStampClasses", spec := "fnStampClasses", unfollowed := true, recurses := true, apart := false }
def FnStampClassesSaid : Prop := fnStampClassesRow.holds Try.pinned (OpenSpec.ofChange fnStampClassesSpec)

/-- ITS FALSE NEIGHBOUR: 'it returns false'. Refute it at one input. -/
def fnStampClassesWrong : ChangeSpec := { name := "fnStampClasses", fn := fun _ => fun
  | [d] => { results := [.lit (.bool false)], args := [d] }
  | _ => none }
def FnStampClassesWrongFalsely : Prop := fnStampClassesRow.holds Try.pinned (OpenSpec.ofChange fnStampClassesWrong)

/-- 'laws.FnStampFoldsTwo': WHATEVER THE INPUT: true; the input reads as it did. -/
def fnStampFoldsTwoSpec : ChangeSpec := { name := "fnStampFoldsTwo", fn := fun _ => fun
  | [d] => { results := [.lit (.bool true)], args := [d] }
  | _ => none }
def fnStampFoldsTwoRow : OpenClaim := { program := "ytadpbbjahckoaaa", sum := "240e94882f335bde2f9c85e4d9687f5b2f140b3158dc58f956a9d80116dc2707", func := "loop.example/flatfolding/laws.FnStampFoldsTwo", spec := "fnStampFoldsTwo", unfollowed := true, recurses := true, apart := false }
def FnStampFoldsTwoSaid : Prop := fnStampFoldsTwoRow.holds Try.pinned (OpenSpec.ofChange fnStampFoldsTwoSpec)

/-- ITS FALSE NEIGHBOUR: 'it returns false'. Refute it at one input. -/
def fnStampFoldsTwoWrong : ChangeSpec := { name := "fnStampFoldsTwo", fn := fun _ => fun
  | [d] => { results := [.lit (.bool false)], args := [d] }
  | _ => none }
def FnStampFoldsTwoWrongFalsely : Prop := fnStampFoldsTwoRow.holds Try.pinned (OpenSpec.ofChange fnStampFoldsTwoWrong)

/- THE SECOND FORM. 'bulk': how many values and letters a reading holds, each counted each time it is reached (what is shared counts as often as it is met; a slice's spare places count too). A statement '..UptoSaid' is the law's where the arguments, and the package variables that the reading takes, are together of bulk at most 1048576: NARROWER than '..Said'. Prove '..Said' where nothing that the law and all that it calls make is longer than what came in: it says more and counts as full. Else prove '..UptoSaid'. A law counts once. -/
mutual
def uptoBulk {H : Type} : DataW H → Nat
  | .lit (.string bytes) => bytes.length + 1
  | .lit _ => 1
  | .nil => 1
  | .ptr d => uptoBulk d + 1
  | .slice elems spare => uptoBulkAll elems + uptoBulkAll spare + 1
  | .agg parts => uptoBulkAll parts + 1
  | .iface _ d => uptoBulk d + 1
  | .map entries => uptoBulkEntries entries + 1
  | .held _ => 1
def uptoBulkAll {H : Type} : List (DataW H) → Nat
  | [] => 0
  | d :: r => uptoBulk d + uptoBulkAll r
def uptoBulkEntries {H : Type} : List (Lit × DataW H) → Nat
  | [] => 0
  | x :: r => uptoBulkEntry x + uptoBulkEntries r
def uptoBulkEntry {H : Type} : Lit × DataW H → Nat
  | (.string bytes, d) => bytes.length + uptoBulk d + 1
  | (_, d) => uptoBulk d + 1
 end
def uptoSmall : (H : Type) → List (DataW H) → Bool := fun _ ds => decide (uptoBulkAll ds ≤ 1048576)
def OpenSpec.upto (s : _root_.Go.ChangeSpec) : _root_.Go.OpenSpec := { _root_.Go.OpenSpec.ofChange s with cond := some uptoSmall }

/-- 'laws.FnExactStampNth', WHERE WHAT IT READS IS OF BULK AT MOST 1048576: true; the input reads as it did. -/
def fnExactStampNthUptoRow : OpenClaim := { program := "ytadpbbjahckoaaa", sum := "240e94882f335bde2f9c85e4d9687f5b2f140b3158dc58f956a9d80116dc2707", func := "loop.example/flatfolding/laws.FnExactStampNth", spec := "fnExactStampNth", unfollowed := true, recurses := true, apart := false, narrowed := true }
def FnExactStampNthUptoSaid : Prop := fnExactStampNthUptoRow.holds Try.pinned (OpenSpec.upto fnExactStampNthSpec)

/-- 'laws.FnStampNth', WHERE WHAT IT READS IS OF BULK AT MOST 1048576: true; the input reads as it did. -/
def fnStampNthUptoRow : OpenClaim := { program := "ytadpbbjahckoaaa", sum := "240e94882f335bde2f9c85e4d9687f5b2f140b3158dc58f956a9d80116dc2707", func := "loop.example/flatfolding/laws.FnStampNth", spec := "fnStampNth", unfollowed := true, recurses := true, apart := false, narrowed := true }
def FnStampNthUptoSaid : Prop := fnStampNthUptoRow.holds Try.pinned (OpenSpec.upto fnStampNthSpec)

/-- 'laws.FnStampRank', WHERE WHAT IT READS IS OF BULK AT MOST 1048576: true; the input reads as it did. -/
def fnStampRankUptoRow : OpenClaim := { program := "ytadpbbjahckoaaa", sum := "240e94882f335bde2f9c85e4d9687f5b2f140b3158dc58f956a9d80116dc2707", func := "loop.example/flatfolding/laws.FnStampRank", spec := "fnStampRank", unfollowed := true, recurses := true, apart := false, narrowed := true }
def FnStampRankUptoSaid : Prop := fnStampRankUptoRow.holds Try.pinned (OpenSpec.upto fnStampRankSpec)

/-- 'laws.FnStampClasses', WHERE WHAT IT READS IS OF BULK AT MOST 1048576: true; the input reads as it did. -/
def fnStampClassesUptoRow : OpenClaim := { program := "ytadpbbjahckoaaa", sum := "240e94882f335bde2f9c85e4d9687f5b2f140b3158dc58f956a9d80116dc2707", func := "loop.example/flatfolding/laws.FnStampClasses", spec := "fnStampClasses", unfollowed := true, recurses := true, apart := false, narrowed := true }
def FnStampClassesUptoSaid : Prop := fnStampClassesUptoRow.holds Try.pinned (OpenSpec.upto fnStampClassesSpec)

/-- 'laws.FnStampFoldsTwo', WHERE WHAT IT READS IS OF BULK AT MOST 1048576: true; the input reads as it did. -/
def fnStampFoldsTwoUptoRow : OpenClaim := { program := "ytadpbbjahckoaaa", sum := "240e94882f335bde2f9c85e4d9687f5b2f140b3158dc58f956a9d80116dc2707", func := "loop.example/flatfolding/laws.FnStampFoldsTwo", spec := "fnStampFoldsTwo", unfollowed := true, recurses := true, apart := false, narrowed := true }
def FnStampFoldsTwoUptoSaid : Prop := fnStampFoldsTwoUptoRow.holds Try.pinned (OpenSpec.upto fnStampFoldsTwoSpec)

end Rows
end Go.Proofs.Ytadpbbjahckoaaa
