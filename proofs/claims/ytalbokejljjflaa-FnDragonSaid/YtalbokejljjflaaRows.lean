/-
  No cell of these rows narrows 'for every input' (looked for: loops, veiled, ifaces, maps, wideKeys, modest, calm, conditions, laid).
  DERIVED. THE GIVEN ROWS OF THIS SEAT. 3 by the template 'for every input the law returns true; each argument reads behind the call as it read before'; 0 by the template 'total and deterministic' (their statements: YtalbokejljjflaaTotals.lean).
  GIVEN WITH THE SEED: the statements are not yours to turn. If you find one false, say at which input.
  Laid BY PROGRAM, IN A SANDBOX (cutbox-rows.mjs): the forced cells as the released guide's own fill.sh prints them over the translation f46b5211895a8752… (all of the seat's roots in one cut). By AI agents, Wed Nov 11 2026. No macro, syntax, notation, axiom, sorry.
-/
import Derived.Test.YtalbokejljjflaaChecked
import GoSem.Claim
import GoSem.ClaimJoined
import GoSem.ClaimMapViews
import Derived.JoinedTies
import Derived.KernelRfl
namespace Go.Proofs.Ytalbokejljjflaa
/- THE CELL 'sum', in the pinned program and in every row, IS THE sha256 OF THE DUMP (.gsa) THAT YtalbokejljjflaaProg.lean LOADS. Nothing in Lean hashes anything: it is a label: what it is worth is what the hold of that sum in a sandbox is worth. -/
noncomputable def Try.pinned : Pinned := { name := "ytalbokejljjflaa", sum := "f46b5211895a8752bc558683051ab8843d7d5941551e2663b17783e273b35866", checked := Try.checked }
namespace Rows
def none {H : Type} : Left H := { results := [], args := [] }

/-- 'laws.FnPathSwap': WHATEVER THE INPUT: true; the input reads as it did. -/
def fnPathSwapSpec : ChangeSpec := { name := "fnPathSwap", fn := fun _ => fun
  | [d] => { results := [.lit (.bool true)], args := [d] }
  | _ => none }
def fnPathSwapRow : OpenClaim := { program := "ytalbokejljjflaa", sum := "f46b5211895a8752bc558683051ab8843d7d5941551e2663b17783e273b35866", func := "loop.example/flatfolding/laws.FnPathSwap", spec := "fnPathSwap", unfollowed := true, recurses := true, plainKeys := false, apart := false }
def FnPathSwapSaid : Prop := fnPathSwapRow.holds Try.pinned (OpenSpec.ofChange fnPathSwapSpec)

/-- ITS FALSE NEIGHBOUR: 'it returns false'. Refute it at one input. -/
def fnPathSwapWrong : ChangeSpec := { name := "fnPathSwap", fn := fun _ => fun
  | [d] => { results := [.lit (.bool false)], args := [d] }
  | _ => none }
def FnPathSwapWrongFalsely : Prop := fnPathSwapRow.holds Try.pinned (OpenSpec.ofChange fnPathSwapWrong)

/-- 'laws.FnDragon': WHATEVER THE INPUT: true; the input reads as it did. -/
def fnDragonSpec : ChangeSpec := { name := "fnDragon", fn := fun _ => fun
  | [d] => { results := [.lit (.bool true)], args := [d] }
  | _ => none }
def fnDragonRow : OpenClaim := { program := "ytalbokejljjflaa", sum := "f46b5211895a8752bc558683051ab8843d7d5941551e2663b17783e273b35866", func := "loop.example/flatfolding/laws.FnDragon", spec := "fnDragon", unfollowed := true, recurses := true, plainKeys := false, apart := false }
def FnDragonSaid : Prop := fnDragonRow.holds Try.pinned (OpenSpec.ofChange fnDragonSpec)

/-- ITS FALSE NEIGHBOUR: 'it returns false'. Refute it at one input. -/
def fnDragonWrong : ChangeSpec := { name := "fnDragon", fn := fun _ => fun
  | [d] => { results := [.lit (.bool false)], args := [d] }
  | _ => none }
def FnDragonWrongFalsely : Prop := fnDragonRow.holds Try.pinned (OpenSpec.ofChange fnDragonWrong)

/-- 'laws.FnPathHalf': WHATEVER THE INPUT: true; the input reads as it did. -/
def fnPathHalfSpec : ChangeSpec := { name := "fnPathHalf", fn := fun _ => fun
  | [d] => { results := [.lit (.bool true)], args := [d] }
  | _ => none }
def fnPathHalfRow : OpenClaim := { program := "ytalbokejljjflaa", sum := "f46b5211895a8752bc558683051ab8843d7d5941551e2663b17783e273b35866", func := "loop.example/flatfolding/laws.FnPathHalf", spec := "fnPathHalf", unfollowed := true, recurses := true, plainKeys := false, apart := false }
def FnPathHalfSaid : Prop := fnPathHalfRow.holds Try.pinned (OpenSpec.ofChange fnPathHalfSpec)

/-- ITS FALSE NEIGHBOUR: 'it returns false'. Refute it at one input. -/
def fnPathHalfWrong : ChangeSpec := { name := "fnPathHalf", fn := fun _ => fun
  | [d] => { results := [.lit (.bool false)], args := [d] }
  | _ => none }
def FnPathHalfWrongFalsely : Prop := fnPathHalfRow.holds Try.pinned (OpenSpec.ofChange fnPathHalfWrong)

/- THE SECOND FORM. 'bulk': how many values and letters a reading holds, each counted each time it is reached (what is shared counts as often as it is met; a slice's spare places count too). A statement '..UptoSaid' is the law's where the arguments, and the package variables that the reading takes, are together of bulk at most 1048576: NARROWER than '..Said'. Prove '..Said' where nothing that the law and all that it calls make is longer than what came in: it says more and counts as full. Else prove '..UptoSaid'. A law counts once. -/
mutual
def uptoBulk {H : Type} : DataW H → Nat
  | .lit (.string bytes) => bytes.length + 1
  | .lit _ => 1
  | .nil => 1
  | .ptr d => uptoBulk d + 1
  | .slice elems spare => uptoBulkAll elems + uptoBulkAll spare + 1
  | .agg parts => uptoBulkAll parts + 1
  | .iface _ d => uptoBulk d + 1
  | .map entries => uptoBulkEntries entries + 1
  | .held _ => 1
def uptoBulkAll {H : Type} : List (DataW H) → Nat
  | [] => 0
  | d :: r => uptoBulk d + uptoBulkAll r
def uptoBulkEntries {H : Type} : List (Lit × DataW H) → Nat
  | [] => 0
  | x :: r => uptoBulkEntry x + uptoBulkEntries r
def uptoBulkEntry {H : Type} : Lit × DataW H → Nat
  | (.string bytes, d) => bytes.length + uptoBulk d + 1
  | (_, d) => uptoBulk d + 1
 end
def uptoSmall : (H : Type) → List (DataW H) → Bool := fun _ ds => decide (uptoBulkAll ds ≤ 1048576)
def OpenSpec.upto (s : _root_.Go.ChangeSpec) : _root_.Go.OpenSpec := { _root_.Go.OpenSpec.ofChange s with cond := some uptoSmall }

/-- 'laws.FnPathSwap', WHERE WHAT IT READS IS OF BULK AT MOST 1048576: true; the input reads as it did. -/
def fnPathSwapUptoRow : OpenClaim := { program := "ytalbokejljjflaa", sum := "f46b5211895a8752bc558683051ab8843d7d5941551e2663b17783e273b35866", func := "loop.example/flatfolding/laws.FnPathSwap", spec := "fnPathSwap", unfollowed := true, recurses := true, plainKeys := false, apart := false, narrowed := true }
def FnPathSwapUptoSaid : Prop := fnPathSwapUptoRow.holds Try.pinned (OpenSpec.upto fnPathSwapSpec)

/-- 'laws.FnDragon', WHERE WHAT IT READS IS OF BULK AT MOST 1048576: true; the input reads as it did. -/
def fnDragonUptoRow : OpenClaim := { program := "ytalbokejljjflaa", sum := "f46b5211895a8752bc558683051ab8843d7d5941551e2663b17783e273b35866", func := "loop.example/flatfolding/laws.FnDragon", spec := "fnDragon", unfollowed := true, recurses := true, plainKeys := false, apart := false, narrowed := true }
def FnDragonUptoSaid : Prop := fnDragonUptoRow.holds Try.pinned (OpenSpec.upto fnDragonSpec)

/-- 'laws.FnPathHalf', WHERE WHAT IT READS IS OF BULK AT MOST 1048576: true; the input reads as it did. -/
def fnPathHalfUptoRow : OpenClaim := { program := "ytalbokejljjflaa", sum := "f46b5211895a8752bc558683051ab8843d7d5941551e2663b17783e273b35866", func := "loop.example/flatfolding/laws.FnPathHalf", spec := "fnPathHalf", unfollowed := true, recurses := true, plainKeys := false, apart := false, narrowed := true }
def FnPathHalfUptoSaid : Prop := fnPathHalfUptoRow.holds Try.pinned (OpenSpec.upto fnPathHalfSpec)

end Rows
end Go.Proofs.Ytalbokejljjflaa
