/-
  No cell of these rows narrows 'for every input' (looked for: loops, veiled, ifaces, maps, wideKeys, modest, calm, conditions, laid).
  DERIVED. THE GIVEN ROWS OF THIS SEAT. 6 by the template 'for every input the law returns true; each argument reads behind the call as it read before'; 0 by the template 'total and deterministic' (their statements: YtmlmihneanobdaaTotals.lean).
  GIVEN WITH THE SEED: the statements are not yours to turn. If you find one false, say at which input.
  Laid BY PROGRAM, IN A SANDBOX (cutbox-rows.mjs): the forced cells as the released guide's own fill.sh prints them over the translation f190c76698de24f9… (all of the seat's roots in one cut). By AI agents, Wed Nov 11 2026. No macro, syntax, notation, axiom, sorry.
-/
import Derived.Test.YtmlmihneanobdaaChecked
import GoSem.Claim
import GoSem.ClaimJoined
import GoSem.ClaimMapViews
import Derived.JoinedTies
import Derived.KernelRfl
namespace Go.Proofs.Ytmlmihneanobdaa
/- THE CELL 'sum', in the pinned program and in every row, IS THE sha256 OF THE DUMP (.gsa) THAT YtmlmihneanobdaaProg.lean LOADS. Nothing in Lean hashes anything: it is a label: what it is worth is what the hold of that sum in a sandbox is worth. -/
noncomputable def Try.pinned : Pinned := { name := "ytmlmihneanobdaa", sum := "f190c76698de24f942e94eabd2b417bee723838a7259759d702406bf582b354e", checked := Try.checked }
namespace Rows
def none {H : Type} : Left H := { results := [], args := [] }

/-- 'laws.FnExactPathPlaces': WHATEVER THE INPUT: true; the input reads as it did. -/
def fnExactPathPlacesSpec : ChangeSpec := { name := "fnExactPathPlaces", fn := fun _ => fun
  | [d] => { results := [.lit (.bool true)], args := [d] }
  | _ => none }
def fnExactPathPlacesRow : OpenClaim := { program := "ytmlmihneanobdaa", sum := "f190c76698de24f942e94eabd2b417bee723838a7259759d702406bf582b354e", func := "loop.example/flatfolding/laws.FnExactPathPlaces", spec := "fnExactPathPlaces", unfollowed := true, recurses := true, plainKeys := false, apart := false }
def FnExactPathPlacesSaid : Prop := fnExactPathPlacesRow.holds Try.pinned (OpenSpec.ofChange fnExactPathPlacesSpec)

/-- ITS FALSE NEIGHBOUR: 'it returns false'. Refute it at one input. -/
def fnExactPathPlacesWrong : ChangeSpec := { name := "fnExactPathPlaces", fn := fun _ => fun
  | [d] => { results := [.lit (.bool false)], args := [d] }
  | _ => none }
def FnExactPathPlacesWrongFalsely : Prop := fnExactPathPlacesRow.holds Try.pinned (OpenSpec.ofChange fnExactPathPlacesWrong)

/-- 'laws.FnExactPathEnd': WHATEVER THE INPUT: true; the input reads as it did. -/
def fnExactPathEndSpec : ChangeSpec := { name := "fnExactPathEnd", fn := fun _ => fun
  | [d] => { results := [.lit (.bool true)], args := [d] }
  | _ => none }
def fnExactPathEndRow : OpenClaim := { program := "ytmlmihneanobdaa", sum := "f190c76698de24f942e94eabd2b417bee723838a7259759d702406bf582b354e", func := "loop.example/flatfolding/laws.FnExactPathEnd", spec := "fnExactPathEnd", unfollowed := true, recurses := true, plainKeys := false, apart := false }
def FnExactPathEndSaid : Prop := fnExactPathEndRow.holds Try.pinned (OpenSpec.ofChange fnExactPathEndSpec)

/-- ITS FALSE NEIGHBOUR: 'it returns false'. Refute it at one input. -/
def fnExactPathEndWrong : ChangeSpec := { name := "fnExactPathEnd", fn := fun _ => fun
  | [d] => { results := [.lit (.bool false)], args := [d] }
  | _ => none }
def FnExactPathEndWrongFalsely : Prop := fnExactPathEndRow.holds Try.pinned (OpenSpec.ofChange fnExactPathEndWrong)

/-- 'laws.FnExactPathVisits': WHATEVER THE INPUT: true; the input reads as it did. -/
def fnExactPathVisitsSpec : ChangeSpec := { name := "fnExactPathVisits", fn := fun _ => fun
  | [d] => { results := [.lit (.bool true)], args := [d] }
  | _ => none }
def fnExactPathVisitsRow : OpenClaim := { program := "ytmlmihneanobdaa", sum := "f190c76698de24f942e94eabd2b417bee723838a7259759d702406bf582b354e", func := "loop.example/flatfolding/laws.FnExactPathVisits", spec := "fnExactPathVisits", unfollowed := true, recurses := true, plainKeys := false, apart := false }
def FnExactPathVisitsSaid : Prop := fnExactPathVisitsRow.holds Try.pinned (OpenSpec.ofChange fnExactPathVisitsSpec)

/-- ITS FALSE NEIGHBOUR: 'it returns false'. Refute it at one input. -/
def fnExactPathVisitsWrong : ChangeSpec := { name := "fnExactPathVisits", fn := fun _ => fun
  | [d] => { results := [.lit (.bool false)], args := [d] }
  | _ => none }
def FnExactPathVisitsWrongFalsely : Prop := fnExactPathVisitsRow.holds Try.pinned (OpenSpec.ofChange fnExactPathVisitsWrong)

/-- 'laws.FnExactPathOnce': WHATEVER THE INPUT: true; the input reads as it did. -/
def fnExactPathOnceSpec : ChangeSpec := { name := "fnExactPathOnce", fn := fun _ => fun
  | [d] => { results := [.lit (.bool true)], args := [d] }
  | _ => none }
def fnExactPathOnceRow : OpenClaim := { program := "ytmlmihneanobdaa", sum := "f190c76698de24f942e94eabd2b417bee723838a7259759d702406bf582b354e", func := "loop.example/flatfolding/laws.FnExactPathOnce", spec := "fnExactPathOnce", unfollowed := true, recurses := true, plainKeys := false, apart := false }
def FnExactPathOnceSaid : Prop := fnExactPathOnceRow.holds Try.pinned (OpenSpec.ofChange fnExactPathOnceSpec)

/-- ITS FALSE NEIGHBOUR: 'it returns false'. Refute it at one input. -/
def fnExactPathOnceWrong : ChangeSpec := { name := "fnExactPathOnce", fn := fun _ => fun
  | [d] => { results := [.lit (.bool false)], args := [d] }
  | _ => none }
def FnExactPathOnceWrongFalsely : Prop := fnExactPathOnceRow.holds Try.pinned (OpenSpec.ofChange fnExactPathOnceWrong)

/-- 'laws.FnPath': WHATEVER THE INPUT: true; the input reads as it did. -/
def fnPathSpec : ChangeSpec := { name := "fnPath", fn := fun _ => fun
  | [d1, d2] => { results := [.lit (.bool true)], args := [d1, d2] }
  | _ => none }
def fnPathRow : OpenClaim := { program := "ytmlmihneanobdaa", sum := "f190c76698de24f942e94eabd2b417bee723838a7259759d702406bf582b354e", func := "loop.example/flatfolding/laws.FnPath", spec := "fnPath", unfollowed := true, recurses := true, plainKeys := false, apart := false }
def FnPathSaid : Prop := fnPathRow.holds Try.pinned (OpenSpec.ofChange fnPathSpec)

/-- ITS FALSE NEIGHBOUR: 'it returns false'. Refute it at one input. -/
def fnPathWrong : ChangeSpec := { name := "fnPath", fn := fun _ => fun
  | [d1, d2] => { results := [.lit (.bool false)], args := [d1, d2] }
  | _ => none }
def FnPathWrongFalsely : Prop := fnPathRow.holds Try.pinned (OpenSpec.ofChange fnPathWrong)

/-- 'laws.FnPathOnce': WHATEVER THE INPUT: true; the input reads as it did. -/
def fnPathOnceSpec : ChangeSpec := { name := "fnPathOnce", fn := fun _ => fun
  | [d1, d2] => { results := [.lit (.bool true)], args := [d1, d2] }
  | _ => none }
def fnPathOnceRow : OpenClaim := { program := "ytmlmihneanobdaa", sum := "f190c76698de24f942e94eabd2b417bee723838a7259759d702406bf582b354e", func := "loop.example/flatfolding/laws.FnPathOnce", spec := "fnPathOnce", unfollowed := true, recurses := true, plainKeys := false, apart := false }
def FnPathOnceSaid : Prop := fnPathOnceRow.holds Try.pinned (OpenSpec.ofChange fnPathOnceSpec)

/-- ITS FALSE NEIGHBOUR: 'it returns false'. Refute it at one input. -/
def fnPathOnceWrong : ChangeSpec := { name := "fnPathOnce", fn := fun _ => fun
  | [d1, d2] => { results := [.lit (.bool false)], args := [d1, d2] }
  | _ => none }
def FnPathOnceWrongFalsely : Prop := fnPathOnceRow.holds Try.pinned (OpenSpec.ofChange fnPathOnceWrong)

/- THE SECOND FORM. 'bulk': how many values and letters a reading holds, each counted each time it is reached (what is shared counts as often as it is met; a slice's spare places count too). A statement '..UptoSaid' is the law's where the arguments, and the package variables that the reading takes, are together of bulk at most 1048576: NARROWER than '..Said'. Prove '..Said' where nothing that the law and all that it calls make is longer than what came in: it says more and counts as full. Else prove '..UptoSaid'. A law counts once. -/
mutual
def uptoBulk {H : Type} : DataW H → Nat
  | .lit (.string bytes) => bytes.length + 1
  | .lit _ => 1
  | .nil => 1
  | .ptr d => uptoBulk d + 1
  | .slice elems spare => uptoBulkAll elems + uptoBulkAll spare + 1
  | .agg parts => uptoBulkAll parts + 1
  | .iface _ d => uptoBulk d + 1
  | .map entries => uptoBulkEntries entries + 1
  | .held _ => 1
def uptoBulkAll {H : Type} : List (DataW H) → Nat
  | [] => 0
  | d :: r => uptoBulk d + uptoBulkAll r
def uptoBulkEntries {H : Type} : List (Lit × DataW H) → Nat
  | [] => 0
  | x :: r => uptoBulkEntry x + uptoBulkEntries r
def uptoBulkEntry {H : Type} : Lit × DataW H → Nat
  | (.string bytes, d) => bytes.length + uptoBulk d + 1
  | (_, d) => uptoBulk d + 1
 end
def uptoSmall : (H : Type) → List (DataW H) → Bool := fun _ ds => decide (uptoBulkAll ds ≤ 1048576)
def OpenSpec.upto (s : _root_.Go.ChangeSpec) : _root_.Go.OpenSpec := { _root_.Go.OpenSpec.ofChange s with cond := some uptoSmall }

/-- 'laws.FnExactPathPlaces', WHERE WHAT IT READS IS OF BULK AT MOST 1048576: true; the input reads as it did. -/
def fnExactPathPlacesUptoRow : OpenClaim := { program := "ytmlmihneanobdaa", sum := "f190c76698de24f942e94eabd2b417bee723838a7259759d702406bf582b354e", func := "loop.example/flatfolding/laws.FnExactPathPlaces", spec := "fnExactPathPlaces", unfollowed := true, recurses := true, plainKeys := false, apart := false, narrowed := true }
def FnExactPathPlacesUptoSaid : Prop := fnExactPathPlacesUptoRow.holds Try.pinned (OpenSpec.upto fnExactPathPlacesSpec)

/-- 'laws.FnExactPathEnd', WHERE WHAT IT READS IS OF BULK AT MOST 1048576: true; the input reads as it did. -/
def fnExactPathEndUptoRow : OpenClaim := { program := "ytmlmihneanobdaa", sum := "f190c76698de24f942e94eabd2b417bee723838a7259759d702406bf582b354e", func := "loop.example/flatfolding/laws.FnExactPathEnd", spec := "fnExactPathEnd", unfollowed := true, recurses := true, plainKeys := false, apart := false, narrowed := true }
def FnExactPathEndUptoSaid : Prop := fnExactPathEndUptoRow.holds Try.pinned (OpenSpec.upto fnExactPathEndSpec)

/-- 'laws.FnExactPathVisits', WHERE WHAT IT READS IS OF BULK AT MOST 1048576: true; the input reads as it did. -/
def fnExactPathVisitsUptoRow : OpenClaim := { program := "ytmlmihneanobdaa", sum := "f190c76698de24f942e94eabd2b417bee723838a7259759d702406bf582b354e", func := "loop.example/flatfolding/laws.FnExactPathVisits", spec := "fnExactPathVisits", unfollowed := true, recurses := true, plainKeys := false, apart := false, narrowed := true }
def FnExactPathVisitsUptoSaid : Prop := fnExactPathVisitsUptoRow.holds Try.pinned (OpenSpec.upto fnExactPathVisitsSpec)

/-- 'laws.FnExactPathOnce', WHERE WHAT IT READS IS OF BULK AT MOST 1048576: true; the input reads as it did. -/
def fnExactPathOnceUptoRow : OpenClaim := { program := "ytmlmihneanobdaa", sum := "f190c76698de24f942e94eabd2b417bee723838a7259759d702406bf582b354e", func := "loop.example/flatfolding/laws.FnExactPathOnce", spec := "fnExactPathOnce", unfollowed := true, recurses := true, plainKeys := false, apart := false, narrowed := true }
def FnExactPathOnceUptoSaid : Prop := fnExactPathOnceUptoRow.holds Try.pinned (OpenSpec.upto fnExactPathOnceSpec)

/-- 'laws.FnPath', WHERE WHAT IT READS IS OF BULK AT MOST 1048576: true; the input reads as it did. -/
def fnPathUptoRow : OpenClaim := { program := "ytmlmihneanobdaa", sum := "f190c76698de24f942e94eabd2b417bee723838a7259759d702406bf582b354e", func := "loop.example/flatfolding/laws.FnPath", spec := "fnPath", unfollowed := true, recurses := true, plainKeys := false, apart := false, narrowed := true }
def FnPathUptoSaid : Prop := fnPathUptoRow.holds Try.pinned (OpenSpec.upto fnPathSpec)

/-- 'laws.FnPathOnce', WHERE WHAT IT READS IS OF BULK AT MOST 1048576: true; the input reads as it did. -/
def fnPathOnceUptoRow : OpenClaim := { program := "ytmlmihneanobdaa", sum := "f190c76698de24f942e94eabd2b417bee723838a7259759d702406bf582b354e", func := "loop.example/flatfolding/laws.FnPathOnce", spec := "fnPathOnce", unfollowed := true, recurses := true, plainKeys := false, apart := false, narrowed := true }
def FnPathOnceUptoSaid : Prop := fnPathOnceUptoRow.holds Try.pinned (OpenSpec.upto fnPathOnceSpec)

end Rows
end Go.Proofs.Ytmlmihneanobdaa
