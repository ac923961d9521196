/-
  No cell of these rows narrows 'for every input' (looked for: loops, veiled, ifaces, maps, wideKeys, modest, calm, conditions, laid).
  DERIVED. THE GIVEN ROWS OF THIS SEAT. 4 by the template 'for every input the law returns true; each argument reads behind the call as it read before'; 0 by the template 'total and deterministic' (their statements: YtdgkjlehofkooaaTotals.lean).
  GIVEN WITH THE SEED: the statements are not yours to turn. If you find one false, say at which input.
  Laid BY PROGRAM, IN A SANDBOX (cutbox-rows.mjs): the forced cells as the released guide's own fill.sh prints them over the translation bff8600ce95e9319… (all of the seat's roots in one cut). By AI agents, Wed Nov 11 2026. No macro, syntax, notation, axiom, sorry.
-/
import Derived.Test.YtdgkjlehofkooaaChecked
import GoSem.Claim
import GoSem.ClaimJoined
import GoSem.ClaimMapViews
import Derived.JoinedTies
import Derived.KernelRfl
namespace Go.Proofs.Ytdgkjlehofkooaa
/- THE CELL 'sum', in the pinned program and in every row, IS THE sha256 OF THE DUMP (.gsa) THAT YtdgkjlehofkooaaProg.lean LOADS. Nothing in Lean hashes anything: it is a label: what it is worth is what the hold of that sum in a sandbox is worth. -/
noncomputable def Try.pinned : Pinned := { name := "ytdgkjlehofkooaa", sum := "bff8600ce95e9319180b417b2754d777762d176c711f92122cc1fefe474b172f", checked := Try.checked }
namespace Rows
def none {H : Type} : Left H := { results := [], args := [] }

/-- 'laws.FnCreaseRow': WHATEVER THE INPUT: true; the input reads as it did. -/
def fnCreaseRowSpec : ChangeSpec := { name := "fnCreaseRow", fn := fun _ => fun
  | [d1, d2] => { results := [.lit (.bool true)], args := [d1, d2] }
  | _ => none }
def fnCreaseRowRow : OpenClaim := { program := "ytdgkjlehofkooaa", sum := "bff8600ce95e9319180b417b2754d777762d176c711f92122cc1fefe474b172f", func := "loop.example/flatfolding/laws.FnCreaseRow", spec := "fnCreaseRow", unfollowed := true, recurses := true, apart := false }
def FnCreaseRowSaid : Prop := fnCreaseRowRow.holds Try.pinned (OpenSpec.ofChange fnCreaseRowSpec)

/-- ITS FALSE NEIGHBOUR: 'it returns false'. Refute it at one input. -/
def fnCreaseRowWrong : ChangeSpec := { name := "fnCreaseRow", fn := fun _ => fun
  | [d1, d2] => { results := [.lit (.bool false)], args := [d1, d2] }
  | _ => none }
def FnCreaseRowWrongFalsely : Prop := fnCreaseRowRow.holds Try.pinned (OpenSpec.ofChange fnCreaseRowWrong)

/-- 'laws.FnCreaseLevels': WHATEVER THE INPUT: true; the input reads as it did. -/
def fnCreaseLevelsSpec : ChangeSpec := { name := "fnCreaseLevels", fn := fun _ => fun
  | [d] => { results := [.lit (.bool true)], args := [d] }
  | _ => none }
def fnCreaseLevelsRow : OpenClaim := { program := "ytdgkjlehofkooaa", sum := "bff8600ce95e9319180b417b2754d777762d176c711f92122cc1fefe474b172f", func := "loop.example/flatfolding/laws.FnCreaseLevels", spec := "fnCreaseLevels", unfollowed := true, recurses := true, apart := false }
def FnCreaseLevelsSaid : Prop := fnCreaseLevelsRow.holds Try.pinned (OpenSpec.ofChange fnCreaseLevelsSpec)

/-- ITS FALSE NEIGHBOUR: 'it returns false'. Refute it at one input. -/
def fnCreaseLevelsWrong : ChangeSpec := { name := "fnCreaseLevels", fn := fun _ => fun
  | [d] => { results := [.lit (.bool false)], args := [d] }
  | _ => none }
def FnCreaseLevelsWrongFalsely : Prop := fnCreaseLevelsRow.holds Try.pinned (OpenSpec.ofChange fnCreaseLevelsWrong)

/-- 'laws.FnWordOf': WHATEVER THE INPUT: true; the input reads as it did. -/
def fnWordOfSpec : ChangeSpec := { name := "fnWordOf", fn := fun _ => fun
  | [d] => { results := [.lit (.bool true)], args := [d] }
  | _ => none }
def fnWordOfRow : OpenClaim := { program := "ytdgkjlehofkooaa", sum := "bff8600ce95e9319180b417b2754d777762d176c711f92122cc1fefe474b172f", func := "loop.example/flatfolding/laws.FnWordOf", spec := "fnWordOf", unfollowed := true, recurses := true, apart := false }
def FnWordOfSaid : Prop := fnWordOfRow.holds Try.pinned (OpenSpec.ofChange fnWordOfSpec)

/-- ITS FALSE NEIGHBOUR: 'it returns false'. Refute it at one input. -/
def fnWordOfWrong : ChangeSpec := { name := "fnWordOf", fn := fun _ => fun
  | [d] => { results := [.lit (.bool false)], args := [d] }
  | _ => none }
def FnWordOfWrongFalsely : Prop := fnWordOfRow.holds Try.pinned (OpenSpec.ofChange fnWordOfWrong)

/-- 'laws.FnStripSheet': WHATEVER THE INPUT: true; the input reads as it did. -/
def fnStripSheetSpec : ChangeSpec := { name := "fnStripSheet", fn := fun _ => fun
  | [d] => { results := [.lit (.bool true)], args := [d] }
  | _ => none }
def fnStripSheetRow : OpenClaim := { program := "ytdgkjlehofkooaa", sum := "bff8600ce95e9319180b417b2754d777762d176c711f92122cc1fefe474b172f", func := "loop.example/flatfolding/laws.FnStripSheet", spec := "fnStripSheet", unfollowed := true, recurses := true, apart := false }
def FnStripSheetSaid : Prop := fnStripSheetRow.holds Try.pinned (OpenSpec.ofChange fnStripSheetSpec)

/-- ITS FALSE NEIGHBOUR: 'it returns false'. Refute it at one input. -/
def fnStripSheetWrong : ChangeSpec := { name := "fnStripSheet", fn := fun _ => fun
  | [d] => { results := [.lit (.bool false)], args := [d] }
  | _ => none }
def FnStripSheetWrongFalsely : Prop := fnStripSheetRow.holds Try.pinned (OpenSpec.ofChange fnStripSheetWrong)

/- THE SECOND FORM. 'bulk': how many values and letters a reading holds, each counted each time it is reached (what is shared counts as often as it is met; a slice's spare places count too). A statement '..UptoSaid' is the law's where the arguments, and the package variables that the reading takes, are together of bulk at most 1048576: NARROWER than '..Said'. Prove '..Said' where nothing that the law and all that it calls make is longer than what came in: it says more and counts as full. Else prove '..UptoSaid'. A law counts once. -/
mutual
def uptoBulk {H : Type} : DataW H → Nat
  | .lit (.string bytes) => bytes.length + 1
  | .lit _ => 1
  | .nil => 1
  | .ptr d => uptoBulk d + 1
  | .slice elems spare => uptoBulkAll elems + uptoBulkAll spare + 1
  | .agg parts => uptoBulkAll parts + 1
  | .iface _ d => uptoBulk d + 1
  | .map entries => uptoBulkEntries entries + 1
  | .held _ => 1
def uptoBulkAll {H : Type} : List (DataW H) → Nat
  | [] => 0
  | d :: r => uptoBulk d + uptoBulkAll r
def uptoBulkEntries {H : Type} : List (Lit × DataW H) → Nat
  | [] => 0
  | x :: r => uptoBulkEntry x + uptoBulkEntries r
def uptoBulkEntry {H : Type} : Lit × DataW H → Nat
  | (.string bytes, d) => bytes.length + uptoBulk d + 1
  | (_, d) => uptoBulk d + 1
 end
def uptoSmall : (H : Type) → List (DataW H) → Bool := fun _ ds => decide (uptoBulkAll ds ≤ 1048576)
def OpenSpec.upto (s : _root_.Go.ChangeSpec) : _root_.Go.OpenSpec := { _root_.Go.OpenSpec.ofChange s with cond := some uptoSmall }

/-- 'laws.FnCreaseRow', WHERE WHAT IT READS IS OF BULK AT MOST 1048576: true; the input reads as it did. -/
def fnCreaseRowUptoRow : OpenClaim := { program := "ytdgkjlehofkooaa", sum := "bff8600ce95e9319180b417b2754d777762d176c711f92122cc1fefe474b172f", func := "loop.example/flatfolding/laws.FnCreaseRow", spec := "fnCreaseRow", unfollowed := true, recurses := true, apart := false, narrowed := true }
def FnCreaseRowUptoSaid : Prop := fnCreaseRowUptoRow.holds Try.pinned (OpenSpec.upto fnCreaseRowSpec)

/-- 'laws.FnCreaseLevels', WHERE WHAT IT READS IS OF BULK AT MOST 1048576: true; the input reads as it did. -/
def fnCreaseLevelsUptoRow : OpenClaim := { program := "ytdgkjlehofkooaa", sum := "bff8600ce95e9319180b417b2754d777762d176c711f92122cc1fefe474b172f", func := "loop.example/flatfolding/laws.FnCreaseLevels", spec := "fnCreaseLevels", unfollowed := true, recurses := true, apart := false, narrowed := true }
def FnCreaseLevelsUptoSaid : Prop := fnCreaseLevelsUptoRow.holds Try.pinned (OpenSpec.upto fnCreaseLevelsSpec)

/-- 'laws.FnWordOf', WHERE WHAT IT READS IS OF BULK AT MOST 1048576: true; the input reads as it did. -/
def fnWordOfUptoRow : OpenClaim := { program := "ytdgkjlehofkooaa", sum := "bff8600ce95e9319180b417b2754d777762d176c711f92122cc1fefe474b172f", func := "loop.example/flatfolding/laws.FnWordOf", spec := "fnWordOf", unfollowed := true, recurses := true, apart := false, narrowed := true }
def FnWordOfUptoSaid : Prop := fnWordOfUptoRow.holds Try.pinned (OpenSpec.upto fnWordOfSpec)

/-- 'laws.FnStripSheet', WHERE WHAT IT READS IS OF BULK AT MOST 1048576: true; the input reads as it did. -/
def fnStripSheetUptoRow : OpenClaim := { program := "ytdgkjlehofkooaa", sum := "bff8600ce95e9319180b417b2754d777762d176c711f92122cc1fefe474b172f", func := "loop.example/flatfolding/laws.FnStripSheet", spec := "fnStripSheet", unfollowed := true, recurses := true, apart := false, narrowed := true }
def FnStripSheetUptoSaid : Prop := fnStripSheetUptoRow.holds Try.pinned (OpenSpec.upto fnStripSheetSpec)

end Rows
end Go.Proofs.Ytdgkjlehofkooaa
