/-
  No cell of these rows narrows 'for every input' (looked for: loops, veiled, ifaces, maps, wideKeys, modest, calm, conditions, laid).
  DERIVED. THE GIVEN ROWS OF THIS SEAT. 3 by the template 'for every input the law returns true; each argument reads behind the call as it read before'; 0 by the template 'total and deterministic' (their statements: YtafeepmikfffcaaTotals.lean).
  GIVEN WITH THE SEED: the statements are not yours to turn. If you find one false, say at which input.
  Laid BY PROGRAM, IN A SANDBOX (cutbox-rows.mjs): the forced cells as the released guide's own fill.sh prints them over the translation e54638f93010eaad… (all of the seat's roots in one cut). By AI agents, Wed Nov 11 2026. No macro, syntax, notation, axiom, sorry.
-/
import Derived.Test.YtafeepmikfffcaaChecked
import GoSem.Claim
import GoSem.ClaimJoined
import GoSem.ClaimMapViews
import Derived.JoinedTies
import Derived.KernelRfl
namespace Go.Proofs.Ytafeepmikfffcaa
/- THE CELL 'sum', in the pinned program and in every row, IS THE sha256 OF THE DUMP (.gsa) THAT YtafeepmikfffcaaProg.lean LOADS. Nothing in Lean hashes anything: it is a label: what it is worth is what the hold of that sum in a sandbox is worth. -/
noncomputable def Try.pinned : Pinned := { name := "ytafeepmikfffcaa", sum := "e54638f93010eaadae987b11efc09f3c0c27f7c7a28af86cdac0a91ffe1557e7", checked := Try.checked }
namespace Rows
def none {H : Type} : Left H := { results := [], args := [] }

/-- 'laws.FnStampOver': WHATEVER THE INPUT: true; the input reads as it did. -/
def fnStampOverSpec : ChangeSpec := { name := "fnStampOver", fn := fun _ => fun
  | [d] => { results := [.lit (.bool true)], args := [d] }
  | _ => none }
def fnStampOverRow : OpenClaim := { program := "ytafeepmikfffcaa", sum := "e54638f93010eaadae987b11efc09f3c0c27f7c7a28af86cdac0a91ffe1557e7", func := "loop.example/flatfolding/laws.FnStampOver", spec := "fnStampOver", recurses := true, apart := false }
def FnStampOverSaid : Prop := fnStampOverRow.holds Try.pinned (OpenSpec.ofChange fnStampOverSpec)

/-- ITS FALSE NEIGHBOUR: 'it returns false'. Refute it at one input. -/
def fnStampOverWrong : ChangeSpec := { name := "fnStampOver", fn := fun _ => fun
  | [d] => { results := [.lit (.bool false)], args := [d] }
  | _ => none }
def FnStampOverWrongFalsely : Prop := fnStampOverRow.holds Try.pinned (OpenSpec.ofChange fnStampOverWrong)

/-- 'laws.FnStampStrip': WHATEVER THE INPUT: true; the input reads as it did. -/
def fnStampStripSpec : ChangeSpec := { name := "fnStampStrip", fn := fun _ => fun
  | [d1, d2] => { results := [.lit (.bool true)], args := [d1, d2] }
  | _ => none }
def fnStampStripRow : OpenClaim := { program := "ytafeepmikfffcaa", sum := "e54638f93010eaadae987b11efc09f3c0c27f7c7a28af86cdac0a91ffe1557e7", func := "loop.example/flatfolding/laws.FnStampStrip", spec := "fnStampStrip", recurses := true, apart := false }
def FnStampStripSaid : Prop := fnStampStripRow.holds Try.pinned (OpenSpec.ofChange fnStampStripSpec)

/-- ITS FALSE NEIGHBOUR: 'it returns false'. Refute it at one input. -/
def fnStampStripWrong : ChangeSpec := { name := "fnStampStrip", fn := fun _ => fun
  | [d1, d2] => { results := [.lit (.bool false)], args := [d1, d2] }
  | _ => none }
def FnStampStripWrongFalsely : Prop := fnStampStripRow.holds Try.pinned (OpenSpec.ofChange fnStampStripWrong)

/-- 'laws.FnStampManyStrip': WHATEVER THE INPUT: true; the input reads as it did. -/
def fnStampManyStripSpec : ChangeSpec := { name := "fnStampManyStrip", fn := fun _ => fun
  | [d] => { results := [.lit (.bool true)], args := [d] }
  | _ => none }
def fnStampManyStripRow : OpenClaim := { program := "ytafeepmikfffcaa", sum := "e54638f93010eaadae987b11efc09f3c0c27f7c7a28af86cdac0a91ffe1557e7", func := "loop.example/flatfolding/laws.FnStampManyStrip", spec := "fnStampManyStrip", unfollowed := true, recurses := true, apart := false }
def FnStampManyStripSaid : Prop := fnStampManyStripRow.holds Try.pinned (OpenSpec.ofChange fnStampManyStripSpec)

/-- ITS FALSE NEIGHBOUR: 'it returns false'. Refute it at one input. -/
def fnStampManyStripWrong : ChangeSpec := { name := "fnStampManyStrip", fn := fun _ => fun
  | [d] => { results := [.lit (.bool false)], args := [d] }
  | _ => none }
def FnStampManyStripWrongFalsely : Prop := fnStampManyStripRow.holds Try.pinned (OpenSpec.ofChange fnStampManyStripWrong)

/- THE SECOND FORM. 'bulk': how many values and letters a reading holds, each counted each time it is reached (what is shared counts as often as it is met; a slice's spare places count too). A statement '..UptoSaid' is the law's where the arguments, and the package variables that the reading takes, are together of bulk at most 1048576: NARROWER than '..Said'. Prove '..Said' where nothing that the law and all that it calls make is longer than what came in: it says more and counts as full. Else prove '..UptoSaid'. A law counts once. -/
mutual
def uptoBulk {H : Type} : DataW H → Nat
  | .lit (.string bytes) => bytes.length + 1
  | .lit _ => 1
  | .nil => 1
  | .ptr d => uptoBulk d + 1
  | .slice elems spare => uptoBulkAll elems + uptoBulkAll spare + 1
  | .agg parts => uptoBulkAll parts + 1
  | .iface _ d => uptoBulk d + 1
  | .map entries => uptoBulkEntries entries + 1
  | .held _ => 1
def uptoBulkAll {H : Type} : List (DataW H) → Nat
  | [] => 0
  | d :: r => uptoBulk d + uptoBulkAll r
def uptoBulkEntries {H : Type} : List (Lit × DataW H) → Nat
  | [] => 0
  | x :: r => uptoBulkEntry x + uptoBulkEntries r
def uptoBulkEntry {H : Type} : Lit × DataW H → Nat
  | (.string bytes, d) => bytes.length + uptoBulk d + 1
  | (_, d) => uptoBulk d + 1
 end
def uptoSmall : (H : Type) → List (DataW H) → Bool := fun _ ds => decide (uptoBulkAll ds ≤ 1048576)
def OpenSpec.upto (s : _root_.Go.ChangeSpec) : _root_.Go.OpenSpec := { _root_.Go.OpenSpec.ofChange s with cond := some uptoSmall }

/-- 'laws.FnStampOver', WHERE WHAT IT READS IS OF BULK AT MOST 1048576: true; the input reads as it did. -/
def fnStampOverUptoRow : OpenClaim := { program := "ytafeepmikfffcaa", sum := "e54638f93010eaadae987b11efc09f3c0c27f7c7a28af86cdac0a91ffe1557e7", func := "loop.example/flatfolding/laws.FnStampOver", spec := "fnStampOver", recurses := true, apart := false, narrowed := true }
def FnStampOverUptoSaid : Prop := fnStampOverUptoRow.holds Try.pinned (OpenSpec.upto fnStampOverSpec)

/-- 'laws.FnStampStrip', WHERE WHAT IT READS IS OF BULK AT MOST 1048576: true; the input reads as it did. -/
def fnStampStripUptoRow : OpenClaim := { program := "ytafeepmikfffcaa", sum := "e54638f93010eaadae987b11efc09f3c0c27f7c7a28af86cdac0a91ffe1557e7", func := "loop.example/flatfolding/laws.FnStampStrip", spec := "fnStampStrip", recurses := true, apart := false, narrowed := true }
def FnStampStripUptoSaid : Prop := fnStampStripUptoRow.holds Try.pinned (OpenSpec.upto fnStampStripSpec)

/-- 'laws.FnStampManyStrip', WHERE WHAT IT READS IS OF BULK AT MOST 1048576: true; the input reads as it did. -/
def fnStampManyStripUptoRow : OpenClaim := { program := "ytafeepmikfffcaa", sum := "e54638f93010eaadae987b11efc09f3c0c27f7c7a28af86cdac0a91ffe1557e7", func := "loop.example/flatfolding/laws.FnStampManyStrip", spec := "fnStampManyStrip", unfollowed := true, recurses := true, apart := false, narrowed := true }
def FnStampManyStripUptoSaid : Prop := fnStampManyStripUptoRow.holds Try.pinned (OpenSpec.upto fnStampManyStripSpec)

end Rows
end Go.Proofs.Ytafeepmikfffcaa
