/-
  No cell of these rows narrows 'for every input' (looked for: loops, veiled, ifaces, maps, wideKeys, modest, calm, conditions, laid).
  DERIVED. THE GIVEN ROWS OF THIS SEAT. 6 by the template 'for every input the law returns true; each argument reads behind the call as it read before'; 0 by the template 'total and deterministic' (their statements: YthhkflknbjkneaaTotals.lean).
  GIVEN WITH THE SEED: the statements are not yours to turn. If you find one false, say at which input.
  Laid BY PROGRAM, IN A SANDBOX (cutbox-rows.mjs): the forced cells as the released guide's own fill.sh prints them over the translation db37c28dde6d3b2f… (all of the seat's roots in one cut). By AI agents, Wed Nov 11 2026. No macro, syntax, notation, axiom, sorry.
-/
import Derived.Test.YthhkflknbjkneaaChecked
import GoSem.Claim
import GoSem.ClaimJoined
import GoSem.ClaimMapViews
import Derived.JoinedTies
import Derived.KernelRfl
namespace Go.Proofs.Ythhkflknbjkneaa
/- THE CELL 'sum', in the pinned program and in every row, IS THE sha256 OF THE DUMP (.gsa) THAT YthhkflknbjkneaaProg.lean LOADS. Nothing in Lean hashes anything: it is a label: what it is worth is what the hold of that sum in a sandbox is worth. -/
noncomputable def Try.pinned : Pinned := { name := "ythhkflknbjkneaa", sum := "db37c28dde6d3b2ff15dceb7ce0e19b753a8d7014fbd41b1b1040e7148634ef1", checked := Try.checked }
namespace Rows
def none {H : Type} : Left H := { results := [], args := [] }

/-- 'laws.FnExactPageFront': WHATEVER THE INPUT: true; the input reads as it did. -/
def fnExactPageFrontSpec : ChangeSpec := { name := "fnExactPageFront", fn := fun _ => fun
  | [d1, d2, d3] => { results := [.lit (.bool true)], args := [d1, d2, d3] }
  | _ => none }
def fnExactPageFrontRow : OpenClaim := { program := "ythhkflknbjkneaa", sum := "db37c28dde6d3b2ff15dceb7ce0e19b753a8d7014fbd41b1b1040e7148634ef1", func := "loop.example/flatfolding/laws.FnExactPageFront", spec := "fnExactPageFront", unfollowed := true, recurses := true, apart := false }
def FnExactPageFrontSaid : Prop := fnExactPageFrontRow.holds Try.pinned (OpenSpec.ofChange fnExactPageFrontSpec)

/-- ITS FALSE NEIGHBOUR: 'it returns false'. Refute it at one input. -/
def fnExactPageFrontWrong : ChangeSpec := { name := "fnExactPageFront", fn := fun _ => fun
  | [d1, d2, d3] => { results := [.lit (.bool false)], args := [d1, d2, d3] }
  | _ => none }
def FnExactPageFrontWrongFalsely : Prop := fnExactPageFrontRow.holds Try.pinned (OpenSpec.ofChange fnExactPageFrontWrong)

/-- 'laws.FnExactPageBack': WHATEVER THE INPUT: true; the input reads as it did. -/
def fnExactPageBackSpec : ChangeSpec := { name := "fnExactPageBack", fn := fun _ => fun
  | [d1, d2, d3] => { results := [.lit (.bool true)], args := [d1, d2, d3] }
  | _ => none }
def fnExactPageBackRow : OpenClaim := { program := "ythhkflknbjkneaa", sum := "db37c28dde6d3b2ff15dceb7ce0e19b753a8d7014fbd41b1b1040e7148634ef1", func := "loop.example/flatfolding/laws.FnExactPageBack", spec := "fnExactPageBack", unfollowed := true, recurses := true, apart := false }
def FnExactPageBackSaid : Prop := fnExactPageBackRow.holds Try.pinned (OpenSpec.ofChange fnExactPageBackSpec)

/-- ITS FALSE NEIGHBOUR: 'it returns false'. Refute it at one input. -/
def fnExactPageBackWrong : ChangeSpec := { name := "fnExactPageBack", fn := fun _ => fun
  | [d1, d2, d3] => { results := [.lit (.bool false)], args := [d1, d2, d3] }
  | _ => none }
def FnExactPageBackWrongFalsely : Prop := fnExactPageBackRow.holds Try.pinned (OpenSpec.ofChange fnExactPageBackWrong)

/-- 'laws.FnPageCell': WHATEVER THE INPUT: true; the input reads as it did. -/
def fnPageCellSpec : ChangeSpec := { name := "fnPageCell", fn := fun _ => fun
  | [d] => { results := [.lit (.bool true)], args := [d] }
  | _ => none }
def fnPageCellRow : OpenClaim := { program := "ythhkflknbjkneaa", sum := "db37c28dde6d3b2ff15dceb7ce0e19b753a8d7014fbd41b1b1040e7148634ef1", func := "loop.example/flatfolding/laws.FnPageCell", spec := "fnPageCell", unfollowed := true, recurses := true, apart := false }
def FnPageCellSaid : Prop := fnPageCellRow.holds Try.pinned (OpenSpec.ofChange fnPageCellSpec)

/-- ITS FALSE NEIGHBOUR: 'it returns false'. Refute it at one input. -/
def fnPageCellWrong : ChangeSpec := { name := "fnPageCell", fn := fun _ => fun
  | [d] => { results := [.lit (.bool false)], args := [d] }
  | _ => none }
def FnPageCellWrongFalsely : Prop := fnPageCellRow.holds Try.pinned (OpenSpec.ofChange fnPageCellWrong)

/-- 'laws.FnPages': WHATEVER THE INPUT: true; the input reads as it did. -/
def fnPagesSpec : ChangeSpec := { name := "fnPages", fn := fun _ => fun
  | [d] => { results := [.lit (.bool true)], args := [d] }
  | _ => none }
def fnPagesRow : OpenClaim := { program := "ythhkflknbjkneaa", sum := "db37c28dde6d3b2ff15dceb7ce0e19b753a8d7014fbd41b1b1040e7148634ef1", func := "loop.example/flatfolding/laws.FnPages", spec := "fnPages", unfollowed := true, recurses := true, apart := false }
def FnPagesSaid : Prop := fnPagesRow.holds Try.pinned (OpenSpec.ofChange fnPagesSpec)

/-- ITS FALSE NEIGHBOUR: 'it returns false'. Refute it at one input. -/
def fnPagesWrong : ChangeSpec := { name := "fnPages", fn := fun _ => fun
  | [d] => { results := [.lit (.bool false)], args := [d] }
  | _ => none }
def FnPagesWrongFalsely : Prop := fnPagesRow.holds Try.pinned (OpenSpec.ofChange fnPagesWrong)

/-- 'laws.FnPagesFold': WHATEVER THE INPUT: true; the input reads as it did. -/
def fnPagesFoldSpec : ChangeSpec := { name := "fnPagesFold", fn := fun _ => fun
  | [d] => { results := [.lit (.bool true)], args := [d] }
  | _ => none }
def fnPagesFoldRow : OpenClaim := { program := "ythhkflknbjkneaa", sum := "db37c28dde6d3b2ff15dceb7ce0e19b753a8d7014fbd41b1b1040e7148634ef1", func := "loop.example/flatfolding/laws.FnPagesFold", spec := "fnPagesFold", unfollowed := true, recurses := true, apart := false }
def FnPagesFoldSaid : Prop := fnPagesFoldRow.holds Try.pinned (OpenSpec.ofChange fnPagesFoldSpec)

/-- ITS FALSE NEIGHBOUR: 'it returns false'. Refute it at one input. -/
def fnPagesFoldWrong : ChangeSpec := { name := "fnPagesFold", fn := fun _ => fun
  | [d] => { results := [.lit (.bool false)], args := [d] }
  | _ => none }
def FnPagesFoldWrongFalsely : Prop := fnPagesFoldRow.holds Try.pinned (OpenSpec.ofChange fnPagesFoldWrong)

/-- 'laws.FnBooklet': WHATEVER THE INPUT: true; the input reads as it did. -/
def fnBookletSpec : ChangeSpec := { name := "fnBooklet", fn := fun _ => fun
  | [d] => { results := [.lit (.bool true)], args := [d] }
  | _ => none }
def fnBookletRow : OpenClaim := { program := "ythhkflknbjkneaa", sum := "db37c28dde6d3b2ff15dceb7ce0e19b753a8d7014fbd41b1b1040e7148634ef1", func := "loop.example/flatfolding/laws.FnBooklet", spec := "fnBooklet", unfollowed := true, recurses := true, apart := false }
def FnBookletSaid : Prop := fnBookletRow.holds Try.pinned (OpenSpec.ofChange fnBookletSpec)

/-- ITS FALSE NEIGHBOUR: 'it returns false'. Refute it at one input. -/
def fnBookletWrong : ChangeSpec := { name := "fnBooklet", fn := fun _ => fun
  | [d] => { results := [.lit (.bool false)], args := [d] }
  | _ => none }
def FnBookletWrongFalsely : Prop := fnBookletRow.holds Try.pinned (OpenSpec.ofChange fnBookletWrong)

/- THE SECOND FORM. 'bulk': how many values and letters a reading holds, each counted each time it is reached (what is shared counts as often as it is met; a slice's spare places count too). A statement '..UptoSaid' is the law's where the arguments, and the package variables that the reading takes, are together of bulk at most 1048576: NARROWER than '..Said'. Prove '..Said' where nothing that the law and all that it calls make is longer than what came in: it says more and counts as full. Else prove '..UptoSaid'. A law counts once. -/
mutual
def uptoBulk {H : Type} : DataW H → Nat
  | .lit (.string bytes) => bytes.length + 1
  | .lit _ => 1
  | .nil => 1
  | .ptr d => uptoBulk d + 1
  | .slice elems spare => uptoBulkAll elems + uptoBulkAll spare + 1
  | .agg parts => uptoBulkAll parts + 1
  | .iface _ d => uptoBulk d + 1
  | .map entries => uptoBulkEntries entries + 1
  | .held _ => 1
def uptoBulkAll {H : Type} : List (DataW H) → Nat
  | [] => 0
  | d :: r => uptoBulk d + uptoBulkAll r
def uptoBulkEntries {H : Type} : List (Lit × DataW H) → Nat
  | [] => 0
  | x :: r => uptoBulkEntry x + uptoBulkEntries r
def uptoBulkEntry {H : Type} : Lit × DataW H → Nat
  | (.string bytes, d) => bytes.length + uptoBulk d + 1
  | (_, d) => uptoBulk d + 1
 end
def uptoSmall : (H : Type) → List (DataW H) → Bool := fun _ ds => decide (uptoBulkAll ds ≤ 1048576)
def OpenSpec.upto (s : _root_.Go.ChangeSpec) : _root_.Go.OpenSpec := { _root_.Go.OpenSpec.ofChange s with cond := some uptoSmall }

/-- 'laws.FnExactPageFront', WHERE WHAT IT READS IS OF BULK AT MOST 1048576: true; the input reads as it did. -/
def fnExactPageFrontUptoRow : OpenClaim := { program := "ythhkflknbjkneaa", sum := "db37c28dde6d3b2ff15dceb7ce0e19b753a8d7014fbd41b1b1040e7148634ef1", func := "loop.example/flatfolding/laws.FnExactPageFront", spec := "fnExactPageFront", unfollowed := true, recurses := true, apart := false, narrowed := true }
def FnExactPageFrontUptoSaid : Prop := fnExactPageFrontUptoRow.holds Try.pinned (OpenSpec.upto fnExactPageFrontSpec)

/-- 'laws.FnExactPageBack', WHERE WHAT IT READS IS OF BULK AT MOST 1048576: true; the input reads as it did. -/
def fnExactPageBackUptoRow : OpenClaim := { program := "ythhkflknbjkneaa", sum := "db37c28dde6d3b2ff15dceb7ce0e19b753a8d7014fbd41b1b1040e7148634ef1", func := "loop.example/flatfolding/laws.FnExactPageBack", spec := "fnExactPageBack", unfollowed := true, recurses := true, apart := false, narrowed := true }
def FnExactPageBackUptoSaid : Prop := fnExactPageBackUptoRow.holds Try.pinned (OpenSpec.upto fnExactPageBackSpec)

/-- 'laws.FnPageCell', WHERE WHAT IT READS IS OF BULK AT MOST 1048576: true; the input reads as it did. -/
def fnPageCellUptoRow : OpenClaim := { program := "ythhkflknbjkneaa", sum := "db37c28dde6d3b2ff15dceb7ce0e19b753a8d7014fbd41b1b1040e7148634ef1", func := "loop.example/flatfolding/laws.FnPageCell", spec := "fnPageCell", unfollowed := true, recurses := true, apart := false, narrowed := true }
def FnPageCellUptoSaid : Prop := fnPageCellUptoRow.holds Try.pinned (OpenSpec.upto fnPageCellSpec)

/-- 'laws.FnPages', WHERE WHAT IT READS IS OF BULK AT MOST 1048576: true; the input reads as it did. -/
def fnPagesUptoRow : OpenClaim := { program := "ythhkflknbjkneaa", sum := "db37c28dde6d3b2ff15dceb7ce0e19b753a8d7014fbd41b1b1040e7148634ef1", func := "loop.example/flatfolding/laws.FnPages", spec := "fnPages", unfollowed := true, recurses := true, apart := false, narrowed := true }
def FnPagesUptoSaid : Prop := fnPagesUptoRow.holds Try.pinned (OpenSpec.upto fnPagesSpec)

/-- 'laws.FnPagesFold', WHERE WHAT IT READS IS OF BULK AT MOST 1048576: true; the input reads as it did. -/
def fnPagesFoldUptoRow : OpenClaim := { program := "ythhkflknbjkneaa", sum := "db37c28dde6d3b2ff15dceb7ce0e19b753a8d7014fbd41b1b1040e7148634ef1", func := "loop.example/flatfolding/laws.FnPagesFold", spec := "fnPagesFold", unfollowed := true, recurses := true, apart := false, narrowed := true }
def FnPagesFoldUptoSaid : Prop := fnPagesFoldUptoRow.holds Try.pinned (OpenSpec.upto fnPagesFoldSpec)

/-- 'laws.FnBooklet', WHERE WHAT IT READS IS OF BULK AT MOST 1048576: true; the input reads as it did. -/
def fnBookletUptoRow : OpenClaim := { program := "ythhkflknbjkneaa", sum := "db37c28dde6d3b2ff15dceb7ce0e19b753a8d7014fbd41b1b1040e7148634ef1", func := "loop.example/flatfolding/laws.FnBooklet", spec := "fnBooklet", unfollowed := true, recurses := true, apart := false, narrowed := true }
def FnBookletUptoSaid : Prop := fnBookletUptoRow.holds Try.pinned (OpenSpec.upto fnBookletSpec)

end Rows
end Go.Proofs.Ythhkflknbjkneaa
