/-
  No cell of these rows narrows 'for every input' (looked for: loops, veiled, ifaces, maps, wideKeys, modest, calm, conditions, laid).
  DERIVED. THE GIVEN ROWS OF THIS SEAT. 5 by the template 'for every input the law returns true; each argument reads behind the call as it read before'; 0 by the template 'total and deterministic' (their statements: YtcdfojfafnecdaaTotals.lean).
  GIVEN WITH THE SEED: the statements are not yours to turn. If you find one false, say at which input.
  Laid BY PROGRAM, IN A SANDBOX (cutbox-rows.mjs): the forced cells as the released guide's own fill.sh prints them over the translation db4854e0dd9050fc… (all of the seat's roots in one cut). By AI agents, Wed Nov 11 2026. No macro, syntax, notation, axiom, sorry.
-/
import Derived.Test.YtcdfojfafnecdaaChecked
import GoSem.Claim
import GoSem.ClaimJoined
import GoSem.ClaimMapViews
import Derived.JoinedTies
import Derived.KernelRfl
namespace Go.Proofs.Ytcdfojfafnecdaa
/- THE CELL 'sum', in the pinned program and in every row, IS THE sha256 OF THE DUMP (.gsa) THAT YtcdfojfafnecdaaProg.lean LOADS. Nothing in Lean hashes anything: it is a label: what it is worth is what the hold of that sum in a sandbox is worth. -/
noncomputable def Try.pinned : Pinned := { name := "ytcdfojfafnecdaa", sum := "db4854e0dd9050fcc2c68adfa1d883ca95184c0d0035ad3bfa57a26f30a4f49c", checked := Try.checked }
namespace Rows
def none {H : Type} : Left H := { results := [], args := [] }

/-- 'footpathlaw14.FieldBuilds': WHATEVER THE INPUT: true; the input reads as it did. -/
def fieldBuildsSpec : ChangeSpec := { name := "fieldBuilds", fn := fun _ => fun
  | [d1, d2] => { results := [.lit (.bool true)], args := [d1, d2] }
  | _ => none }
def fieldBuildsRow : OpenClaim := { program := "ytcdfojfafnecdaa", sum := "db4854e0dd9050fcc2c68adfa1d883ca95184c0d0035ad3bfa57a26f30a4f49c", func := "footpath/footpathlaw14.FieldBuilds", spec := "fieldBuilds", unfollowed := true, recurses := true, plainKeys := false, apart := false }
def FieldBuildsSaid : Prop := fieldBuildsRow.holds Try.pinned (OpenSpec.ofChange fieldBuildsSpec)

/-- ITS FALSE NEIGHBOUR: 'it returns false'. Refute it at one input. -/
def fieldBuildsWrong : ChangeSpec := { name := "fieldBuilds", fn := fun _ => fun
  | [d1, d2] => { results := [.lit (.bool false)], args := [d1, d2] }
  | _ => none }
def FieldBuildsWrongFalsely : Prop := fieldBuildsRow.holds Try.pinned (OpenSpec.ofChange fieldBuildsWrong)

/-- 'footpathlaw14.FieldSteps': WHATEVER THE INPUT: true; the input reads as it did. -/
def fieldStepsSpec : ChangeSpec := { name := "fieldSteps", fn := fun _ => fun
  | [d1, d2] => { results := [.lit (.bool true)], args := [d1, d2] }
  | _ => none }
def fieldStepsRow : OpenClaim := { program := "ytcdfojfafnecdaa", sum := "db4854e0dd9050fcc2c68adfa1d883ca95184c0d0035ad3bfa57a26f30a4f49c", func := "footpath/footpathlaw14.FieldSteps", spec := "fieldSteps", unfollowed := true, recurses := true, plainKeys := false, apart := false }
def FieldStepsSaid : Prop := fieldStepsRow.holds Try.pinned (OpenSpec.ofChange fieldStepsSpec)

/-- ITS FALSE NEIGHBOUR: 'it returns false'. Refute it at one input. -/
def fieldStepsWrong : ChangeSpec := { name := "fieldSteps", fn := fun _ => fun
  | [d1, d2] => { results := [.lit (.bool false)], args := [d1, d2] }
  | _ => none }
def FieldStepsWrongFalsely : Prop := fieldStepsRow.holds Try.pinned (OpenSpec.ofChange fieldStepsWrong)

/-- 'footpathlaw14.FieldParts': WHATEVER THE INPUT: true; the input reads as it did. -/
def fieldPartsSpec : ChangeSpec := { name := "fieldParts", fn := fun _ => fun
  | [d1, d2, d3, d4, d5, d6] => { results := [.lit (.bool true)], args := [d1, d2, d3, d4, d5, d6] }
  | _ => none }
def fieldPartsRow : OpenClaim := { program := "ytcdfojfafnecdaa", sum := "db4854e0dd9050fcc2c68adfa1d883ca95184c0d0035ad3bfa57a26f30a4f49c", func := "footpath/footpathlaw14.FieldParts", spec := "fieldParts", unfollowed := true, recurses := true, plainKeys := false, apart := false }
def FieldPartsSaid : Prop := fieldPartsRow.holds Try.pinned (OpenSpec.ofChange fieldPartsSpec)

/-- ITS FALSE NEIGHBOUR: 'it returns false'. Refute it at one input. -/
def fieldPartsWrong : ChangeSpec := { name := "fieldParts", fn := fun _ => fun
  | [d1, d2, d3, d4, d5, d6] => { results := [.lit (.bool false)], args := [d1, d2, d3, d4, d5, d6] }
  | _ => none }
def FieldPartsWrongFalsely : Prop := fieldPartsRow.holds Try.pinned (OpenSpec.ofChange fieldPartsWrong)

/-- 'footpathlaw14.FieldCap': WHATEVER THE INPUT: true; the input reads as it did. -/
def fieldCapSpec : ChangeSpec := { name := "fieldCap", fn := fun _ => fun
  | [d1, d2, d3] => { results := [.lit (.bool true)], args := [d1, d2, d3] }
  | _ => none }
def fieldCapRow : OpenClaim := { program := "ytcdfojfafnecdaa", sum := "db4854e0dd9050fcc2c68adfa1d883ca95184c0d0035ad3bfa57a26f30a4f49c", func := "footpath/footpathlaw14.FieldCap", spec := "fieldCap", unfollowed := true, recurses := true, plainKeys := false, apart := false }
def FieldCapSaid : Prop := fieldCapRow.holds Try.pinned (OpenSpec.ofChange fieldCapSpec)

/-- ITS FALSE NEIGHBOUR: 'it returns false'. Refute it at one input. -/
def fieldCapWrong : ChangeSpec := { name := "fieldCap", fn := fun _ => fun
  | [d1, d2, d3] => { results := [.lit (.bool false)], args := [d1, d2, d3] }
  | _ => none }
def FieldCapWrongFalsely : Prop := fieldCapRow.holds Try.pinned (OpenSpec.ofChange fieldCapWrong)

/-- 'footpathlaw14.FieldMirrors': WHATEVER THE INPUT: true; the input reads as it did. -/
def fieldMirrorsSpec : ChangeSpec := { name := "fieldMirrors", fn := fun _ => fun
  | [d1, d2, d3] => { results := [.lit (.bool true)], args := [d1, d2, d3] }
  | _ => none }
def fieldMirrorsRow : OpenClaim := { program := "ytcdfojfafnecdaa", sum := "db4854e0dd9050fcc2c68adfa1d883ca95184c0d0035ad3bfa57a26f30a4f49c", func := "footpath/footpathlaw14.FieldMirrors", spec := "fieldMirrors", unfollowed := true, recurses := true, plainKeys := false, apart := false }
def FieldMirrorsSaid : Prop := fieldMirrorsRow.holds Try.pinned (OpenSpec.ofChange fieldMirrorsSpec)

/-- ITS FALSE NEIGHBOUR: 'it returns false'. Refute it at one input. -/
def fieldMirrorsWrong : ChangeSpec := { name := "fieldMirrors", fn := fun _ => fun
  | [d1, d2, d3] => { results := [.lit (.bool false)], args := [d1, d2, d3] }
  | _ => none }
def FieldMirrorsWrongFalsely : Prop := fieldMirrorsRow.holds Try.pinned (OpenSpec.ofChange fieldMirrorsWrong)

/- THE SECOND FORM. 'bulk': how many values and letters a reading holds, each counted each time it is reached (what is shared counts as often as it is met; a slice's spare places count too). A statement '..UptoSaid' is the law's where the arguments, and the package variables that the reading takes, are together of bulk at most 1048576: NARROWER than '..Said'. Prove '..Said' where nothing that the law and all that it calls make is longer than what came in: it says more and counts as full. Else prove '..UptoSaid'. A law counts once. -/
mutual
def uptoBulk {H : Type} : DataW H → Nat
  | .lit (.string bytes) => bytes.length + 1
  | .lit _ => 1
  | .nil => 1
  | .ptr d => uptoBulk d + 1
  | .slice elems spare => uptoBulkAll elems + uptoBulkAll spare + 1
  | .agg parts => uptoBulkAll parts + 1
  | .iface _ d => uptoBulk d + 1
  | .map entries => uptoBulkEntries entries + 1
  | .held _ => 1
def uptoBulkAll {H : Type} : List (DataW H) → Nat
  | [] => 0
  | d :: r => uptoBulk d + uptoBulkAll r
def uptoBulkEntries {H : Type} : List (Lit × DataW H) → Nat
  | [] => 0
  | x :: r => uptoBulkEntry x + uptoBulkEntries r
def uptoBulkEntry {H : Type} : Lit × DataW H → Nat
  | (.string bytes, d) => bytes.length + uptoBulk d + 1
  | (_, d) => uptoBulk d + 1
 end
def uptoSmall : (H : Type) → List (DataW H) → Bool := fun _ ds => decide (uptoBulkAll ds ≤ 1048576)
def OpenSpec.upto (s : _root_.Go.ChangeSpec) : _root_.Go.OpenSpec := { _root_.Go.OpenSpec.ofChange s with cond := some uptoSmall }

/-- 'footpathlaw14.FieldBuilds', WHERE WHAT IT READS IS OF BULK AT MOST 1048576: true; the input reads as it did. -/
def fieldBuildsUptoRow : OpenClaim := { program := "ytcdfojfafnecdaa", sum := "db4854e0dd9050fcc2c68adfa1d883ca95184c0d0035ad3bfa57a26f30a4f49c", func := "footpath/footpathlaw14.FieldBuilds", spec := "fieldBuilds", unfollowed := true, recurses := true, plainKeys := false, apart := false, narrowed := true }
def FieldBuildsUptoSaid : Prop := fieldBuildsUptoRow.holds Try.pinned (OpenSpec.upto fieldBuildsSpec)

/-- 'footpathlaw14.FieldSteps', WHERE WHAT IT READS IS OF BULK AT MOST 1048576: true; the input reads as it did. -/
def fieldStepsUptoRow : OpenClaim := { program := "ytcdfojfafnecdaa", sum := "db4854e0dd9050fcc2c68adfa1d883ca95184c0d0035ad3bfa57a26f30a4f49c", func := "footpath/footpathlaw14.FieldSteps", spec := "fieldSteps", unfollowed := true, recurses := true, plainKeys := false, apart := false, narrowed := true }
def FieldStepsUptoSaid : Prop := fieldStepsUptoRow.holds Try.pinned (OpenSpec.upto fieldStepsSpec)

/-- 'footpathlaw14.FieldParts', WHERE WHAT IT READS IS OF BULK AT MOST 1048576: true; the input reads as it did. -/
def fieldPartsUptoRow : OpenClaim := { program := "ytcdfojfafnecdaa", sum := "db4854e0dd9050fcc2c68adfa1d883ca95184c0d0035ad3bfa57a26f30a4f49c", func := "footpath/footpathlaw14.FieldParts", spec := "fieldParts", unfollowed := true, recurses := true, plainKeys := false, apart := false, narrowed := true }
def FieldPartsUptoSaid : Prop := fieldPartsUptoRow.holds Try.pinned (OpenSpec.upto fieldPartsSpec)

/-- 'footpathlaw14.FieldCap', WHERE WHAT IT READS IS OF BULK AT MOST 1048576: true; the input reads as it did. -/
def fieldCapUptoRow : OpenClaim := { program := "ytcdfojfafnecdaa", sum := "db4854e0dd9050fcc2c68adfa1d883ca95184c0d0035ad3bfa57a26f30a4f49c", func := "footpath/footpathlaw14.FieldCap", spec := "fieldCap", unfollowed := true, recurses := true, plainKeys := false, apart := false, narrowed := true }
def FieldCapUptoSaid : Prop := fieldCapUptoRow.holds Try.pinned (OpenSpec.upto fieldCapSpec)

/-- 'footpathlaw14.FieldMirrors', WHERE WHAT IT READS IS OF BULK AT MOST 1048576: true; the input reads as it did. -/
def fieldMirrorsUptoRow : OpenClaim := { program := "ytcdfojfafnecdaa", sum := "db4854e0dd9050fcc2c68adfa1d883ca95184c0d0035ad3bfa57a26f30a4f49c", func := "footpath/footpathlaw14.FieldMirrors", spec := "fieldMirrors", unfollowed := true, recurses := true, plainKeys := false, apart := false, narrowed := true }
def FieldMirrorsUptoSaid : Prop := fieldMirrorsUptoRow.holds Try.pinned (OpenSpec.upto fieldMirrorsSpec)

end Rows
end Go.Proofs.Ytcdfojfafnecdaa
