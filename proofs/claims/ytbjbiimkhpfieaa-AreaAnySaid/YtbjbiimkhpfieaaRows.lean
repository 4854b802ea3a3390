/-
  No cell of these rows narrows 'for every input' (looked for: loops, veiled, ifaces, maps, wideKeys, modest, calm, conditions, laid).
  DERIVED. THE GIVEN ROWS OF THIS SEAT. 4 by the template 'for every input the law returns true; each argument reads behind the call as it read before'; 0 by the template 'total and deterministic' (their statements: YtbjbiimkhpfieaaTotals.lean).
  GIVEN WITH THE SEED: the statements are not yours to turn. If you find one false, say at which input.
  Laid BY PROGRAM, IN A SANDBOX (cutbox-rows.mjs): the forced cells as the released guide's own fill.sh prints them over the translation 067795e65598201a… (all of the seat's roots in one cut). By AI agents, Wed Nov 11 2026. No macro, syntax, notation, axiom, sorry.
-/
import Derived.Test.YtbjbiimkhpfieaaChecked
import GoSem.Claim
import GoSem.ClaimJoined
import GoSem.ClaimMapViews
import Derived.JoinedTies
import Derived.KernelRfl
namespace Go.Proofs.Ytbjbiimkhpfieaa
/- THE CELL 'sum', in the pinned program and in every row, IS THE sha256 OF THE DUMP (.gsa) THAT YtbjbiimkhpfieaaProg.lean LOADS. Nothing in Lean hashes anything: it is a label: what it is worth is what the hold of that sum in a sandbox is worth. -/
noncomputable def Try.pinned : Pinned := { name := "ytbjbiimkhpfieaa", sum := "067795e65598201a64cb0d1ea98871b88973e4c723497bffb00e3772d067104b", checked := Try.checked }
namespace Rows
def none {H : Type} : Left H := { results := [], args := [] }

/-- 'footpathlaw13.LinksBack': WHATEVER THE INPUT: true; the input reads as it did. -/
def linksBackSpec : ChangeSpec := { name := "linksBack", fn := fun _ => fun
  | [d1, d2, d3, d4, d5, d6, d7] => { results := [.lit (.bool true)], args := [d1, d2, d3, d4, d5, d6, d7] }
  | _ => none }
def linksBackRow : OpenClaim := { program := "ytbjbiimkhpfieaa", sum := "067795e65598201a64cb0d1ea98871b88973e4c723497bffb00e3772d067104b", func := "footpath/footpathlaw13.LinksBack", spec := "linksBack", unfollowed := true, recurses := true, apart := false }
def LinksBackSaid : Prop := linksBackRow.holds Try.pinned (OpenSpec.ofChange linksBackSpec)

/-- ITS FALSE NEIGHBOUR: 'it returns false'. Refute it at one input. -/
def linksBackWrong : ChangeSpec := { name := "linksBack", fn := fun _ => fun
  | [d1, d2, d3, d4, d5, d6, d7] => { results := [.lit (.bool false)], args := [d1, d2, d3, d4, d5, d6, d7] }
  | _ => none }
def LinksBackWrongFalsely : Prop := linksBackRow.holds Try.pinned (OpenSpec.ofChange linksBackWrong)

/-- 'footpathlaw12.AreaOf': WHATEVER THE INPUT: true; the input reads as it did. -/
def areaOfSpec : ChangeSpec := { name := "areaOf", fn := fun _ => fun
  | [d1, d2, d3] => { results := [.lit (.bool true)], args := [d1, d2, d3] }
  | _ => none }
def areaOfRow : OpenClaim := { program := "ytbjbiimkhpfieaa", sum := "067795e65598201a64cb0d1ea98871b88973e4c723497bffb00e3772d067104b", func := "footpath/footpathlaw12.AreaOf", spec := "areaOf", unfollowed := true, recurses := true, apart := false }
def AreaOfSaid : Prop := areaOfRow.holds Try.pinned (OpenSpec.ofChange areaOfSpec)

/-- ITS FALSE NEIGHBOUR: 'it returns false'. Refute it at one input. -/
def areaOfWrong : ChangeSpec := { name := "areaOf", fn := fun _ => fun
  | [d1, d2, d3] => { results := [.lit (.bool false)], args := [d1, d2, d3] }
  | _ => none }
def AreaOfWrongFalsely : Prop := areaOfRow.holds Try.pinned (OpenSpec.ofChange areaOfWrong)

/-- 'footpathlaw12.AreaDrops': WHATEVER THE INPUT: true; the input reads as it did. -/
def areaDropsSpec : ChangeSpec := { name := "areaDrops", fn := fun _ => fun
  | [d1, d2, d3, d4] => { results := [.lit (.bool true)], args := [d1, d2, d3, d4] }
  | _ => none }
def areaDropsRow : OpenClaim := { program := "ytbjbiimkhpfieaa", sum := "067795e65598201a64cb0d1ea98871b88973e4c723497bffb00e3772d067104b", func := "footpath/footpathlaw12.AreaDrops", spec := "areaDrops", unfollowed := true, recurses := true, apart := false }
def AreaDropsSaid : Prop := areaDropsRow.holds Try.pinned (OpenSpec.ofChange areaDropsSpec)

/-- ITS FALSE NEIGHBOUR: 'it returns false'. Refute it at one input. -/
def areaDropsWrong : ChangeSpec := { name := "areaDrops", fn := fun _ => fun
  | [d1, d2, d3, d4] => { results := [.lit (.bool false)], args := [d1, d2, d3, d4] }
  | _ => none }
def AreaDropsWrongFalsely : Prop := areaDropsRow.holds Try.pinned (OpenSpec.ofChange areaDropsWrong)

/-- 'footpathlaw12.AreaAny': WHATEVER THE INPUT: true; the input reads as it did. -/
def areaAnySpec : ChangeSpec := { name := "areaAny", fn := fun _ => fun
  | [d1, d2, d3, d4] => { results := [.lit (.bool true)], args := [d1, d2, d3, d4] }
  | _ => none }
def areaAnyRow : OpenClaim := { program := "ytbjbiimkhpfieaa", sum := "067795e65598201a64cb0d1ea98871b88973e4c723497bffb00e3772d067104b", func := "footpath/footpathlaw12.AreaAny", spec := "areaAny", unfollowed := true, recurses := true, apart := false }
def AreaAnySaid : Prop := areaAnyRow.holds Try.pinned (OpenSpec.ofChange areaAnySpec)

/-- ITS FALSE NEIGHBOUR: 'it returns false'. Refute it at one input. -/
def areaAnyWrong : ChangeSpec := { name := "areaAny", fn := fun _ => fun
  | [d1, d2, d3, d4] => { results := [.lit (.bool false)], args := [d1, d2, d3, d4] }
  | _ => none }
def AreaAnyWrongFalsely : Prop := areaAnyRow.holds Try.pinned (OpenSpec.ofChange areaAnyWrong)

/- THE SECOND FORM. 'bulk': how many values and letters a reading holds, each counted each time it is reached (what is shared counts as often as it is met; a slice's spare places count too). A statement '..UptoSaid' is the law's where the arguments, and the package variables that the reading takes, are together of bulk at most 1048576: NARROWER than '..Said'. Prove '..Said' where nothing that the law and all that it calls make is longer than what came in: it says more and counts as full. Else prove '..UptoSaid'. A law counts once. -/
mutual
def uptoBulk {H : Type} : DataW H → Nat
  | .lit (.string bytes) => bytes.length + 1
  | .lit _ => 1
  | .nil => 1
  | .ptr d => uptoBulk d + 1
  | .slice elems spare => uptoBulkAll elems + uptoBulkAll spare + 1
  | .agg parts => uptoBulkAll parts + 1
  | .iface _ d => uptoBulk d + 1
  | .map entries => uptoBulkEntries entries + 1
  | .held _ => 1
def uptoBulkAll {H : Type} : List (DataW H) → Nat
  | [] => 0
  | d :: r => uptoBulk d + uptoBulkAll r
def uptoBulkEntries {H : Type} : List (Lit × DataW H) → Nat
  | [] => 0
  | x :: r => uptoBulkEntry x + uptoBulkEntries r
def uptoBulkEntry {H : Type} : Lit × DataW H → Nat
  | (.string bytes, d) => bytes.length + uptoBulk d + 1
  | (_, d) => uptoBulk d + 1
 end
def uptoSmall : (H : Type) → List (DataW H) → Bool := fun _ ds => decide (uptoBulkAll ds ≤ 1048576)
def OpenSpec.upto (s : _root_.Go.ChangeSpec) : _root_.Go.OpenSpec := { _root_.Go.OpenSpec.ofChange s with cond := some uptoSmall }

/-- 'footpathlaw13.LinksBack', WHERE WHAT IT READS IS OF BULK AT MOST 1048576: true; the input reads as it did. -/
def linksBackUptoRow : OpenClaim := { program := "ytbjbiimkhpfieaa", sum := "067795e65598201a64cb0d1ea98871b88973e4c723497bffb00e3772d067104b", func := "footpath/footpathlaw13.LinksBack", spec := "linksBack", unfollowed := true, recurses := true, apart := false, narrowed := true }
def LinksBackUptoSaid : Prop := linksBackUptoRow.holds Try.pinned (OpenSpec.upto linksBackSpec)

/-- 'footpathlaw12.AreaOf', WHERE WHAT IT READS IS OF BULK AT MOST 1048576: true; the input reads as it did. -/
def areaOfUptoRow : OpenClaim := { program := "ytbjbiimkhpfieaa", sum := "067795e65598201a64cb0d1ea98871b88973e4c723497bffb00e3772d067104b", func := "footpath/footpathlaw12.AreaOf", spec := "areaOf", unfollowed := true, recurses := true, apart := false, narrowed := true }
def AreaOfUptoSaid : Prop := areaOfUptoRow.holds Try.pinned (OpenSpec.upto areaOfSpec)

/-- 'footpathlaw12.AreaDrops', WHERE WHAT IT READS IS OF BULK AT MOST 1048576: true; the input reads as it did. -/
def areaDropsUptoRow : OpenClaim := { program := "ytbjbiimkhpfieaa", sum := "067795e65598201a64cb0d1ea98871b88973e4c723497bffb00e3772d067104b", func := "footpath/footpathlaw12.AreaDrops", spec := "areaDrops", unfollowed := true, recurses := true, apart := false, narrowed := true }
def AreaDropsUptoSaid : Prop := areaDropsUptoRow.holds Try.pinned (OpenSpec.upto areaDropsSpec)

/-- 'footpathlaw12.AreaAny', WHERE WHAT IT READS IS OF BULK AT MOST 1048576: true; the input reads as it did. -/
def areaAnyUptoRow : OpenClaim := { program := "ytbjbiimkhpfieaa", sum := "067795e65598201a64cb0d1ea98871b88973e4c723497bffb00e3772d067104b", func := "footpath/footpathlaw12.AreaAny", spec := "areaAny", unfollowed := true, recurses := true, apart := false, narrowed := true }
def AreaAnyUptoSaid : Prop := areaAnyUptoRow.holds Try.pinned (OpenSpec.upto areaAnySpec)

end Rows
end Go.Proofs.Ytbjbiimkhpfieaa
