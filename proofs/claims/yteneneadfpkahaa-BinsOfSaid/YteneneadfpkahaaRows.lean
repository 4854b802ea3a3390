/-
  No cell of these rows narrows 'for every input' (looked for: loops, veiled, ifaces, maps, wideKeys, modest, calm, conditions, laid).
  DERIVED. THE GIVEN ROWS OF THIS SEAT. 17 by the template 'for every input the law returns true; each argument reads behind the call as it read before'; 0 by the template 'total and deterministic' (their statements: YteneneadfpkahaaTotals.lean).
  GIVEN WITH THE SEED: the statements are not yours to turn. If you find one false, say at which input.
  Laid BY PROGRAM, IN A SANDBOX (cutbox-rows.mjs): the forced cells as the released guide's own fill.sh prints them over the translation e863c79d6aefb527… (all of the seat's roots in one cut). By AI agents, Wed Nov 11 2026. No macro, syntax, notation, axiom, sorry.
-/
import Derived.Test.YteneneadfpkahaaChecked
import GoSem.Claim
import GoSem.ClaimJoined
import GoSem.ClaimMapViews
import Derived.JoinedTies
import Derived.KernelRfl
namespace Go.Proofs.Yteneneadfpkahaa
/- THE CELL 'sum', in the pinned program and in every row, IS THE sha256 OF THE DUMP (.gsa) THAT YteneneadfpkahaaProg.lean LOADS. Nothing in Lean hashes anything: it is a label: what it is worth is what the hold of that sum in a sandbox is worth. -/
noncomputable def Try.pinned : Pinned := { name := "yteneneadfpkahaa", sum := "e863c79d6aefb5274511d3dc8f1debb212c74a23ac9e046f6825a66f61e4e9b1", checked := Try.checked }
namespace Rows
def none {H : Type} : Left H := { results := [], args := [] }

/-- 'footpathlaw13.LinksArea': WHATEVER THE INPUT: true; the input reads as it did. -/
def linksAreaSpec : ChangeSpec := { name := "linksArea", fn := fun _ => fun
  | [d1, d2, d3, d4] => { results := [.lit (.bool true)], args := [d1, d2, d3, d4] }
  | _ => none }
def linksAreaRow : OpenClaim := { program := "yteneneadfpkahaa", sum := "e863c79d6aefb5274511d3dc8f1debb212c74a23ac9e046f6825a66f61e4e9b1", func := "footpath/footpathlaw13.LinksArea", spec := "linksArea", apart := false }
def LinksAreaSaid : Prop := linksAreaRow.holds Try.pinned (OpenSpec.ofChange linksAreaSpec)

/-- ITS FALSE NEIGHBOUR: 'it returns false'. Refute it at one input. -/
def linksAreaWrong : ChangeSpec := { name := "linksArea", fn := fun _ => fun
  | [d1, d2, d3, d4] => { results := [.lit (.bool false)], args := [d1, d2, d3, d4] }
  | _ => none }
def LinksAreaWrongFalsely : Prop := linksAreaRow.holds Try.pinned (OpenSpec.ofChange linksAreaWrong)

/-- 'footpathlaw06.BinsOne': WHATEVER THE INPUT: true; the input reads as it did. -/
def binsOneSpec : ChangeSpec := { name := "binsOne", fn := fun _ => fun
  | [d1, d2, d3, d4, d5, d6] => { results := [.lit (.bool true)], args := [d1, d2, d3, d4, d5, d6] }
  | _ => none }
def binsOneRow : OpenClaim := { program := "yteneneadfpkahaa", sum := "e863c79d6aefb5274511d3dc8f1debb212c74a23ac9e046f6825a66f61e4e9b1", func := "footpath/footpathlaw06.BinsOne", spec := "binsOne", apart := false }
def BinsOneSaid : Prop := binsOneRow.holds Try.pinned (OpenSpec.ofChange binsOneSpec)

/-- ITS FALSE NEIGHBOUR: 'it returns false'. Refute it at one input. -/
def binsOneWrong : ChangeSpec := { name := "binsOne", fn := fun _ => fun
  | [d1, d2, d3, d4, d5, d6] => { results := [.lit (.bool false)], args := [d1, d2, d3, d4, d5, d6] }
  | _ => none }
def BinsOneWrongFalsely : Prop := binsOneRow.holds Try.pinned (OpenSpec.ofChange binsOneWrong)

/-- 'footpathlaw06.BinsHalves': WHATEVER THE INPUT: true; the input reads as it did. -/
def binsHalvesSpec : ChangeSpec := { name := "binsHalves", fn := fun _ => fun
  | [d1, d2, d3, d4, d5, d6, d7] => { results := [.lit (.bool true)], args := [d1, d2, d3, d4, d5, d6, d7] }
  | _ => none }
def binsHalvesRow : OpenClaim := { program := "yteneneadfpkahaa", sum := "e863c79d6aefb5274511d3dc8f1debb212c74a23ac9e046f6825a66f61e4e9b1", func := "footpath/footpathlaw06.BinsHalves", spec := "binsHalves", apart := false }
def BinsHalvesSaid : Prop := binsHalvesRow.holds Try.pinned (OpenSpec.ofChange binsHalvesSpec)

/-- ITS FALSE NEIGHBOUR: 'it returns false'. Refute it at one input. -/
def binsHalvesWrong : ChangeSpec := { name := "binsHalves", fn := fun _ => fun
  | [d1, d2, d3, d4, d5, d6, d7] => { results := [.lit (.bool false)], args := [d1, d2, d3, d4, d5, d6, d7] }
  | _ => none }
def BinsHalvesWrongFalsely : Prop := binsHalvesRow.holds Try.pinned (OpenSpec.ofChange binsHalvesWrong)

/-- 'footpathlaw06.BinsTouch': WHATEVER THE INPUT: true; the input reads as it did. -/
def binsTouchSpec : ChangeSpec := { name := "binsTouch", fn := fun _ => fun
  | [d1, d2, d3, d4, d5, d6] => { results := [.lit (.bool true)], args := [d1, d2, d3, d4, d5, d6] }
  | _ => none }
def binsTouchRow : OpenClaim := { program := "yteneneadfpkahaa", sum := "e863c79d6aefb5274511d3dc8f1debb212c74a23ac9e046f6825a66f61e4e9b1", func := "footpath/footpathlaw06.BinsTouch", spec := "binsTouch", unfollowed := true, recurses := true, apart := false }
def BinsTouchSaid : Prop := binsTouchRow.holds Try.pinned (OpenSpec.ofChange binsTouchSpec)

/-- ITS FALSE NEIGHBOUR: 'it returns false'. Refute it at one input. -/
def binsTouchWrong : ChangeSpec := { name := "binsTouch", fn := fun _ => fun
  | [d1, d2, d3, d4, d5, d6] => { results := [.lit (.bool false)], args := [d1, d2, d3, d4, d5, d6] }
  | _ => none }
def BinsTouchWrongFalsely : Prop := binsTouchRow.holds Try.pinned (OpenSpec.ofChange binsTouchWrong)

/-- 'footpathlaw01.WholeConfig': WHATEVER THE INPUT: true; the input reads as it did. -/
def wholeConfigSpec : ChangeSpec := { name := "wholeConfig", fn := fun _ => fun
  | [d] => { results := [.lit (.bool true)], args := [d] }
  | _ => none }
def wholeConfigRow : OpenClaim := { program := "yteneneadfpkahaa", sum := "e863c79d6aefb5274511d3dc8f1debb212c74a23ac9e046f6825a66f61e4e9b1", func := "footpath/footpathlaw01.WholeConfig", spec := "wholeConfig", unfollowed := true, recurses := true, apart := false }
def WholeConfigSaid : Prop := wholeConfigRow.holds Try.pinned (OpenSpec.ofChange wholeConfigSpec)

/-- ITS FALSE NEIGHBOUR: 'it returns false'. Refute it at one input. -/
def wholeConfigWrong : ChangeSpec := { name := "wholeConfig", fn := fun _ => fun
  | [d] => { results := [.lit (.bool false)], args := [d] }
  | _ => none }
def WholeConfigWrongFalsely : Prop := wholeConfigRow.holds Try.pinned (OpenSpec.ofChange wholeConfigWrong)

/-- 'footpathlaw01.WholeFloors': WHATEVER THE INPUT: true; the input reads as it did. -/
def wholeFloorsSpec : ChangeSpec := { name := "wholeFloors", fn := fun _ => fun
  | [d1, d2] => { results := [.lit (.bool true)], args := [d1, d2] }
  | _ => none }
def wholeFloorsRow : OpenClaim := { program := "yteneneadfpkahaa", sum := "e863c79d6aefb5274511d3dc8f1debb212c74a23ac9e046f6825a66f61e4e9b1", func := "footpath/footpathlaw01.WholeFloors", spec := "wholeFloors", unfollowed := true, recurses := true, apart := false }
def WholeFloorsSaid : Prop := wholeFloorsRow.holds Try.pinned (OpenSpec.ofChange wholeFloorsSpec)

/-- ITS FALSE NEIGHBOUR: 'it returns false'. Refute it at one input. -/
def wholeFloorsWrong : ChangeSpec := { name := "wholeFloors", fn := fun _ => fun
  | [d1, d2] => { results := [.lit (.bool false)], args := [d1, d2] }
  | _ => none }
def WholeFloorsWrongFalsely : Prop := wholeFloorsRow.holds Try.pinned (OpenSpec.ofChange wholeFloorsWrong)

/-- 'footpathlaw01.WholeMod': WHATEVER THE INPUT: true; the input reads as it did. -/
def wholeModSpec : ChangeSpec := { name := "wholeMod", fn := fun _ => fun
  | [d1, d2, d3] => { results := [.lit (.bool true)], args := [d1, d2, d3] }
  | _ => none }
def wholeModRow : OpenClaim := { program := "yteneneadfpkahaa", sum := "e863c79d6aefb5274511d3dc8f1debb212c74a23ac9e046f6825a66f61e4e9b1", func := "footpath/footpathlaw01.WholeMod", spec := "wholeMod", unfollowed := true, recurses := true, apart := false }
def WholeModSaid : Prop := wholeModRow.holds Try.pinned (OpenSpec.ofChange wholeModSpec)

/-- ITS FALSE NEIGHBOUR: 'it returns false'. Refute it at one input. -/
def wholeModWrong : ChangeSpec := { name := "wholeMod", fn := fun _ => fun
  | [d1, d2, d3] => { results := [.lit (.bool false)], args := [d1, d2, d3] }
  | _ => none }
def WholeModWrongFalsely : Prop := wholeModRow.holds Try.pinned (OpenSpec.ofChange wholeModWrong)

/-- 'footpathlaw01.WholeCross': WHATEVER THE INPUT: true; the input reads as it did. -/
def wholeCrossSpec : ChangeSpec := { name := "wholeCross", fn := fun _ => fun
  | [d1, d2, d3, d4] => { results := [.lit (.bool true)], args := [d1, d2, d3, d4] }
  | _ => none }
def wholeCrossRow : OpenClaim := { program := "yteneneadfpkahaa", sum := "e863c79d6aefb5274511d3dc8f1debb212c74a23ac9e046f6825a66f61e4e9b1", func := "footpath/footpathlaw01.WholeCross", spec := "wholeCross", unfollowed := true, recurses := true, apart := false }
def WholeCrossSaid : Prop := wholeCrossRow.holds Try.pinned (OpenSpec.ofChange wholeCrossSpec)

/-- ITS FALSE NEIGHBOUR: 'it returns false'. Refute it at one input. -/
def wholeCrossWrong : ChangeSpec := { name := "wholeCross", fn := fun _ => fun
  | [d1, d2, d3, d4] => { results := [.lit (.bool false)], args := [d1, d2, d3, d4] }
  | _ => none }
def WholeCrossWrongFalsely : Prop := wholeCrossRow.holds Try.pinned (OpenSpec.ofChange wholeCrossWrong)

/-- 'footpathlaw02.GeomSwaps': WHATEVER THE INPUT: true; the input reads as it did. -/
def geomSwapsSpec : ChangeSpec := { name := "geomSwaps", fn := fun _ => fun
  | [d1, d2, d3, d4, d5] => { results := [.lit (.bool true)], args := [d1, d2, d3, d4, d5] }
  | _ => none }
def geomSwapsRow : OpenClaim := { program := "yteneneadfpkahaa", sum := "e863c79d6aefb5274511d3dc8f1debb212c74a23ac9e046f6825a66f61e4e9b1", func := "footpath/footpathlaw02.GeomSwaps", spec := "geomSwaps", apart := false }
def GeomSwapsSaid : Prop := geomSwapsRow.holds Try.pinned (OpenSpec.ofChange geomSwapsSpec)

/-- ITS FALSE NEIGHBOUR: 'it returns false'. Refute it at one input. -/
def geomSwapsWrong : ChangeSpec := { name := "geomSwaps", fn := fun _ => fun
  | [d1, d2, d3, d4, d5] => { results := [.lit (.bool false)], args := [d1, d2, d3, d4, d5] }
  | _ => none }
def GeomSwapsWrongFalsely : Prop := geomSwapsRow.holds Try.pinned (OpenSpec.ofChange geomSwapsWrong)

/-- 'footpathlaw04.TriChecks': WHATEVER THE INPUT: true; the input reads as it did. -/
def triChecksSpec : ChangeSpec := { name := "triChecks", fn := fun _ => fun
  | [d1, d2] => { results := [.lit (.bool true)], args := [d1, d2] }
  | _ => none }
def triChecksRow : OpenClaim := { program := "yteneneadfpkahaa", sum := "e863c79d6aefb5274511d3dc8f1debb212c74a23ac9e046f6825a66f61e4e9b1", func := "footpath/footpathlaw04.TriChecks", spec := "triChecks", unfollowed := true, recurses := true, apart := false }
def TriChecksSaid : Prop := triChecksRow.holds Try.pinned (OpenSpec.ofChange triChecksSpec)

/-- ITS FALSE NEIGHBOUR: 'it returns false'. Refute it at one input. -/
def triChecksWrong : ChangeSpec := { name := "triChecks", fn := fun _ => fun
  | [d1, d2] => { results := [.lit (.bool false)], args := [d1, d2] }
  | _ => none }
def TriChecksWrongFalsely : Prop := triChecksRow.holds Try.pinned (OpenSpec.ofChange triChecksWrong)

/-- 'footpathlaw04.TriWalks': WHATEVER THE INPUT: true; the input reads as it did. -/
def triWalksSpec : ChangeSpec := { name := "triWalks", fn := fun _ => fun
  | [d1, d2, d3, d4] => { results := [.lit (.bool true)], args := [d1, d2, d3, d4] }
  | _ => none }
def triWalksRow : OpenClaim := { program := "yteneneadfpkahaa", sum := "e863c79d6aefb5274511d3dc8f1debb212c74a23ac9e046f6825a66f61e4e9b1", func := "footpath/footpathlaw04.TriWalks", spec := "triWalks", unfollowed := true, recurses := true, apart := false }
def TriWalksSaid : Prop := triWalksRow.holds Try.pinned (OpenSpec.ofChange triWalksSpec)

/-- ITS FALSE NEIGHBOUR: 'it returns false'. Refute it at one input. -/
def triWalksWrong : ChangeSpec := { name := "triWalks", fn := fun _ => fun
  | [d1, d2, d3, d4] => { results := [.lit (.bool false)], args := [d1, d2, d3, d4] }
  | _ => none }
def TriWalksWrongFalsely : Prop := triWalksRow.holds Try.pinned (OpenSpec.ofChange triWalksWrong)

/-- 'footpathlaw04.TriEven': WHATEVER THE INPUT: true; the input reads as it did. -/
def triEvenSpec : ChangeSpec := { name := "triEven", fn := fun _ => fun
  | [d1, d2, d3, d4, d5] => { results := [.lit (.bool true)], args := [d1, d2, d3, d4, d5] }
  | _ => none }
def triEvenRow : OpenClaim := { program := "yteneneadfpkahaa", sum := "e863c79d6aefb5274511d3dc8f1debb212c74a23ac9e046f6825a66f61e4e9b1", func := "footpath/footpathlaw04.TriEven", spec := "triEven", unfollowed := true, recurses := true, apart := false }
def TriEvenSaid : Prop := triEvenRow.holds Try.pinned (OpenSpec.ofChange triEvenSpec)

/-- ITS FALSE NEIGHBOUR: 'it returns false'. Refute it at one input. -/
def triEvenWrong : ChangeSpec := { name := "triEven", fn := fun _ => fun
  | [d1, d2, d3, d4, d5] => { results := [.lit (.bool false)], args := [d1, d2, d3, d4, d5] }
  | _ => none }
def TriEvenWrongFalsely : Prop := triEvenRow.holds Try.pinned (OpenSpec.ofChange triEvenWrong)

/-- 'footpathlaw02.GeomTurns': WHATEVER THE INPUT: true; the input reads as it did. -/
def geomTurnsSpec : ChangeSpec := { name := "geomTurns", fn := fun _ => fun
  | [d1, d2, d3, d4] => { results := [.lit (.bool true)], args := [d1, d2, d3, d4] }
  | _ => none }
def geomTurnsRow : OpenClaim := { program := "yteneneadfpkahaa", sum := "e863c79d6aefb5274511d3dc8f1debb212c74a23ac9e046f6825a66f61e4e9b1", func := "footpath/footpathlaw02.GeomTurns", spec := "geomTurns", apart := false }
def GeomTurnsSaid : Prop := geomTurnsRow.holds Try.pinned (OpenSpec.ofChange geomTurnsSpec)

/-- ITS FALSE NEIGHBOUR: 'it returns false'. Refute it at one input. -/
def geomTurnsWrong : ChangeSpec := { name := "geomTurns", fn := fun _ => fun
  | [d1, d2, d3, d4] => { results := [.lit (.bool false)], args := [d1, d2, d3, d4] }
  | _ => none }
def GeomTurnsWrongFalsely : Prop := geomTurnsRow.holds Try.pinned (OpenSpec.ofChange geomTurnsWrong)

/-- 'footpathlaw04.TriSame': WHATEVER THE INPUT: true; the input reads as it did. -/
def triSameSpec : ChangeSpec := { name := "triSame", fn := fun _ => fun
  | [d1, d2] => { results := [.lit (.bool true)], args := [d1, d2] }
  | _ => none }
def triSameRow : OpenClaim := { program := "yteneneadfpkahaa", sum := "e863c79d6aefb5274511d3dc8f1debb212c74a23ac9e046f6825a66f61e4e9b1", func := "footpath/footpathlaw04.TriSame", spec := "triSame", unfollowed := true, recurses := true, apart := false }
def TriSameSaid : Prop := triSameRow.holds Try.pinned (OpenSpec.ofChange triSameSpec)

/-- ITS FALSE NEIGHBOUR: 'it returns false'. Refute it at one input. -/
def triSameWrong : ChangeSpec := { name := "triSame", fn := fun _ => fun
  | [d1, d2] => { results := [.lit (.bool false)], args := [d1, d2] }
  | _ => none }
def TriSameWrongFalsely : Prop := triSameRow.holds Try.pinned (OpenSpec.ofChange triSameWrong)

/-- 'footpathlaw04.TriTurned': WHATEVER THE INPUT: true; the input reads as it did. -/
def triTurnedSpec : ChangeSpec := { name := "triTurned", fn := fun _ => fun
  | [d1, d2, d3] => { results := [.lit (.bool true)], args := [d1, d2, d3] }
  | _ => none }
def triTurnedRow : OpenClaim := { program := "yteneneadfpkahaa", sum := "e863c79d6aefb5274511d3dc8f1debb212c74a23ac9e046f6825a66f61e4e9b1", func := "footpath/footpathlaw04.TriTurned", spec := "triTurned", unfollowed := true, recurses := true, apart := false }
def TriTurnedSaid : Prop := triTurnedRow.holds Try.pinned (OpenSpec.ofChange triTurnedSpec)

/-- ITS FALSE NEIGHBOUR: 'it returns false'. Refute it at one input. -/
def triTurnedWrong : ChangeSpec := { name := "triTurned", fn := fun _ => fun
  | [d1, d2, d3] => { results := [.lit (.bool false)], args := [d1, d2, d3] }
  | _ => none }
def TriTurnedWrongFalsely : Prop := triTurnedRow.holds Try.pinned (OpenSpec.ofChange triTurnedWrong)

/-- 'footpathlaw01.WholeTells': WHATEVER THE INPUT: true; the input reads as it did. -/
def wholeTellsSpec : ChangeSpec := { name := "wholeTells", fn := fun _ => fun
  | [d1, d2, d3, d4] => { results := [.lit (.bool true)], args := [d1, d2, d3, d4] }
  | _ => none }
def wholeTellsRow : OpenClaim := { program := "yteneneadfpkahaa", sum := "e863c79d6aefb5274511d3dc8f1debb212c74a23ac9e046f6825a66f61e4e9b1", func := "footpath/footpathlaw01.WholeTells", spec := "wholeTells", unfollowed := true, recurses := true, apart := false }
def WholeTellsSaid : Prop := wholeTellsRow.holds Try.pinned (OpenSpec.ofChange wholeTellsSpec)

/-- ITS FALSE NEIGHBOUR: 'it returns false'. Refute it at one input. -/
def wholeTellsWrong : ChangeSpec := { name := "wholeTells", fn := fun _ => fun
  | [d1, d2, d3, d4] => { results := [.lit (.bool false)], args := [d1, d2, d3, d4] }
  | _ => none }
def WholeTellsWrongFalsely : Prop := wholeTellsRow.holds Try.pinned (OpenSpec.ofChange wholeTellsWrong)

/-- 'footpathlaw06.BinsOf': WHATEVER THE INPUT: true; the input reads as it did. -/
def binsOfSpec : ChangeSpec := { name := "binsOf", fn := fun _ => fun
  | [d1, d2, d3] => { results := [.lit (.bool true)], args := [d1, d2, d3] }
  | _ => none }
def binsOfRow : OpenClaim := { program := "yteneneadfpkahaa", sum := "e863c79d6aefb5274511d3dc8f1debb212c74a23ac9e046f6825a66f61e4e9b1", func := "footpath/footpathlaw06.BinsOf", spec := "binsOf", unfollowed := true, recurses := true, apart := false }
def BinsOfSaid : Prop := binsOfRow.holds Try.pinned (OpenSpec.ofChange binsOfSpec)

/-- ITS FALSE NEIGHBOUR: 'it returns false'. Refute it at one input. -/
def binsOfWrong : ChangeSpec := { name := "binsOf", fn := fun _ => fun
  | [d1, d2, d3] => { results := [.lit (.bool false)], args := [d1, d2, d3] }
  | _ => none }
def BinsOfWrongFalsely : Prop := binsOfRow.holds Try.pinned (OpenSpec.ofChange binsOfWrong)

/- THE SECOND FORM. 'bulk': how many values and letters a reading holds, each counted each time it is reached (what is shared counts as often as it is met; a slice's spare places count too). A statement '..UptoSaid' is the law's where the arguments, and the package variables that the reading takes, are together of bulk at most 1048576: NARROWER than '..Said'. Prove '..Said' where nothing that the law and all that it calls make is longer than what came in: it says more and counts as full. Else prove '..UptoSaid'. A law counts once. -/
mutual
def uptoBulk {H : Type} : DataW H → Nat
  | .lit (.string bytes) => bytes.length + 1
  | .lit _ => 1
  | .nil => 1
  | .ptr d => uptoBulk d + 1
  | .slice elems spare => uptoBulkAll elems + uptoBulkAll spare + 1
  | .agg parts => uptoBulkAll parts + 1
  | .iface _ d => uptoBulk d + 1
  | .map entries => uptoBulkEntries entries + 1
  | .held _ => 1
def uptoBulkAll {H : Type} : List (DataW H) → Nat
  | [] => 0
  | d :: r => uptoBulk d + uptoBulkAll r
def uptoBulkEntries {H : Type} : List (Lit × DataW H) → Nat
  | [] => 0
  | x :: r => uptoBulkEntry x + uptoBulkEntries r
def uptoBulkEntry {H : Type} : Lit × DataW H → Nat
  | (.string bytes, d) => bytes.length + uptoBulk d + 1
  | (_, d) => uptoBulk d + 1
 end
def uptoSmall : (H : Type) → List (DataW H) → Bool := fun _ ds => decide (uptoBulkAll ds ≤ 1048576)
def OpenSpec.upto (s : _root_.Go.ChangeSpec) : _root_.Go.OpenSpec := { _root_.Go.OpenSpec.ofChange s with cond := some uptoSmall }

/-- 'footpathlaw13.LinksArea', WHERE WHAT IT READS IS OF BULK AT MOST 1048576: true; the input reads as it did. -/
def linksAreaUptoRow : OpenClaim := { program := "yteneneadfpkahaa", sum := "e863c79d6aefb5274511d3dc8f1debb212c74a23ac9e046f6825a66f61e4e9b1", func := "footpath/footpathlaw13.LinksArea", spec := "linksArea", apart := false, narrowed := true }
def LinksAreaUptoSaid : Prop := linksAreaUptoRow.holds Try.pinned (OpenSpec.upto linksAreaSpec)

/-- 'footpathlaw06.BinsOne', WHERE WHAT IT READS IS OF BULK AT MOST 1048576: true; the input reads as it did. -/
def binsOneUptoRow : OpenClaim := { program := "yteneneadfpkahaa", sum := "e863c79d6aefb5274511d3dc8f1debb212c74a23ac9e046f6825a66f61e4e9b1", func := "footpath/footpathlaw06.BinsOne", spec := "binsOne", apart := false, narrowed := true }
def BinsOneUptoSaid : Prop := binsOneUptoRow.holds Try.pinned (OpenSpec.upto binsOneSpec)

/-- 'footpathlaw06.BinsHalves', WHERE WHAT IT READS IS OF BULK AT MOST 1048576: true; the input reads as it did. -/
def binsHalvesUptoRow : OpenClaim := { program := "yteneneadfpkahaa", sum := "e863c79d6aefb5274511d3dc8f1debb212c74a23ac9e046f6825a66f61e4e9b1", func := "footpath/footpathlaw06.BinsHalves", spec := "binsHalves", apart := false, narrowed := true }
def BinsHalvesUptoSaid : Prop := binsHalvesUptoRow.holds Try.pinned (OpenSpec.upto binsHalvesSpec)

/-- 'footpathlaw06.BinsTouch', WHERE WHAT IT READS IS OF BULK AT MOST 1048576: true; the input reads as it did. -/
def binsTouchUptoRow : OpenClaim := { program := "yteneneadfpkahaa", sum := "e863c79d6aefb5274511d3dc8f1debb212c74a23ac9e046f6825a66f61e4e9b1", func := "footpath/footpathlaw06.BinsTouch", spec := "binsTouch", unfollowed := true, recurses := true, apart := false, narrowed := true }
def BinsTouchUptoSaid : Prop := binsTouchUptoRow.holds Try.pinned (OpenSpec.upto binsTouchSpec)

/-- 'footpathlaw01.WholeConfig', WHERE WHAT IT READS IS OF BULK AT MOST 1048576: true; the input reads as it did. -/
def wholeConfigUptoRow : OpenClaim := { program := "yteneneadfpkahaa", sum := "e863c79d6aefb5274511d3dc8f1debb212c74a23ac9e046f6825a66f61e4e9b1", func := "footpath/footpathlaw01.WholeConfig", spec := "wholeConfig", unfollowed := true, recurses := true, apart := false, narrowed := true }
def WholeConfigUptoSaid : Prop := wholeConfigUptoRow.holds Try.pinned (OpenSpec.upto wholeConfigSpec)

/-- 'footpathlaw01.WholeFloors', WHERE WHAT IT READS IS OF BULK AT MOST 1048576: true; the input reads as it did. -/
def wholeFloorsUptoRow : OpenClaim := { program := "yteneneadfpkahaa", sum := "e863c79d6aefb5274511d3dc8f1debb212c74a23ac9e046f6825a66f61e4e9b1", func := "footpath/footpathlaw01.WholeFloors", spec := "wholeFloors", unfollowed := true, recurses := true, apart := false, narrowed := true }
def WholeFloorsUptoSaid : Prop := wholeFloorsUptoRow.holds Try.pinned (OpenSpec.upto wholeFloorsSpec)

/-- 'footpathlaw01.WholeMod', WHERE WHAT IT READS IS OF BULK AT MOST 1048576: true; the input reads as it did. -/
def wholeModUptoRow : OpenClaim := { program := "yteneneadfpkahaa", sum := "e863c79d6aefb5274511d3dc8f1debb212c74a23ac9e046f6825a66f61e4e9b1", func := "footpath/footpathlaw01.WholeMod", spec := "wholeMod", unfollowed := true, recurses := true, apart := false, narrowed := true }
def WholeModUptoSaid : Prop := wholeModUptoRow.holds Try.pinned (OpenSpec.upto wholeModSpec)

/-- 'footpathlaw01.WholeCross', WHERE WHAT IT READS IS OF BULK AT MOST 1048576: true; the input reads as it did. -/
def wholeCrossUptoRow : OpenClaim := { program := "yteneneadfpkahaa", sum := "e863c79d6aefb5274511d3dc8f1debb212c74a23ac9e046f6825a66f61e4e9b1", func := "footpath/footpathlaw01.WholeCross", spec := "wholeCross", unfollowed := true, recurses := true, apart := false, narrowed := true }
def WholeCrossUptoSaid : Prop := wholeCrossUptoRow.holds Try.pinned (OpenSpec.upto wholeCrossSpec)

/-- 'footpathlaw02.GeomSwaps', WHERE WHAT IT READS IS OF BULK AT MOST 1048576: true; the input reads as it did. -/
def geomSwapsUptoRow : OpenClaim := { program := "yteneneadfpkahaa", sum := "e863c79d6aefb5274511d3dc8f1debb212c74a23ac9e046f6825a66f61e4e9b1", func := "footpath/footpathlaw02.GeomSwaps", spec := "geomSwaps", apart := false, narrowed := true }
def GeomSwapsUptoSaid : Prop := geomSwapsUptoRow.holds Try.pinned (OpenSpec.upto geomSwapsSpec)

/-- 'footpathlaw04.TriChecks', WHERE WHAT IT READS IS OF BULK AT MOST 1048576: true; the input reads as it did. -/
def triChecksUptoRow : OpenClaim := { program := "yteneneadfpkahaa", sum := "e863c79d6aefb5274511d3dc8f1debb212c74a23ac9e046f6825a66f61e4e9b1", func := "footpath/footpathlaw04.TriChecks", spec := "triChecks", unfollowed := true, recurses := true, apart := false, narrowed := true }
def TriChecksUptoSaid : Prop := triChecksUptoRow.holds Try.pinned (OpenSpec.upto triChecksSpec)

/-- 'footpathlaw04.TriWalks', WHERE WHAT IT READS IS OF BULK AT MOST 1048576: true; the input reads as it did. -/
def triWalksUptoRow : OpenClaim := { program := "yteneneadfpkahaa", sum := "e863c79d6aefb5274511d3dc8f1debb212c74a23ac9e046f6825a66f61e4e9b1", func := "footpath/footpathlaw04.TriWalks", spec := "triWalks", unfollowed := true, recurses := true, apart := false, narrowed := true }
def TriWalksUptoSaid : Prop := triWalksUptoRow.holds Try.pinned (OpenSpec.upto triWalksSpec)

/-- 'footpathlaw04.TriEven', WHERE WHAT IT READS IS OF BULK AT MOST 1048576: true; the input reads as it did. -/
def triEvenUptoRow : OpenClaim := { program := "yteneneadfpkahaa", sum := "e863c79d6aefb5274511d3dc8f1debb212c74a23ac9e046f6825a66f61e4e9b1", func := "footpath/footpathlaw04.TriEven", spec := "triEven", unfollowed := true, recurses := true, apart := false, narrowed := true }
def TriEvenUptoSaid : Prop := triEvenUptoRow.holds Try.pinned (OpenSpec.upto triEvenSpec)

/-- 'footpathlaw02.GeomTurns', WHERE WHAT IT READS IS OF BULK AT MOST 1048576: true; the input reads as it did. -/
def geomTurnsUptoRow : OpenClaim := { program := "yteneneadfpkahaa", sum := "e863c79d6aefb5274511d3dc8f1debb212c74a23ac9e046f6825a66f61e4e9b1", func := "footpath/footpathlaw02.GeomTurns", spec := "geomTurns", apart := false, narrowed := true }
def GeomTurnsUptoSaid : Prop := geomTurnsUptoRow.holds Try.pinned (OpenSpec.upto geomTurnsSpec)

/-- 'footpathlaw04.TriSame', WHERE WHAT IT READS IS OF BULK AT MOST 1048576: true; the input reads as it did. -/
def triSameUptoRow : OpenClaim := { program := "yteneneadfpkahaa", sum := "e863c79d6aefb5274511d3dc8f1debb212c74a23ac9e046f6825a66f61e4e9b1", func := "footpath/footpathlaw04.TriSame", spec := "triSame", unfollowed := true, recurses := true, apart := false, narrowed := true }
def TriSameUptoSaid : Prop := triSameUptoRow.holds Try.pinned (OpenSpec.upto triSameSpec)

/-- 'footpathlaw04.TriTurned', WHERE WHAT IT READS IS OF BULK AT MOST 1048576: true; the input reads as it did. -/
def triTurnedUptoRow : OpenClaim := { program := "yteneneadfpkahaa", sum := "e863c79d6aefb5274511d3dc8f1debb212c74a23ac9e046f6825a66f61e4e9b1", func := "footpath/footpathlaw04.TriTurned", spec := "triTurned", unfollowed := true, recurses := true, apart := false, narrowed := true }
def TriTurnedUptoSaid : Prop := triTurnedUptoRow.holds Try.pinned (OpenSpec.upto triTurnedSpec)

/-- 'footpathlaw01.WholeTells', WHERE WHAT IT READS IS OF BULK AT MOST 1048576: true; the input reads as it did. -/
def wholeTellsUptoRow : OpenClaim := { program := "yteneneadfpkahaa", sum := "e863c79d6aefb5274511d3dc8f1debb212c74a23ac9e046f6825a66f61e4e9b1", func := "footpath/footpathlaw01.WholeTells", spec := "wholeTells", unfollowed := true, recurses := true, apart := false, narrowed := true }
def WholeTellsUptoSaid : Prop := wholeTellsUptoRow.holds Try.pinned (OpenSpec.upto wholeTellsSpec)

/-- 'footpathlaw06.BinsOf', WHERE WHAT IT READS IS OF BULK AT MOST 1048576: true; the input reads as it did. -/
def binsOfUptoRow : OpenClaim := { program := "yteneneadfpkahaa", sum := "e863c79d6aefb5274511d3dc8f1debb212c74a23ac9e046f6825a66f61e4e9b1", func := "footpath/footpathlaw06.BinsOf", spec := "binsOf", unfollowed := true, recurses := true, apart := false, narrowed := true }
def BinsOfUptoSaid : Prop := binsOfUptoRow.holds Try.pinned (OpenSpec.upto binsOfSpec)

end Rows
end Go.Proofs.Yteneneadfpkahaa
