/- Contracts of the functions that the claim reaches, as the symbolic executor tells them. No conditions. -/
import Derived.Test.YteneneadfpkahaaProg
import Derived.Test.YteneneadfpkahaaSxCon
import Derived.Test.YteneneadfpkahaaRoot
namespace Go.Proofs.Yteneneadfpkahaa
open Go Go.RowKit Go.Sx
set_option maxRecDepth 100000
set_option linter.unusedVariables false

/-! footpath/whole.in[int] -/
noncomputable def wInC : Con := conOf Try.prog [] 4000 85 [int1, int1, int1] false [int1]
noncomputable def wInF (a : Int) (b : Int) (c : Int) : Int := wInC.fi [.int .i64 a, .int .i64 b, .int .i64 c] 0
theorem wInF_eq (a : Int) (b : Int) (c : Int) : wInF a b c = min (max a b) c := by kernel_rfl
theorem wInC_holds : wInC.holds Try.prog := conOf_holds nil_holds _ _ _ _ _ (by kernel_rfl)

/-! footpath/whole.Check -/
noncomputable def checkC : Con := conOf Try.prog [wInC] 4000 30 [(some 0, [.i, .i, .i, .i, .i, .i, .i])] false [int1]
noncomputable def checkF (a_Clear : Int) (a_Climb : Int) (a_Height : Int) (a_Rise : Int) (a_Run : Int) (a_W : Int) (a_D : Int) : Int := checkC.fi [.int .i64 a_Clear, .int .i64 a_Climb, .int .i64 a_Height, .int .i64 a_Rise, .int .i64 a_Run, .int .i64 a_W, .int .i64 a_D] 0
theorem checkF_eq (a_Clear : Int) (a_Climb : Int) (a_Height : Int) (a_Rise : Int) (a_Run : Int) (a_W : Int) (a_D : Int) : checkF a_Clear a_Climb a_Height a_Rise a_Run a_W a_D = (bif !((a_Clear == (wInF a_Clear 0 3))) then 20 else (bif !((a_Climb == (wInF a_Climb 0 8))) then 20 else (bif decide (a_Height ≤ a_Climb) then 20 else (bif decide (32 < a_Height) then 20 else (bif !((a_Rise == (wInF a_Rise 0 100))) then 20 else (bif !((a_Run == (wInF a_Run 1 100))) then 20 else (bif !((a_W == (wInF a_W 1 32))) then 20 else (bif !((a_D == (wInF a_D 1 32))) then 20 else 0)))))))) := by kernel_rfl
theorem checkC_holds : checkC.holds Try.prog := conOf_holds (cons_holds wInC_holds nil_holds) _ _ _ _ _ (by kernel_rfl)

/-! cmp.isNaN[int] -/
noncomputable def isNaNC : Con := conOf Try.prog [] 4000 109 [int1] false [bool1]
noncomputable def isNaNF (a : Int) : Bool := isNaNC.fb [.int .i64 a] 0
theorem isNaNF_eq (a : Int) : isNaNF a = !(a == a) := by kernel_rfl
theorem isNaNC_holds : isNaNC.holds Try.prog := conOf_holds nil_holds _ _ _ _ _ (by kernel_rfl)

/-! cmp.Compare[int] -/
noncomputable def compareC : Con := conOf Try.prog [isNaNC] 4000 103 [int1, int1] false [int1]
noncomputable def compareF (a : Int) (b : Int) : Int := compareC.fi [.int .i64 a, .int .i64 b] 0
theorem compareF_eq (a : Int) (b : Int) : compareF a b = (bif isNaNF a then (bif isNaNF b then 0 else (-1)) else (bif isNaNF b then 1 else (bif decide (a < b) then (-1) else (bif decide (b < a) then 1 else 0)))) := by kernel_rfl
theorem compareC_holds : compareC.holds Try.prog := conOf_holds (cons_holds isNaNC_holds nil_holds) _ _ _ _ _ (by kernel_rfl)

/-! footpath/whole.Sign -/
noncomputable def signC : Con := conOf Try.prog [compareC] 4000 67 [int1] false [int1]
noncomputable def signF (a : Int) : Int := signC.fi [.int .i64 a] 0
theorem signF_eq (a : Int) : signF a = compareF a 0 := by kernel_rfl
theorem signC_holds : signC.holds Try.prog := conOf_holds (cons_holds compareC_holds nil_holds) _ _ _ _ _ (by kernel_rfl)

/-! footpath/footpathref01.Sign -/
noncomputable def rSignC : Con := conOf Try.prog [] 4000 68 [int1] false [int1]
noncomputable def rSignF (a : Int) : Int := rSignC.fi [.int .i64 a] 0
theorem rSignF_eq (a : Int) : rSignF a = (bif decide (a < 0) then (-1) else (bif decide (0 < a) then 1 else 0)) := by kernel_rfl
theorem rSignC_holds : rSignC.holds Try.prog := conOf_holds nil_holds _ _ _ _ _ (by kernel_rfl)

/-! footpath/footpathref01.In -/
noncomputable def rInC : Con := conOf Try.prog [] 4000 102 [int1, int1, int1] false [int1]
noncomputable def rInF (a : Int) (b : Int) (c : Int) : Int := rInC.fi [.int .i64 a, .int .i64 b, .int .i64 c] 0
theorem rInF_eq (a : Int) (b : Int) (c : Int) : rInF a b c = min (max a b) c := by kernel_rfl
theorem rInC_holds : rInC.holds Try.prog := conOf_holds nil_holds _ _ _ _ _ (by kernel_rfl)

/-! footpath/footpathref01.Check -/
noncomputable def checkRC : Con := conOf Try.prog [] 4000 31 [(some 0, [.i, .i, .i, .i, .i, .i, .i])] false [int1]
noncomputable def checkRF (a_Clear : Int) (a_Climb : Int) (a_Height : Int) (a_Rise : Int) (a_Run : Int) (a_W : Int) (a_D : Int) : Int := checkRC.fi [.int .i64 a_Clear, .int .i64 a_Climb, .int .i64 a_Height, .int .i64 a_Rise, .int .i64 a_Run, .int .i64 a_W, .int .i64 a_D] 0
theorem checkRF_eq (a_Clear : Int) (a_Climb : Int) (a_Height : Int) (a_Rise : Int) (a_Run : Int) (a_W : Int) (a_D : Int) : checkRF a_Clear a_Climb a_Height a_Rise a_Run a_W a_D = (bif (((((((((((((decide (a_Clear < 0) || decide (3 < a_Clear)) || decide (a_Climb < 0)) || decide (8 < a_Climb)) || decide (a_Height ≤ a_Climb)) || decide (32 < a_Height)) || decide (a_Rise < 0)) || decide (100 < a_Rise)) || decide (a_Run < 1)) || decide (100 < a_Run)) || decide (a_W < 1)) || decide (32 < a_W)) || decide (a_D < 1)) || decide (32 < a_D)) then 20 else 0) := by kernel_rfl
theorem checkRC_holds : checkRC.holds Try.prog := conOf_holds nil_holds _ _ _ _ _ (by kernel_rfl)

/-! footpath/whole.Floor -/
noncomputable def floorC : Con := conOf Try.prog [wInC] 4000 33 [int1, int1] true [int1, int1]
noncomputable def floorF0 (a : Int) (b : Int) : Int := floorC.fi [.int .i64 a, .int .i64 b] 0
theorem floorF0_eq (a : Int) (b : Int) : floorF0 a b = (bif ((wInF b (-2305843009213693952) 2305843009213693952) == 0) then 0 else (bif decide (wInF b (-2305843009213693952) 2305843009213693952 < 0) then w64 (Int.tdiv (w64 (w64 (0 - wInF a (-2305843009213693952) 2305843009213693952) - Int.tmod (w64 (Int.tmod (w64 (0 - wInF a (-2305843009213693952) 2305843009213693952)) (w64 (0 - wInF b (-2305843009213693952) 2305843009213693952)) + w64 (0 - wInF b (-2305843009213693952) 2305843009213693952))) (w64 (0 - wInF b (-2305843009213693952) 2305843009213693952)))) (w64 (0 - wInF b (-2305843009213693952) 2305843009213693952))) else w64 (Int.tdiv (w64 (wInF a (-2305843009213693952) 2305843009213693952 - Int.tmod (w64 (Int.tmod (wInF a (-2305843009213693952) 2305843009213693952) (wInF b (-2305843009213693952) 2305843009213693952) + wInF b (-2305843009213693952) 2305843009213693952)) (wInF b (-2305843009213693952) 2305843009213693952))) (wInF b (-2305843009213693952) 2305843009213693952)))) := by kernel_rfl
noncomputable def floorF1 (a : Int) (b : Int) : Int := floorC.fi [.int .i64 a, .int .i64 b] 1
theorem floorF1_eq (a : Int) (b : Int) : floorF1 a b = (bif ((wInF b (-2305843009213693952) 2305843009213693952) == 0) then 2 else (bif decide (wInF b (-2305843009213693952) 2305843009213693952 < 0) then 0 else 0)) := by kernel_rfl
def floor_Need (a : Int) (b : Int) : Prop := (((((wInF b (-2305843009213693952) 2305843009213693952) == 0)) = true → True) ∧ ((((wInF b (-2305843009213693952) 2305843009213693952) == 0)) = false → (((decide (wInF b (-2305843009213693952) 2305843009213693952 < 0)) = true → ((!(((w64 (0 - wInF b (-2305843009213693952) 2305843009213693952)) == 0))) = true ∧ ((!(((w64 (0 - wInF b (-2305843009213693952) 2305843009213693952)) == 0))) = true ∧ ((!(((w64 (0 - wInF b (-2305843009213693952) 2305843009213693952)) == 0))) = true ∧ True)))) ∧ ((decide (wInF b (-2305843009213693952) 2305843009213693952 < 0)) = false → ((!(((wInF b (-2305843009213693952) 2305843009213693952) == 0))) = true ∧ ((!(((wInF b (-2305843009213693952) 2305843009213693952) == 0))) = true ∧ ((!(((wInF b (-2305843009213693952) 2305843009213693952) == 0))) = true ∧ True)))))))
theorem floorC_holds_of (h : ∀ (a : Int) (b : Int), floor_Need a b) : floorC.holds Try.prog := conOf_holds_need (cons_holds wInC_holds nil_holds) _ _ _ _ _ (by kernel_rfl) (by rintro cs ⟨a, _, rfl, b, _, rfl, rfl⟩; refine Eq.mpr (?_ : _ = floor_Need a b) (h a b); kernel_rfl)
theorem floor_need (a b : Int) : floor_Need a b := by
  unfold floor_Need
  simp only [wInF_eq]
  generalize hb : min (max b (-2305843009213693952)) 2305843009213693952 = b'
  have h1 : -2305843009213693952 ≤ b' := by omega
  have h2 : b' ≤ 2305843009213693952 := by omega
  clear hb
  have h3 : w64 (0 - b') = -b' := by rw [w64_id] <;> omega
  simp only [h3]
  refine ⟨fun _ => trivial, fun h => ⟨fun _ => ?_, fun _ => ?_⟩⟩
  · have : b' ≠ 0 := by simpa using h
    simp [this]
  · simp [h]
theorem floorC_holds : floorC.holds Try.prog := floorC_holds_of floor_need

/-! footpath/whole.Ceil -/
noncomputable def ceilC : Con := conOf Try.prog [wInC, floorC] 4000 34 [int1, int1] true [int1, int1]
noncomputable def ceilF0 (a : Int) (b : Int) : Int := ceilC.fi [.int .i64 a, .int .i64 b] 0
theorem ceilF0_eq (a : Int) (b : Int) : ceilF0 a b = w64 (0 - floorF0 (w64 (0 - wInF a (-2305843009213693952) 2305843009213693952)) b) := by kernel_rfl
noncomputable def ceilF1 (a : Int) (b : Int) : Int := ceilC.fi [.int .i64 a, .int .i64 b] 1
theorem ceilF1_eq (a : Int) (b : Int) : ceilF1 a b = floorF1 (w64 (0 - wInF a (-2305843009213693952) 2305843009213693952)) b := by kernel_rfl
theorem ceilC_holds : ceilC.holds Try.prog := conOf_holds (cons_holds wInC_holds (cons_holds floorC_holds nil_holds)) _ _ _ _ _ (by kernel_rfl)

/-! footpath/whole.Mod -/
noncomputable def modC : Con := conOf Try.prog [wInC, floorC] 4000 35 [int1, int1] true [int1, int1]
noncomputable def modF0 (a : Int) (b : Int) : Int := modC.fi [.int .i64 a, .int .i64 b] 0
theorem modF0_eq (a : Int) (b : Int) : modF0 a b = (bif decide (wInF b (-2305843009213693952) 2305843009213693952 < 1) then 0 else w64 (wInF a (-2305843009213693952) 2305843009213693952 - w64 (wInF b (-2305843009213693952) 2305843009213693952 * floorF0 (wInF a (-2305843009213693952) 2305843009213693952) (wInF b (-2305843009213693952) 2305843009213693952)))) := by kernel_rfl
noncomputable def modF1 (a : Int) (b : Int) : Int := modC.fi [.int .i64 a, .int .i64 b] 1
theorem modF1_eq (a : Int) (b : Int) : modF1 a b = (bif decide (wInF b (-2305843009213693952) 2305843009213693952 < 1) then 2 else floorF1 (wInF a (-2305843009213693952) 2305843009213693952) (wInF b (-2305843009213693952) 2305843009213693952)) := by kernel_rfl
theorem modC_holds : modC.holds Try.prog := conOf_holds (cons_holds wInC_holds (cons_holds floorC_holds nil_holds)) _ _ _ _ _ (by kernel_rfl)

/-! footpath/whole.Cross -/
noncomputable def crossC : Con := conOf Try.prog [wInC] 4000 38 [int1, int1, int1, int1] true [int1, int1]
noncomputable def crossF0 (a : Int) (b : Int) (c : Int) (d : Int) : Int := crossC.fi [.int .i64 a, .int .i64 b, .int .i64 c, .int .i64 d] 0
theorem crossF0_eq (a : Int) (b : Int) (c : Int) (d : Int) : crossF0 a b c d = (bif !((a == (wInF a (-1073741824) 1073741824))) then 0 else (bif !((b == (wInF b (-1073741824) 1073741824))) then 0 else (bif !((c == (wInF c (-1073741824) 1073741824))) then 0 else (bif !((d == (wInF d (-1073741824) 1073741824))) then 0 else w64 (w64 (a * d) - w64 (b * c)))))) := by kernel_rfl
noncomputable def crossF1 (a : Int) (b : Int) (c : Int) (d : Int) : Int := crossC.fi [.int .i64 a, .int .i64 b, .int .i64 c, .int .i64 d] 1
theorem crossF1_eq (a : Int) (b : Int) (c : Int) (d : Int) : crossF1 a b c d = (bif !((a == (wInF a (-1073741824) 1073741824))) then 2 else (bif !((b == (wInF b (-1073741824) 1073741824))) then 2 else (bif !((c == (wInF c (-1073741824) 1073741824))) then 2 else (bif !((d == (wInF d (-1073741824) 1073741824))) then 2 else 0)))) := by kernel_rfl
theorem crossC_holds : crossC.holds Try.prog := conOf_holds (cons_holds wInC_holds nil_holds) _ _ _ _ _ (by kernel_rfl)

/-! footpath/footpathref01.Floor -/
noncomputable def rFloorC : Con := conOf Try.prog [rInC] 4000 65 [int1, int1] true [int1, int1]
noncomputable def rFloorF0 (a : Int) (b : Int) : Int := rFloorC.fi [.int .i64 a, .int .i64 b] 0
theorem rFloorF0_eq (a : Int) (b : Int) : rFloorF0 a b = (bif ((rInF b (-2305843009213693952) 2305843009213693952) == 0) then 0 else (bif (!(((w64 (w64 (Int.tdiv (rInF a (-2305843009213693952) 2305843009213693952) (rInF b (-2305843009213693952) 2305843009213693952)) * rInF b (-2305843009213693952) 2305843009213693952)) == (rInF a (-2305843009213693952) 2305843009213693952))) && !(((decide (rInF a (-2305843009213693952) 2305843009213693952 < 0)) == (decide (rInF b (-2305843009213693952) 2305843009213693952 < 0))))) then w64 (w64 (Int.tdiv (rInF a (-2305843009213693952) 2305843009213693952) (rInF b (-2305843009213693952) 2305843009213693952)) - 1) else w64 (Int.tdiv (rInF a (-2305843009213693952) 2305843009213693952) (rInF b (-2305843009213693952) 2305843009213693952)))) := by kernel_rfl
noncomputable def rFloorF1 (a : Int) (b : Int) : Int := rFloorC.fi [.int .i64 a, .int .i64 b] 1
theorem rFloorF1_eq (a : Int) (b : Int) : rFloorF1 a b = (bif ((rInF b (-2305843009213693952) 2305843009213693952) == 0) then 2 else (bif (!(((w64 (w64 (Int.tdiv (rInF a (-2305843009213693952) 2305843009213693952) (rInF b (-2305843009213693952) 2305843009213693952)) * rInF b (-2305843009213693952) 2305843009213693952)) == (rInF a (-2305843009213693952) 2305843009213693952))) && !(((decide (rInF a (-2305843009213693952) 2305843009213693952 < 0)) == (decide (rInF b (-2305843009213693952) 2305843009213693952 < 0))))) then 0 else 0)) := by kernel_rfl
def rFloor_Need (a : Int) (b : Int) : Prop := (((((rInF b (-2305843009213693952) 2305843009213693952) == 0)) = true → True) ∧ ((((rInF b (-2305843009213693952) 2305843009213693952) == 0)) = false → ((!(((rInF b (-2305843009213693952) 2305843009213693952) == 0))) = true ∧ ((((!(((w64 (w64 (Int.tdiv (rInF a (-2305843009213693952) 2305843009213693952) (rInF b (-2305843009213693952) 2305843009213693952)) * rInF b (-2305843009213693952) 2305843009213693952)) == (rInF a (-2305843009213693952) 2305843009213693952))) && !(((decide (rInF a (-2305843009213693952) 2305843009213693952 < 0)) == (decide (rInF b (-2305843009213693952) 2305843009213693952 < 0)))))) = true → True) ∧ (((!(((w64 (w64 (Int.tdiv (rInF a (-2305843009213693952) 2305843009213693952) (rInF b (-2305843009213693952) 2305843009213693952)) * rInF b (-2305843009213693952) 2305843009213693952)) == (rInF a (-2305843009213693952) 2305843009213693952))) && !(((decide (rInF a (-2305843009213693952) 2305843009213693952 < 0)) == (decide (rInF b (-2305843009213693952) 2305843009213693952 < 0)))))) = false → True)))))
theorem rFloorC_holds_of (h : ∀ (a : Int) (b : Int), rFloor_Need a b) : rFloorC.holds Try.prog := conOf_holds_need (cons_holds rInC_holds nil_holds) _ _ _ _ _ (by kernel_rfl) (by rintro cs ⟨a, _, rfl, b, _, rfl, rfl⟩; refine Eq.mpr (?_ : _ = rFloor_Need a b) (h a b); kernel_rfl)
theorem rFloor_need (a b : Int) : rFloor_Need a b := by
  unfold rFloor_Need
  refine ⟨fun _ => trivial, fun h => ?_⟩
  simp only [h, Bool.not_false, true_and]
  exact ⟨fun _ => trivial, fun _ => trivial⟩
theorem rFloorC_holds : rFloorC.holds Try.prog := rFloorC_holds_of rFloor_need

/-! footpath/footpathref01.Ceil -/
noncomputable def rCeilC : Con := conOf Try.prog [rInC, rFloorC] 4000 66 [int1, int1] true [int1, int1]
noncomputable def rCeilF0 (a : Int) (b : Int) : Int := rCeilC.fi [.int .i64 a, .int .i64 b] 0
theorem rCeilF0_eq (a : Int) (b : Int) : rCeilF0 a b = w64 (0 - rFloorF0 (w64 (0 - rInF a (-2305843009213693952) 2305843009213693952)) (rInF b (-2305843009213693952) 2305843009213693952)) := by kernel_rfl
noncomputable def rCeilF1 (a : Int) (b : Int) : Int := rCeilC.fi [.int .i64 a, .int .i64 b] 1
theorem rCeilF1_eq (a : Int) (b : Int) : rCeilF1 a b = rFloorF1 (w64 (0 - rInF a (-2305843009213693952) 2305843009213693952)) (rInF b (-2305843009213693952) 2305843009213693952) := by kernel_rfl
theorem rCeilC_holds : rCeilC.holds Try.prog := conOf_holds (cons_holds rInC_holds (cons_holds rFloorC_holds nil_holds)) _ _ _ _ _ (by kernel_rfl)

/-! footpath/footpathref01.Mod -/
noncomputable def rModC : Con := conOf Try.prog [rInC] 4000 69 [int1, int1] true [int1, int1]
noncomputable def rModF0 (a : Int) (b : Int) : Int := rModC.fi [.int .i64 a, .int .i64 b] 0
theorem rModF0_eq (a : Int) (b : Int) : rModF0 a b = (bif decide (rInF b (-2305843009213693952) 2305843009213693952 < 1) then 0 else (bif decide (Int.tmod (rInF a (-2305843009213693952) 2305843009213693952) (rInF b (-2305843009213693952) 2305843009213693952) < 0) then w64 (Int.tmod (rInF a (-2305843009213693952) 2305843009213693952) (rInF b (-2305843009213693952) 2305843009213693952) + rInF b (-2305843009213693952) 2305843009213693952) else Int.tmod (rInF a (-2305843009213693952) 2305843009213693952) (rInF b (-2305843009213693952) 2305843009213693952))) := by kernel_rfl
noncomputable def rModF1 (a : Int) (b : Int) : Int := rModC.fi [.int .i64 a, .int .i64 b] 1
theorem rModF1_eq (a : Int) (b : Int) : rModF1 a b = (bif decide (rInF b (-2305843009213693952) 2305843009213693952 < 1) then 2 else (bif decide (Int.tmod (rInF a (-2305843009213693952) 2305843009213693952) (rInF b (-2305843009213693952) 2305843009213693952) < 0) then 0 else 0)) := by kernel_rfl
def rMod_Need (a : Int) (b : Int) : Prop := (((decide (rInF b (-2305843009213693952) 2305843009213693952 < 1)) = true → True) ∧ ((decide (rInF b (-2305843009213693952) 2305843009213693952 < 1)) = false → ((!(((rInF b (-2305843009213693952) 2305843009213693952) == 0))) = true ∧ (((decide (Int.tmod (rInF a (-2305843009213693952) 2305843009213693952) (rInF b (-2305843009213693952) 2305843009213693952) < 0)) = true → True) ∧ ((decide (Int.tmod (rInF a (-2305843009213693952) 2305843009213693952) (rInF b (-2305843009213693952) 2305843009213693952) < 0)) = false → True)))))
theorem rModC_holds_of (h : ∀ (a : Int) (b : Int), rMod_Need a b) : rModC.holds Try.prog := conOf_holds_need (cons_holds rInC_holds nil_holds) _ _ _ _ _ (by kernel_rfl) (by rintro cs ⟨a, _, rfl, b, _, rfl, rfl⟩; refine Eq.mpr (?_ : _ = rMod_Need a b) (h a b); kernel_rfl)
theorem rMod_need (a b : Int) : rMod_Need a b := by
  unfold rMod_Need
  refine ⟨fun _ => trivial, fun h => ?_⟩
  have h1 : ¬ rInF b (-2305843009213693952) 2305843009213693952 < 1 := by simpa using h
  have h2 : rInF b (-2305843009213693952) 2305843009213693952 ≠ 0 := by omega
  refine ⟨by simpa using h2, fun _ => trivial, fun _ => trivial⟩
theorem rModC_holds : rModC.holds Try.prog := rModC_holds_of rMod_need

/-! footpath/footpathref01.Cross -/
noncomputable def rCrossC : Con := conOf Try.prog [] 4000 70 [int1, int1, int1, int1] true [int1, int1]
noncomputable def rCrossF0 (a : Int) (b : Int) (c : Int) (d : Int) : Int := rCrossC.fi [.int .i64 a, .int .i64 b, .int .i64 c, .int .i64 d] 0
theorem rCrossF0_eq (a : Int) (b : Int) (c : Int) (d : Int) : rCrossF0 a b c d = (bif (((((((decide (a < (-1073741824)) || decide (1073741824 < a)) || decide (b < (-1073741824))) || decide (1073741824 < b)) || decide (c < (-1073741824))) || decide (1073741824 < c)) || decide (d < (-1073741824))) || decide (1073741824 < d)) then 0 else w64 (w64 (a * d) - w64 (b * c))) := by kernel_rfl
noncomputable def rCrossF1 (a : Int) (b : Int) (c : Int) (d : Int) : Int := rCrossC.fi [.int .i64 a, .int .i64 b, .int .i64 c, .int .i64 d] 1
theorem rCrossF1_eq (a : Int) (b : Int) (c : Int) (d : Int) : rCrossF1 a b c d = (bif (((((((decide (a < (-1073741824)) || decide (1073741824 < a)) || decide (b < (-1073741824))) || decide (1073741824 < b)) || decide (c < (-1073741824))) || decide (1073741824 < c)) || decide (d < (-1073741824))) || decide (1073741824 < d)) then 2 else 0) := by kernel_rfl
theorem rCrossC_holds : rCrossC.holds Try.prog := conOf_holds nil_holds _ _ _ _ _ (by kernel_rfl)

/-! footpath/whole.Root -/
noncomputable def rootC : Con := conOf Try.prog [rootUpC, wInC] 4000 36 [int1] true [int1, int1]
noncomputable def rootF0 (a : Int) : Int := rootC.fi [.int .i64 a] 0
theorem rootF0_eq (a : Int) : rootF0 a = (bif (((rootUpF1 a) == 0) && decide (wInF a (-2305843009213693952) 2305843009213693952 < w64 (rootUpF0 a * rootUpF0 a))) then w64 (rootUpF0 a - 1) else rootUpF0 a) := by kernel_rfl
noncomputable def rootF1 (a : Int) : Int := rootC.fi [.int .i64 a] 1
theorem rootF1_eq (a : Int) : rootF1 a = (bif (((rootUpF1 a) == 0) && decide (wInF a (-2305843009213693952) 2305843009213693952 < w64 (rootUpF0 a * rootUpF0 a))) then rootUpF1 a else rootUpF1 a) := by kernel_rfl
theorem rootC_holds : rootC.holds Try.prog := conOf_holds (cons_holds rootUpC_holds (cons_holds wInC_holds nil_holds)) _ _ _ _ _ (by kernel_rfl)

/-! footpath/footpathref01.RootUp -/
noncomputable def rRootUpC : Con := conOf Try.prog [rInC, rRootC] 4000 72 [int1] true [int1, int1]
noncomputable def rRootUpF0 (a : Int) : Int := rRootUpC.fi [.int .i64 a] 0
theorem rRootUpF0_eq (a : Int) : rRootUpF0 a = (bif (((rRootF1 (rInF a (-2305843009213693952) 2305843009213693952)) == 0) && decide (w64 (rRootF0 (rInF a (-2305843009213693952) 2305843009213693952) * rRootF0 (rInF a (-2305843009213693952) 2305843009213693952)) < rInF a (-2305843009213693952) 2305843009213693952)) then w64 (rRootF0 (rInF a (-2305843009213693952) 2305843009213693952) + 1) else rRootF0 (rInF a (-2305843009213693952) 2305843009213693952)) := by kernel_rfl
noncomputable def rRootUpF1 (a : Int) : Int := rRootUpC.fi [.int .i64 a] 1
theorem rRootUpF1_eq (a : Int) : rRootUpF1 a = (bif (((rRootF1 (rInF a (-2305843009213693952) 2305843009213693952)) == 0) && decide (w64 (rRootF0 (rInF a (-2305843009213693952) 2305843009213693952) * rRootF0 (rInF a (-2305843009213693952) 2305843009213693952)) < rInF a (-2305843009213693952) 2305843009213693952)) then rRootF1 (rInF a (-2305843009213693952) 2305843009213693952) else rRootF1 (rInF a (-2305843009213693952) 2305843009213693952)) := by kernel_rfl
theorem rRootUpC_holds : rRootUpC.holds Try.prog := conOf_holds (cons_holds rInC_holds (cons_holds rRootC_holds nil_holds)) _ _ _ _ _ (by kernel_rfl)

end Go.Proofs.Yteneneadfpkahaa
