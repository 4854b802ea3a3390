/- Contracts of the functions that the claim reaches, as the symbolic executor tells them. No conditions. -/
import Derived.Test.YteneneadfpkahaaProg
import Derived.Test.YteneneadfpkahaaSxCon
import Derived.Test.YteneneadfpkahaaWh
namespace Go.Proofs.Yteneneadfpkahaa
open Go Go.RowKit Go.Sx
set_option maxRecDepth 100000
set_option linter.unusedVariables false

/-! footpath/footpathlaw01.wakes -/
noncomputable def wakes01C : Con := conOf Try.prog [floorC, ceilC, rootC, rootUpC] 4000 32 [] false [bool1]
noncomputable def wakes01F : Bool := wakes01C.fb [] 0
theorem wakes01F_eq : wakes01F = ((((((((((floorF0 (-7) 2) == (-4)) && ((floorF1 (-7) 2) == 0)) && ((ceilF0 (-7) 2) == (-3))) && ((ceilF1 (-7) 2) == 0)) && ((rootF0 17) == 4)) && ((rootF1 17) == 0)) && ((rootUpF0 17) == 5)) && ((rootUpF1 17) == 0)) && ((floorF1 1 0) == 2)) := by kernel_rfl
theorem wakes01C_holds : wakes01C.holds Try.prog := conOf_holds (cons_holds floorC_holds (cons_holds ceilC_holds (cons_holds rootC_holds (cons_holds rootUpC_holds nil_holds)))) _ _ _ _ _ (by kernel_rfl)

/-! footpath/footpathlaw01.WholeConfig -/
noncomputable def wholeConfigC : Con := conOf Try.prog [checkC, checkRC, wakes01C] 4000 7 [(some 0, [.i, .i, .i, .i, .i, .i, .i])] false [bool1]
noncomputable def wholeConfigF (a_Clear : Int) (a_Climb : Int) (a_Height : Int) (a_Rise : Int) (a_Run : Int) (a_W : Int) (a_D : Int) : Bool := wholeConfigC.fb [.int .i64 a_Clear, .int .i64 a_Climb, .int .i64 a_Height, .int .i64 a_Rise, .int .i64 a_Run, .int .i64 a_W, .int .i64 a_D] 0
theorem wholeConfigF_eq (a_Clear : Int) (a_Climb : Int) (a_Height : Int) (a_Rise : Int) (a_Run : Int) (a_W : Int) (a_D : Int) : wholeConfigF a_Clear a_Climb a_Height a_Rise a_Run a_W a_D = (((checkF a_Clear a_Climb a_Height a_Rise a_Run a_W a_D) == (checkRF a_Clear a_Climb a_Height a_Rise a_Run a_W a_D)) && wakes01F) := by kernel_rfl
theorem wholeConfigC_holds : wholeConfigC.holds Try.prog := conOf_holds (cons_holds checkC_holds (cons_holds checkRC_holds (cons_holds wakes01C_holds nil_holds))) _ _ _ _ _ (by kernel_rfl)

/-! footpath/footpathlaw01.WholeMod -/
noncomputable def wholeModC : Con := conOf Try.prog [wakes01C, modC, floorC] 4000 9 [int1, int1, int1] false [bool1]
noncomputable def wholeModF (a : Int) (b : Int) (c : Int) : Bool := wholeModC.fb [.int .i64 a, .int .i64 b, .int .i64 c] 0
theorem wholeModF_eq (a : Int) (b : Int) (c : Int) : wholeModF a b c = (bif (((((decide (a < (-1073741824)) || decide (1073741824 < a)) || decide (b < 1)) || decide (1073741824 < b)) || decide (c < (-1000))) || decide (1000 < c)) then wakes01F else (bif ((((!(((modF1 a b) == 0)) || !(((modF1 (w64 (a + w64 (b * c))) b) == 0))) || !(((floorF1 a b) == 0))) || decide (floorF0 a b < (-1073741824))) || decide (1073741824 < floorF0 a b)) then false else ((((modF0 a b) == (modF0 (w64 (a + w64 (b * c))) b)) && ((modF0 a b) == (w64 (a - w64 (b * floorF0 a b))))) && wakes01F))) := by kernel_rfl
theorem wholeModC_holds : wholeModC.holds Try.prog := conOf_holds (cons_holds wakes01C_holds (cons_holds modC_holds (cons_holds floorC_holds nil_holds))) _ _ _ _ _ (by kernel_rfl)

/-! footpath/footpathlaw01.WholeCross -/
noncomputable def wholeCrossC : Con := conOf Try.prog [crossC, wakes01C] 4000 10 [int1, int1, int1, int1] false [bool1]
noncomputable def wholeCrossF (a : Int) (b : Int) (c : Int) (d : Int) : Bool := wholeCrossC.fb [.int .i64 a, .int .i64 b, .int .i64 c, .int .i64 d] 0
theorem wholeCrossF_eq (a : Int) (b : Int) (c : Int) (d : Int) : wholeCrossF a b c d = ((((((crossF0 a b c d) == (w64 (0 - crossF0 c d a b))) && ((crossF1 a b c d) == (crossF1 c d a b))) && ((crossF0 a b a b) == 0)) && (!(((crossF1 a b c d) == 0)) || ((crossF1 a b a b) == 0))) && wakes01F) := by kernel_rfl
theorem wholeCrossC_holds : wholeCrossC.holds Try.prog := conOf_holds (cons_holds crossC_holds (cons_holds wakes01C_holds nil_holds)) _ _ _ _ _ (by kernel_rfl)

/-! footpath/footpathlaw01.WholeTells -/
noncomputable def wholeTellsC : Con := conOf Try.prog [floorC, rFloorC, ceilC, rCeilC, signC, rSignC, modC, rModC, crossC, rCrossC, rootC, rRootC, rootUpC, rRootUpC, wakes01C] 4000 18 [int1, int1, int1, int1] false [bool1]
noncomputable def wholeTellsF (a : Int) (b : Int) (c : Int) (d : Int) : Bool := wholeTellsC.fb [.int .i64 a, .int .i64 b, .int .i64 c, .int .i64 d] 0
theorem wholeTellsF_eq (a : Int) (b : Int) (c : Int) (d : Int) : wholeTellsF a b c d = (bif ((((!(((floorF0 a b) == (rFloorF0 a b))) || !(((floorF1 a b) == (rFloorF1 a b)))) || !(((ceilF0 a b) == (rCeilF0 a b)))) || !(((ceilF1 a b) == (rCeilF1 a b)))) || !(((signF a) == (rSignF a)))) then false else (bif (((!(((modF0 a b) == (rModF0 a b))) || !(((modF1 a b) == (rModF1 a b)))) || !(((crossF0 a b c d) == (rCrossF0 a b c d)))) || !(((crossF1 a b c d) == (rCrossF1 a b c d)))) then false else ((((((rootF0 a) == (rRootF0 a)) && ((rootF1 a) == (rRootF1 a))) && ((rootUpF0 a) == (rRootUpF0 a))) && ((rootUpF1 a) == (rRootUpF1 a))) && wakes01F))) := by kernel_rfl
theorem wholeTellsC_holds : wholeTellsC.holds Try.prog := conOf_holds (cons_holds floorC_holds (cons_holds rFloorC_holds (cons_holds ceilC_holds (cons_holds rCeilC_holds (cons_holds signC_holds (cons_holds rSignC_holds (cons_holds modC_holds (cons_holds rModC_holds (cons_holds crossC_holds (cons_holds rCrossC_holds (cons_holds rootC_holds (cons_holds rRootC_holds (cons_holds rootUpC_holds (cons_holds rRootUpC_holds (cons_holds wakes01C_holds nil_holds))))))))))))))) _ _ _ _ _ (by kernel_rfl)

end Go.Proofs.Yteneneadfpkahaa
