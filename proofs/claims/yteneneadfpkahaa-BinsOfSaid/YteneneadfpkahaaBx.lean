/- Contracts of the functions that the claim reaches, as the symbolic executor tells them. No conditions. -/
import Derived.Test.YteneneadfpkahaaProg
import Derived.Test.YteneneadfpkahaaSxCon
import Derived.Test.YteneneadfpkahaaWh
namespace Go.Proofs.Yteneneadfpkahaa
open Go Go.RowKit Go.Sx
set_option maxRecDepth 100000
set_option linter.unusedVariables false

/-! footpath/footpathref05.height -/
noncomputable def rheight5C : Con := conOf Try.prog [] 4000 110 [int1] false [bool1]
noncomputable def rheight5F (a : Int) : Bool := rheight5C.fb [.int .i64 a] 0
theorem rheight5F_eq (a : Int) : rheight5F a = (decide ((-2048) ≤ a) && decide (a ≤ 2048)) := by kernel_rfl
theorem rheight5C_holds : rheight5C.holds Try.prog := conOf_holds nil_holds _ _ _ _ _ (by kernel_rfl)

/-! footpath/footpathref05.MayBox -/
noncomputable def mayBoxC : Con := conOf Try.prog [rheight5C] 4000 105 [(some 0, [.i, .i, .i, .i, .i, .i, .i]), (some 0, [.i, .i, .i, .i, .i, .i, .i, .i])] false [bool1]
noncomputable def mayBoxF (a_Clear : Int) (a_Climb : Int) (a_Height : Int) (a_Rise : Int) (a_Run : Int) (a_W : Int) (a_D : Int) (b_Id : Int) (b_X0 : Int) (b_Z0 : Int) (b_X1 : Int) (b_Z1 : Int) (b_Y0 : Int) (b_Y1 : Int) (b_Area : Int) : Bool := mayBoxC.fb [.int .i64 a_Clear, .int .i64 a_Climb, .int .i64 a_Height, .int .i64 a_Rise, .int .i64 a_Run, .int .i64 a_W, .int .i64 a_D, .int .i64 b_Id, .int .i64 b_X0, .int .i64 b_Z0, .int .i64 b_X1, .int .i64 b_Z1, .int .i64 b_Y0, .int .i64 b_Y1, .int .i64 b_Area] 0
theorem mayBoxF_eq (a_Clear : Int) (a_Climb : Int) (a_Height : Int) (a_Rise : Int) (a_Run : Int) (a_W : Int) (a_D : Int) (b_Id : Int) (b_X0 : Int) (b_Z0 : Int) (b_X1 : Int) (b_Z1 : Int) (b_Y0 : Int) (b_Y1 : Int) (b_Area : Int) : mayBoxF a_Clear a_Climb a_Height a_Rise a_Run a_W a_D b_Id b_X0 b_Z0 b_X1 b_Z1 b_Y0 b_Y1 b_Area = ((((((((((decide (0 ≤ b_X0) && decide (b_X0 ≤ b_X1)) && decide (b_X1 < a_W)) && decide (0 ≤ b_Z0)) && decide (b_Z0 ≤ b_Z1)) && decide (b_Z1 < a_D)) && rheight5F b_Y0) && decide (b_Y0 ≤ b_Y1)) && rheight5F b_Y1) && decide (0 ≤ b_Area)) && decide (b_Area ≤ 7)) := by kernel_rfl
theorem mayBoxC_holds : mayBoxC.holds Try.prog := conOf_holds (cons_holds rheight5C_holds nil_holds) _ _ _ _ _ (by kernel_rfl)

end Go.Proofs.Yteneneadfpkahaa
