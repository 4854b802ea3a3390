/- Contracts of the functions that the claim reaches, as the symbolic executor tells them. No conditions. -/
import Derived.Test.YtcdfojfafnecdaaProg
import Derived.Test.YtcdfojfafnecdaaSxCon
import Derived.Test.YtcdfojfafnecdaaFp
namespace Go.Proofs.Ytcdfojfafnecdaa
open Go Go.RowKit Go.Sx
set_option maxRecDepth 100000
set_option linter.unusedVariables false

/-! footpath/footpathref13.Linked -/
noncomputable def rlinkedC : Con := conOf Try.prog [checkRC] 4000 46 [(some 0, [.i, .i, .i, .i, .i, .i, .i]), (some 0, [.i, .i, .i]), (some 0, [.i, .i, .i])] false [bool1]
noncomputable def rlinkedF (a_Clear : Int) (a_Climb : Int) (a_Height : Int) (a_Rise : Int) (a_Run : Int) (a_W : Int) (a_D : Int) (b_Y : Int) (b_Top : Int) (b_Area : Int) (c_Y : Int) (c_Top : Int) (c_Area : Int) : Bool := rlinkedC.fb [.int .i64 a_Clear, .int .i64 a_Climb, .int .i64 a_Height, .int .i64 a_Rise, .int .i64 a_Run, .int .i64 a_W, .int .i64 a_D, .int .i64 b_Y, .int .i64 b_Top, .int .i64 b_Area, .int .i64 c_Y, .int .i64 c_Top, .int .i64 c_Area] 0
theorem rlinkedF_eq (a_Clear : Int) (a_Climb : Int) (a_Height : Int) (a_Rise : Int) (a_Run : Int) (a_W : Int) (a_D : Int) (b_Y : Int) (b_Top : Int) (b_Area : Int) (c_Y : Int) (c_Top : Int) (c_Area : Int) : rlinkedF a_Clear a_Climb a_Height a_Rise a_Run a_W a_D b_Y b_Top b_Area c_Y c_Top c_Area = (bif ((!(((checkRF a_Clear a_Climb a_Height a_Rise a_Run a_W a_D) == 0)) || decide (b_Area ≤ 0)) || decide (c_Area ≤ 0)) then false else (bif (((decide (min b_Y c_Y < (-1099511627776)) || decide (1099511627776 < max b_Y c_Y)) || decide (min b_Top c_Top < (-1099511627776))) || decide (1099511627776 < max b_Top c_Top)) then false else (decide (w64 (max b_Y c_Y - min b_Y c_Y) ≤ a_Climb) && decide (a_Height ≤ w64 (min b_Top c_Top - max b_Y c_Y))))) := by kernel_rfl
theorem rlinkedC_holds : rlinkedC.holds Try.prog := conOf_holds (cons_holds checkRC_holds nil_holds) _ _ _ _ _ (by kernel_rfl)

/-! footpath/footpathref13.Step -/
noncomputable def rstepC : Con := conOf Try.prog [] 4000 45 [int1] true [int1, int1, bool1]
noncomputable def rstepF0 (a : Int) : Int := rstepC.fi [.int .i64 a] 0
theorem rstepF0_eq (a : Int) : rstepF0 a = (bif (a == 0) then 1 else (bif (a == 1) then 0 else (bif (a == 2) then (-1) else (bif (a == 3) then 0 else 0)))) := by kernel_rfl
noncomputable def rstepF1 (a : Int) : Int := rstepC.fi [.int .i64 a] 1
theorem rstepF1_eq (a : Int) : rstepF1 a = (bif (a == 0) then 0 else (bif (a == 1) then 1 else (bif (a == 2) then 0 else (bif (a == 3) then (-1) else 0)))) := by kernel_rfl
noncomputable def rstepF2 (a : Int) : Bool := rstepC.fb [.int .i64 a] 2
theorem rstepF2_eq (a : Int) : rstepF2 a = (bif (a == 0) then true else (bif (a == 1) then true else (bif (a == 2) then true else (bif (a == 3) then true else false)))) := by kernel_rfl
theorem rstepC_holds : rstepC.holds Try.prog := conOf_holds nil_holds _ _ _ _ _ (by kernel_rfl)

end Go.Proofs.Ytcdfojfafnecdaa
