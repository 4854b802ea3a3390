/- Contracts of the functions that the claim reaches, as the symbolic executor tells them. No conditions. -/
import Derived.Test.YtpbpbijjkmjjjaaProg
import Derived.Test.YtpbpbijjkmjjjaaSxCon
set_option linter.unusedSimpArgs false
set_option linter.unusedVariables false
namespace Go.Proofs.Ytpbpbijjkmjjjaa
open Go Go.RowKit Go.Sx
set_option maxRecDepth 100000
set_option linter.unusedVariables false

/-! footpath/whole.in[int] -/
noncomputable def wInC : Con := conOf Try.prog [] 4000 69 [int1, int1, int1] false [int1]
noncomputable def wInF (a : Int) (b : Int) (c : Int) : Int := wInC.fi [.int .i64 a, .int .i64 b, .int .i64 c] 0
theorem wInF_eq (a : Int) (b : Int) (c : Int) : wInF a b c = min (max a b) c := by kernel_rfl
theorem wInC_holds : wInC.holds Try.prog := conOf_holds nil_holds _ _ _ _ _ (by kernel_rfl)

/-! footpath/whole.Check -/
noncomputable def checkC : Con := conOf Try.prog [wInC] 4000 37 [(some 0, [.i, .i, .i, .i, .i, .i, .i])] false [int1]
noncomputable def checkF (a_Clear : Int) (a_Climb : Int) (a_Height : Int) (a_Rise : Int) (a_Run : Int) (a_W : Int) (a_D : Int) : Int := checkC.fi [.int .i64 a_Clear, .int .i64 a_Climb, .int .i64 a_Height, .int .i64 a_Rise, .int .i64 a_Run, .int .i64 a_W, .int .i64 a_D] 0
theorem checkF_eq (a_Clear : Int) (a_Climb : Int) (a_Height : Int) (a_Rise : Int) (a_Run : Int) (a_W : Int) (a_D : Int) : checkF a_Clear a_Climb a_Height a_Rise a_Run a_W a_D = (bif !((a_Clear == (wInF a_Clear 0 3))) then 20 else (bif !((a_Climb == (wInF a_Climb 0 8))) then 20 else (bif decide (a_Height ≤ a_Climb) then 20 else (bif decide (32 < a_Height) then 20 else (bif !((a_Rise == (wInF a_Rise 0 100))) then 20 else (bif !((a_Run == (wInF a_Run 1 100))) then 20 else (bif !((a_W == (wInF a_W 1 32))) then 20 else (bif !((a_D == (wInF a_D 1 32))) then 20 else 0)))))))) := by kernel_rfl
theorem checkC_holds : checkC.holds Try.prog := conOf_holds (cons_holds wInC_holds nil_holds) _ _ _ _ _ (by kernel_rfl)

/-! footpath/footpathref01.Check -/
noncomputable def checkRC : Con := conOf Try.prog [] 4000 10 [(some 0, [.i, .i, .i, .i, .i, .i, .i])] false [int1]
noncomputable def checkRF (a_Clear : Int) (a_Climb : Int) (a_Height : Int) (a_Rise : Int) (a_Run : Int) (a_W : Int) (a_D : Int) : Int := checkRC.fi [.int .i64 a_Clear, .int .i64 a_Climb, .int .i64 a_Height, .int .i64 a_Rise, .int .i64 a_Run, .int .i64 a_W, .int .i64 a_D] 0
theorem checkRF_eq (a_Clear : Int) (a_Climb : Int) (a_Height : Int) (a_Rise : Int) (a_Run : Int) (a_W : Int) (a_D : Int) : checkRF a_Clear a_Climb a_Height a_Rise a_Run a_W a_D = (bif (((((((((((((decide (a_Clear < 0) || decide (3 < a_Clear)) || decide (a_Climb < 0)) || decide (8 < a_Climb)) || decide (a_Height ≤ a_Climb)) || decide (32 < a_Height)) || decide (a_Rise < 0)) || decide (100 < a_Rise)) || decide (a_Run < 1)) || decide (100 < a_Run)) || decide (a_W < 1)) || decide (32 < a_W)) || decide (a_D < 1)) || decide (32 < a_D)) then 20 else 0) := by kernel_rfl
theorem checkRC_holds : checkRC.holds Try.prog := conOf_holds nil_holds _ _ _ _ _ (by kernel_rfl)

/-! footpath/whole.Cross -/
noncomputable def crossC : Con := conOf Try.prog [wInC] 4000 44 [int1, int1, int1, int1] true [int1, int1]
noncomputable def crossF0 (a : Int) (b : Int) (c : Int) (d : Int) : Int := crossC.fi [.int .i64 a, .int .i64 b, .int .i64 c, .int .i64 d] 0
theorem crossF0_eq (a : Int) (b : Int) (c : Int) (d : Int) : crossF0 a b c d = (bif !((a == (wInF a (-1073741824) 1073741824))) then 0 else (bif !((b == (wInF b (-1073741824) 1073741824))) then 0 else (bif !((c == (wInF c (-1073741824) 1073741824))) then 0 else (bif !((d == (wInF d (-1073741824) 1073741824))) then 0 else w64 (w64 (a * d) - w64 (b * c)))))) := by kernel_rfl
noncomputable def crossF1 (a : Int) (b : Int) (c : Int) (d : Int) : Int := crossC.fi [.int .i64 a, .int .i64 b, .int .i64 c, .int .i64 d] 1
theorem crossF1_eq (a : Int) (b : Int) (c : Int) (d : Int) : crossF1 a b c d = (bif !((a == (wInF a (-1073741824) 1073741824))) then 2 else (bif !((b == (wInF b (-1073741824) 1073741824))) then 2 else (bif !((c == (wInF c (-1073741824) 1073741824))) then 2 else (bif !((d == (wInF d (-1073741824) 1073741824))) then 2 else 0)))) := by kernel_rfl
theorem crossC_holds : crossC.holds Try.prog := conOf_holds (cons_holds wInC_holds nil_holds) _ _ _ _ _ (by kernel_rfl)

/-! footpath/soup.height -/
noncomputable def heightC : Con := conOf Try.prog [] 4000 43 [int1] false [bool1]
noncomputable def heightF (a : Int) : Bool := heightC.fb [.int .i64 a] 0
theorem heightF_eq (a : Int) : heightF a = (decide ((-2048) ≤ a) && decide (a ≤ 2048)) := by kernel_rfl
theorem heightC_holds : heightC.holds Try.prog := conOf_holds nil_holds _ _ _ _ _ (by kernel_rfl)

/-! footpath/footpathlaw05.config -/
noncomputable def cfg5C : Con := conOf Try.prog [] 4000 13 [] false [(some 0, [.i, .i, .i, .i, .i, .i, .i])]
noncomputable def cfg5F0 : Int := cfg5C.fi [] 0
theorem cfg5F0_eq : cfg5F0 = 0 := by kernel_rfl
noncomputable def cfg5F1 : Int := cfg5C.fi [] 1
theorem cfg5F1_eq : cfg5F1 = 1 := by kernel_rfl
noncomputable def cfg5F2 : Int := cfg5C.fi [] 2
theorem cfg5F2_eq : cfg5F2 = 3 := by kernel_rfl
noncomputable def cfg5F3 : Int := cfg5C.fi [] 3
theorem cfg5F3_eq : cfg5F3 = 1 := by kernel_rfl
noncomputable def cfg5F4 : Int := cfg5C.fi [] 4
theorem cfg5F4_eq : cfg5F4 = 1 := by kernel_rfl
noncomputable def cfg5F5 : Int := cfg5C.fi [] 5
theorem cfg5F5_eq : cfg5F5 = 8 := by kernel_rfl
noncomputable def cfg5F6 : Int := cfg5C.fi [] 6
theorem cfg5F6_eq : cfg5F6 = 8 := by kernel_rfl
theorem cfg5C_holds : cfg5C.holds Try.prog := conOf_holds nil_holds _ _ _ _ _ (by kernel_rfl)

/-! footpath/footpathlaw05.one -/
noncomputable def one5C : Con := conOf Try.prog [] 4000 14 [int1] false [(some 0, [.i, .i, .i, .i, .i, .i, .i, .i, .i, .i])]
noncomputable def one5F0 (a : Int) : Int := one5C.fi [.int .i64 a] 0
theorem one5F0_eq (a : Int) : one5F0 a = a := by kernel_rfl
noncomputable def one5F1 (a : Int) : Int := one5C.fi [.int .i64 a] 1
theorem one5F1_eq (a : Int) : one5F1 a = 0 := by kernel_rfl
noncomputable def one5F2 (a : Int) : Int := one5C.fi [.int .i64 a] 2
theorem one5F2_eq (a : Int) : one5F2 a = 0 := by kernel_rfl
noncomputable def one5F3 (a : Int) : Int := one5C.fi [.int .i64 a] 3
theorem one5F3_eq (a : Int) : one5F3 a = 0 := by kernel_rfl
noncomputable def one5F4 (a : Int) : Int := one5C.fi [.int .i64 a] 4
theorem one5F4_eq (a : Int) : one5F4 a = 2 := by kernel_rfl
noncomputable def one5F5 (a : Int) : Int := one5C.fi [.int .i64 a] 5
theorem one5F5_eq (a : Int) : one5F5 a = 0 := by kernel_rfl
noncomputable def one5F6 (a : Int) : Int := one5C.fi [.int .i64 a] 6
theorem one5F6_eq (a : Int) : one5F6 a = 0 := by kernel_rfl
noncomputable def one5F7 (a : Int) : Int := one5C.fi [.int .i64 a] 7
theorem one5F7_eq (a : Int) : one5F7 a = 0 := by kernel_rfl
noncomputable def one5F8 (a : Int) : Int := one5C.fi [.int .i64 a] 8
theorem one5F8_eq (a : Int) : one5F8 a = 0 := by kernel_rfl
noncomputable def one5F9 (a : Int) : Int := one5C.fi [.int .i64 a] 9
theorem one5F9_eq (a : Int) : one5F9 a = 2 := by kernel_rfl
theorem one5C_holds : one5C.holds Try.prog := conOf_holds nil_holds _ _ _ _ _ (by kernel_rfl)

end Go.Proofs.Ytpbpbijjkmjjjaa
