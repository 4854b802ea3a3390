/- Contracts of the functions that the claim reaches, as the symbolic executor tells them. No conditions. -/
import Derived.Test.YteneneadfpkahaaProg
import Derived.Test.YteneneadfpkahaaSxCon
import Derived.Test.YteneneadfpkahaaWh
namespace Go.Proofs.Yteneneadfpkahaa
open Go Go.RowKit Go.Sx
set_option maxRecDepth 100000
set_option linter.unusedVariables false

/-! footpath/footpathlaw02.at -/
noncomputable def at2C : Con := conOf Try.prog [] 4000 88 [int1, int1] false [(some 0, [.i, .i])]
noncomputable def at2F0 (a : Int) (b : Int) : Int := at2C.fi [.int .i64 a, .int .i64 b] 0
theorem at2F0_eq (a : Int) (b : Int) : at2F0 a b = a := by kernel_rfl
noncomputable def at2F1 (a : Int) (b : Int) : Int := at2C.fi [.int .i64 a, .int .i64 b] 1
theorem at2F1_eq (a : Int) (b : Int) : at2F1 a b = b := by kernel_rfl
theorem at2C_holds : at2C.holds Try.prog := conOf_holds nil_holds _ _ _ _ _ (by kernel_rfl)

/-! footpath/footpathlaw02.small -/
noncomputable def smallC : Con := conOf Try.prog [at2C] 4000 39 [(some 0, [.i, .i])] false [(some 0, [.i, .i])]
noncomputable def smallF0 (a_X : Int) (a_Z : Int) : Int := smallC.fi [.int .i64 a_X, .int .i64 a_Z] 0
theorem smallF0_eq (a_X : Int) (a_Z : Int) : smallF0 a_X a_Z = at2F0 (Int.tmod a_X 262144) (Int.tmod a_Z 262144) := by kernel_rfl
noncomputable def smallF1 (a_X : Int) (a_Z : Int) : Int := smallC.fi [.int .i64 a_X, .int .i64 a_Z] 1
theorem smallF1_eq (a_X : Int) (a_Z : Int) : smallF1 a_X a_Z = at2F1 (Int.tmod a_X 262144) (Int.tmod a_Z 262144) := by kernel_rfl
theorem smallC_holds : smallC.holds Try.prog := conOf_holds (cons_holds at2C_holds nil_holds) _ _ _ _ _ (by kernel_rfl)

/-! footpath/footpathlaw02.add -/
noncomputable def add2C : Con := conOf Try.prog [at2C] 4000 41 [(some 0, [.i, .i]), (some 0, [.i, .i])] false [(some 0, [.i, .i])]
noncomputable def add2F0 (a_X : Int) (a_Z : Int) (b_X : Int) (b_Z : Int) : Int := add2C.fi [.int .i64 a_X, .int .i64 a_Z, .int .i64 b_X, .int .i64 b_Z] 0
theorem add2F0_eq (a_X : Int) (a_Z : Int) (b_X : Int) (b_Z : Int) : add2F0 a_X a_Z b_X b_Z = at2F0 (w64 (a_X + b_X)) (w64 (a_Z + b_Z)) := by kernel_rfl
noncomputable def add2F1 (a_X : Int) (a_Z : Int) (b_X : Int) (b_Z : Int) : Int := add2C.fi [.int .i64 a_X, .int .i64 a_Z, .int .i64 b_X, .int .i64 b_Z] 1
theorem add2F1_eq (a_X : Int) (a_Z : Int) (b_X : Int) (b_Z : Int) : add2F1 a_X a_Z b_X b_Z = at2F1 (w64 (a_X + b_X)) (w64 (a_Z + b_Z)) := by kernel_rfl
theorem add2C_holds : add2C.holds Try.prog := conOf_holds (cons_holds at2C_holds nil_holds) _ _ _ _ _ (by kernel_rfl)

/-! footpath/footpathlaw02.back -/
noncomputable def back2C : Con := conOf Try.prog [at2C] 4000 42 [(some 0, [.i, .i])] false [(some 0, [.i, .i])]
noncomputable def back2F0 (a_X : Int) (a_Z : Int) : Int := back2C.fi [.int .i64 a_X, .int .i64 a_Z] 0
theorem back2F0_eq (a_X : Int) (a_Z : Int) : back2F0 a_X a_Z = at2F0 (w64 (0 - a_X)) (w64 (0 - a_Z)) := by kernel_rfl
noncomputable def back2F1 (a_X : Int) (a_Z : Int) : Int := back2C.fi [.int .i64 a_X, .int .i64 a_Z] 1
theorem back2F1_eq (a_X : Int) (a_Z : Int) : back2F1 a_X a_Z = at2F1 (w64 (0 - a_X)) (w64 (0 - a_Z)) := by kernel_rfl
theorem back2C_holds : back2C.holds Try.prog := conOf_holds (cons_holds at2C_holds nil_holds) _ _ _ _ _ (by kernel_rfl)

/-! footpath/geom.in -/
noncomputable def ginC : Con := conOf Try.prog [] 4000 89 [(some 0, [.i, .i])] false [(some 0, [.i, .i])]
noncomputable def ginF0 (a_X : Int) (a_Z : Int) : Int := ginC.fi [.int .i64 a_X, .int .i64 a_Z] 0
theorem ginF0_eq (a_X : Int) (a_Z : Int) : ginF0 a_X a_Z = min (max a_X (-1048576)) 1048576 := by kernel_rfl
noncomputable def ginF1 (a_X : Int) (a_Z : Int) : Int := ginC.fi [.int .i64 a_X, .int .i64 a_Z] 1
theorem ginF1_eq (a_X : Int) (a_Z : Int) : ginF1 a_X a_Z = min (max a_Z (-1048576)) 1048576 := by kernel_rfl
theorem ginC_holds : ginC.holds Try.prog := conOf_holds nil_holds _ _ _ _ _ (by kernel_rfl)

/-! footpath/geom.between -/
noncomputable def betweenC : Con := conOf Try.prog [] 4000 90 [int1, int1, int1] false [bool1]
noncomputable def betweenF (a : Int) (b : Int) (c : Int) : Bool := betweenC.fb [.int .i64 a, .int .i64 b, .int .i64 c] 0
theorem betweenF_eq (a : Int) (b : Int) (c : Int) : betweenF a b c = (decide (min a b ≤ c) && decide (c ≤ max a b)) := by kernel_rfl
theorem betweenC_holds : betweenC.holds Try.prog := conOf_holds nil_holds _ _ _ _ _ (by kernel_rfl)

/-! footpath/geom.Turn -/
noncomputable def turnC : Con := conOf Try.prog [ginC, signC] 4000 40 [(some 0, [.i, .i]), (some 0, [.i, .i]), (some 0, [.i, .i])] false [int1]
noncomputable def turnF (a_X : Int) (a_Z : Int) (b_X : Int) (b_Z : Int) (c_X : Int) (c_Z : Int) : Int := turnC.fi [.int .i64 a_X, .int .i64 a_Z, .int .i64 b_X, .int .i64 b_Z, .int .i64 c_X, .int .i64 c_Z] 0
theorem turnF_eq (a_X : Int) (a_Z : Int) (b_X : Int) (b_Z : Int) (c_X : Int) (c_Z : Int) : turnF a_X a_Z b_X b_Z c_X c_Z = signF (w64 (w64 (w64 (0 + w64 (w64 (ginF0 a_X a_Z * ginF1 b_X b_Z) - w64 (ginF1 a_X a_Z * ginF0 b_X b_Z))) + w64 (w64 (ginF0 b_X b_Z * ginF1 c_X c_Z) - w64 (ginF1 b_X b_Z * ginF0 c_X c_Z))) + w64 (w64 (ginF0 c_X c_Z * ginF1 a_X a_Z) - w64 (ginF1 c_X c_Z * ginF0 a_X a_Z)))) := by kernel_rfl
theorem turnC_holds : turnC.holds Try.prog := conOf_holds (cons_holds ginC_holds (cons_holds signC_holds nil_holds)) _ _ _ _ _ (by kernel_rfl)

/-! footpath/geom.On -/
noncomputable def onC : Con := conOf Try.prog [ginC, turnC, betweenC] 4000 44 [(some 0, [.i, .i]), (some 0, [.i, .i]), (some 0, [.i, .i])] false [bool1]
noncomputable def onF (a_X : Int) (a_Z : Int) (b_X : Int) (b_Z : Int) (c_X : Int) (c_Z : Int) : Bool := onC.fb [.int .i64 a_X, .int .i64 a_Z, .int .i64 b_X, .int .i64 b_Z, .int .i64 c_X, .int .i64 c_Z] 0
theorem onF_eq (a_X : Int) (a_Z : Int) (b_X : Int) (b_Z : Int) (c_X : Int) (c_Z : Int) : onF a_X a_Z b_X b_Z c_X c_Z = ((((turnF (ginF0 a_X a_Z) (ginF1 a_X a_Z) (ginF0 b_X b_Z) (ginF1 b_X b_Z) (ginF0 c_X c_Z) (ginF1 c_X c_Z)) == 0) && betweenF (ginF0 a_X a_Z) (ginF0 b_X b_Z) (ginF0 c_X c_Z)) && betweenF (ginF1 a_X a_Z) (ginF1 b_X b_Z) (ginF1 c_X c_Z)) := by kernel_rfl
theorem onC_holds : onC.holds Try.prog := conOf_holds (cons_holds ginC_holds (cons_holds turnC_holds (cons_holds betweenC_holds nil_holds))) _ _ _ _ _ (by kernel_rfl)

/-! footpath/geom.Far -/
noncomputable def farC : Con := conOf Try.prog [ginC] 4000 45 [(some 0, [.i, .i]), (some 0, [.i, .i])] false [int1]
noncomputable def farF (a_X : Int) (a_Z : Int) (b_X : Int) (b_Z : Int) : Int := farC.fi [.int .i64 a_X, .int .i64 a_Z, .int .i64 b_X, .int .i64 b_Z] 0
theorem farF_eq (a_X : Int) (a_Z : Int) (b_X : Int) (b_Z : Int) : farF a_X a_Z b_X b_Z = w64 (w64 (w64 (ginF0 a_X a_Z - ginF0 b_X b_Z) * w64 (ginF0 a_X a_Z - ginF0 b_X b_Z)) + w64 (w64 (ginF1 a_X a_Z - ginF1 b_X b_Z) * w64 (ginF1 a_X a_Z - ginF1 b_X b_Z))) := by kernel_rfl
theorem farC_holds : farC.holds Try.prog := conOf_holds (cons_holds ginC_holds nil_holds) _ _ _ _ _ (by kernel_rfl)

/-! footpath/geom.Meet -/
noncomputable def gmeetC : Con := conOf Try.prog [onC, turnC] 4000 43 [(some 0, [.i, .i]), (some 0, [.i, .i]), (some 0, [.i, .i]), (some 0, [.i, .i])] false [bool1]
noncomputable def gmeetF (a_X : Int) (a_Z : Int) (b_X : Int) (b_Z : Int) (c_X : Int) (c_Z : Int) (d_X : Int) (d_Z : Int) : Bool := gmeetC.fb [.int .i64 a_X, .int .i64 a_Z, .int .i64 b_X, .int .i64 b_Z, .int .i64 c_X, .int .i64 c_Z, .int .i64 d_X, .int .i64 d_Z] 0
theorem gmeetF_eq (a_X : Int) (a_Z : Int) (b_X : Int) (b_Z : Int) (c_X : Int) (c_Z : Int) (d_X : Int) (d_Z : Int) : gmeetF a_X a_Z b_X b_Z c_X c_Z d_X d_Z = (bif (((onF a_X a_Z b_X b_Z c_X c_Z || onF a_X a_Z b_X b_Z d_X d_Z) || onF c_X c_Z d_X d_Z a_X a_Z) || onF c_X c_Z d_X d_Z b_X b_Z) then true else (decide (w64 (turnF a_X a_Z b_X b_Z c_X c_Z * turnF a_X a_Z b_X b_Z d_X d_Z) < 0) && decide (w64 (turnF c_X c_Z d_X d_Z a_X a_Z * turnF c_X c_Z d_X d_Z b_X b_Z) < 0))) := by kernel_rfl
theorem gmeetC_holds : gmeetC.holds Try.prog := conOf_holds (cons_holds onC_holds (cons_holds turnC_holds nil_holds)) _ _ _ _ _ (by kernel_rfl)

/-! footpath/geom.Touch -/
noncomputable def gtouchC : Con := conOf Try.prog [ginC, betweenC, gmeetC] 4000 91 [(some 0, [.i, .i]), (some 0, [.i, .i]), int1, int1, int1, int1] false [bool1]
noncomputable def gtouchF (a_X : Int) (a_Z : Int) (b_X : Int) (b_Z : Int) (c : Int) (d : Int) (e : Int) (f : Int) : Bool := gtouchC.fb [.int .i64 a_X, .int .i64 a_Z, .int .i64 b_X, .int .i64 b_Z, .int .i64 c, .int .i64 d, .int .i64 e, .int .i64 f] 0
theorem gtouchF_eq (a_X : Int) (a_Z : Int) (b_X : Int) (b_Z : Int) (c : Int) (d : Int) (e : Int) (f : Int) : gtouchF a_X a_Z b_X b_Z c d e f = (bif (decide (e < c) || decide (f < d)) then false else (bif (betweenF (ginF0 c d) (ginF0 e f) (ginF0 a_X a_Z) && betweenF (ginF1 c d) (ginF1 e f) (ginF1 a_X a_Z)) then true else (bif gmeetF (ginF0 a_X a_Z) (ginF1 a_X a_Z) b_X b_Z (ginF0 c d) (ginF1 c d) (ginF0 e f) (ginF1 c d) then true else (bif gmeetF (ginF0 a_X a_Z) (ginF1 a_X a_Z) b_X b_Z (ginF0 e f) (ginF1 c d) (ginF0 e f) (ginF1 e f) then true else (bif gmeetF (ginF0 a_X a_Z) (ginF1 a_X a_Z) b_X b_Z (ginF0 e f) (ginF1 e f) (ginF0 c d) (ginF1 e f) then true else (bif gmeetF (ginF0 a_X a_Z) (ginF1 a_X a_Z) b_X b_Z (ginF0 c d) (ginF1 e f) (ginF0 c d) (ginF1 c d) then true else false)))))) := by kernel_rfl
theorem gtouchC_holds : gtouchC.holds Try.prog := conOf_holds (cons_holds ginC_holds (cons_holds betweenC_holds (cons_holds gmeetC_holds nil_holds))) _ _ _ _ _ (by kernel_rfl)

/-! footpath/footpathlaw02.wakes -/
noncomputable def wakes02C : Con := conOf Try.prog [at2C, turnC, gmeetC, gtouchC, farC] 4000 46 [] false [bool1]
noncomputable def wakes02F : Bool := wakes02C.fb [] 0
theorem wakes02F_eq : wakes02F = ((((((turnF (at2F0 0 0) (at2F1 0 0) (at2F0 2 0) (at2F1 2 0) (at2F0 1 1) (at2F1 1 1)) == 1) && gmeetF (at2F0 0 0) (at2F1 0 0) (at2F0 2 2) (at2F1 2 2) (at2F0 1 1) (at2F1 1 1) (at2F0 5 0) (at2F1 5 0)) && gtouchF (at2F0 0 0) (at2F1 0 0) (at2F0 4 4) (at2F1 4 4) 3 1 5 3) && !(gtouchF (at2F0 0 0) (at2F1 0 0) (at2F0 4 4) (at2F1 4 4) 4 1 6 3)) && ((farF (at2F0 1 1) (at2F1 1 1) (at2F0 4 5) (at2F1 4 5)) == 25)) := by kernel_rfl
theorem wakes02C_holds : wakes02C.holds Try.prog := conOf_holds (cons_holds at2C_holds (cons_holds turnC_holds (cons_holds gmeetC_holds (cons_holds gtouchC_holds (cons_holds farC_holds nil_holds))))) _ _ _ _ _ (by kernel_rfl)

/-! footpath/footpathlaw02.GeomSwaps -/
noncomputable def geomSwapsC : Con := conOf Try.prog [smallC, turnC, add2C, back2C, gmeetC, onC, farC, wakes02C] 4000 11 [(some 0, [.i, .i]), (some 0, [.i, .i]), (some 0, [.i, .i]), (some 0, [.i, .i]), (some 0, [.i, .i])] false [bool1]
noncomputable def geomSwapsF (a_X : Int) (a_Z : Int) (b_X : Int) (b_Z : Int) (c_X : Int) (c_Z : Int) (d_X : Int) (d_Z : Int) (e_X : Int) (e_Z : Int) : Bool := geomSwapsC.fb [.int .i64 a_X, .int .i64 a_Z, .int .i64 b_X, .int .i64 b_Z, .int .i64 c_X, .int .i64 c_Z, .int .i64 d_X, .int .i64 d_Z, .int .i64 e_X, .int .i64 e_Z] 0
theorem geomSwapsF_eq (a_X : Int) (a_Z : Int) (b_X : Int) (b_Z : Int) (c_X : Int) (c_Z : Int) (d_X : Int) (d_Z : Int) (e_X : Int) (e_Z : Int) : geomSwapsF a_X a_Z b_X b_Z c_X c_Z d_X d_Z e_X e_Z = (bif ((((!(((turnF (smallF0 b_X b_Z) (smallF1 b_X b_Z) (smallF0 a_X a_Z) (smallF1 a_X a_Z) (smallF0 c_X c_Z) (smallF1 c_X c_Z)) == (w64 (0 - turnF (smallF0 a_X a_Z) (smallF1 a_X a_Z) (smallF0 b_X b_Z) (smallF1 b_X b_Z) (smallF0 c_X c_Z) (smallF1 c_X c_Z))))) || !(((turnF (smallF0 a_X a_Z) (smallF1 a_X a_Z) (smallF0 c_X c_Z) (smallF1 c_X c_Z) (smallF0 b_X b_Z) (smallF1 b_X b_Z)) == (w64 (0 - turnF (smallF0 a_X a_Z) (smallF1 a_X a_Z) (smallF0 b_X b_Z) (smallF1 b_X b_Z) (smallF0 c_X c_Z) (smallF1 c_X c_Z)))))) || !(((turnF (smallF0 b_X b_Z) (smallF1 b_X b_Z) (smallF0 c_X c_Z) (smallF1 c_X c_Z) (smallF0 a_X a_Z) (smallF1 a_X a_Z)) == (turnF (smallF0 a_X a_Z) (smallF1 a_X a_Z) (smallF0 b_X b_Z) (smallF1 b_X b_Z) (smallF0 c_X c_Z) (smallF1 c_X c_Z))))) || !(((turnF (add2F0 (smallF0 a_X a_Z) (smallF1 a_X a_Z) (smallF0 e_X e_Z) (smallF1 e_X e_Z)) (add2F1 (smallF0 a_X a_Z) (smallF1 a_X a_Z) (smallF0 e_X e_Z) (smallF1 e_X e_Z)) (add2F0 (smallF0 b_X b_Z) (smallF1 b_X b_Z) (smallF0 e_X e_Z) (smallF1 e_X e_Z)) (add2F1 (smallF0 b_X b_Z) (smallF1 b_X b_Z) (smallF0 e_X e_Z) (smallF1 e_X e_Z)) (add2F0 (smallF0 c_X c_Z) (smallF1 c_X c_Z) (smallF0 e_X e_Z) (smallF1 e_X e_Z)) (add2F1 (smallF0 c_X c_Z) (smallF1 c_X c_Z) (smallF0 e_X e_Z) (smallF1 e_X e_Z))) == (turnF (smallF0 a_X a_Z) (smallF1 a_X a_Z) (smallF0 b_X b_Z) (smallF1 b_X b_Z) (smallF0 c_X c_Z) (smallF1 c_X c_Z))))) || !(((turnF (back2F0 (smallF0 a_X a_Z) (smallF1 a_X a_Z)) (back2F1 (smallF0 a_X a_Z) (smallF1 a_X a_Z)) (back2F0 (smallF0 b_X b_Z) (smallF1 b_X b_Z)) (back2F1 (smallF0 b_X b_Z) (smallF1 b_X b_Z)) (back2F0 (smallF0 c_X c_Z) (smallF1 c_X c_Z)) (back2F1 (smallF0 c_X c_Z) (smallF1 c_X c_Z))) == (turnF (smallF0 a_X a_Z) (smallF1 a_X a_Z) (smallF0 b_X b_Z) (smallF1 b_X b_Z) (smallF0 c_X c_Z) (smallF1 c_X c_Z))))) then false else (((((((((gmeetF (smallF0 b_X b_Z) (smallF1 b_X b_Z) (smallF0 a_X a_Z) (smallF1 a_X a_Z) (smallF0 c_X c_Z) (smallF1 c_X c_Z) (smallF0 d_X d_Z) (smallF1 d_X d_Z)) == (gmeetF (smallF0 a_X a_Z) (smallF1 a_X a_Z) (smallF0 b_X b_Z) (smallF1 b_X b_Z) (smallF0 c_X c_Z) (smallF1 c_X c_Z) (smallF0 d_X d_Z) (smallF1 d_X d_Z))) && ((gmeetF (smallF0 a_X a_Z) (smallF1 a_X a_Z) (smallF0 b_X b_Z) (smallF1 b_X b_Z) (smallF0 d_X d_Z) (smallF1 d_X d_Z) (smallF0 c_X c_Z) (smallF1 c_X c_Z)) == (gmeetF (smallF0 a_X a_Z) (smallF1 a_X a_Z) (smallF0 b_X b_Z) (smallF1 b_X b_Z) (smallF0 c_X c_Z) (smallF1 c_X c_Z) (smallF0 d_X d_Z) (smallF1 d_X d_Z)))) && ((gmeetF (smallF0 c_X c_Z) (smallF1 c_X c_Z) (smallF0 d_X d_Z) (smallF1 d_X d_Z) (smallF0 a_X a_Z) (smallF1 a_X a_Z) (smallF0 b_X b_Z) (smallF1 b_X b_Z)) == (gmeetF (smallF0 a_X a_Z) (smallF1 a_X a_Z) (smallF0 b_X b_Z) (smallF1 b_X b_Z) (smallF0 c_X c_Z) (smallF1 c_X c_Z) (smallF0 d_X d_Z) (smallF1 d_X d_Z)))) && ((gmeetF (add2F0 (smallF0 a_X a_Z) (smallF1 a_X a_Z) (smallF0 e_X e_Z) (smallF1 e_X e_Z)) (add2F1 (smallF0 a_X a_Z) (smallF1 a_X a_Z) (smallF0 e_X e_Z) (smallF1 e_X e_Z)) (add2F0 (smallF0 b_X b_Z) (smallF1 b_X b_Z) (smallF0 e_X e_Z) (smallF1 e_X e_Z)) (add2F1 (smallF0 b_X b_Z) (smallF1 b_X b_Z) (smallF0 e_X e_Z) (smallF1 e_X e_Z)) (add2F0 (smallF0 c_X c_Z) (smallF1 c_X c_Z) (smallF0 e_X e_Z) (smallF1 e_X e_Z)) (add2F1 (smallF0 c_X c_Z) (smallF1 c_X c_Z) (smallF0 e_X e_Z) (smallF1 e_X e_Z)) (add2F0 (smallF0 d_X d_Z) (smallF1 d_X d_Z) (smallF0 e_X e_Z) (smallF1 e_X e_Z)) (add2F1 (smallF0 d_X d_Z) (smallF1 d_X d_Z) (smallF0 e_X e_Z) (smallF1 e_X e_Z))) == (gmeetF (smallF0 a_X a_Z) (smallF1 a_X a_Z) (smallF0 b_X b_Z) (smallF1 b_X b_Z) (smallF0 c_X c_Z) (smallF1 c_X c_Z) (smallF0 d_X d_Z) (smallF1 d_X d_Z)))) && onF (smallF0 a_X a_Z) (smallF1 a_X a_Z) (smallF0 b_X b_Z) (smallF1 b_X b_Z) (smallF0 a_X a_Z) (smallF1 a_X a_Z)) && onF (smallF0 a_X a_Z) (smallF1 a_X a_Z) (smallF0 b_X b_Z) (smallF1 b_X b_Z) (smallF0 b_X b_Z) (smallF1 b_X b_Z)) && ((farF (smallF0 a_X a_Z) (smallF1 a_X a_Z) (smallF0 b_X b_Z) (smallF1 b_X b_Z)) == (farF (smallF0 b_X b_Z) (smallF1 b_X b_Z) (smallF0 a_X a_Z) (smallF1 a_X a_Z)))) && wakes02F)) := by kernel_rfl
theorem geomSwapsC_holds : geomSwapsC.holds Try.prog := conOf_holds (cons_holds smallC_holds (cons_holds turnC_holds (cons_holds add2C_holds (cons_holds back2C_holds (cons_holds gmeetC_holds (cons_holds onC_holds (cons_holds farC_holds (cons_holds wakes02C_holds nil_holds)))))))) _ _ _ _ _ (by kernel_rfl)

end Go.Proofs.Yteneneadfpkahaa
