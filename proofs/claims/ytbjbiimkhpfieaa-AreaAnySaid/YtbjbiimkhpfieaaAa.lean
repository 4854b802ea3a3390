/- Contracts of the functions that the claim reaches, as the symbolic executor tells them. No conditions. -/
import Derived.Test.YtbjbiimkhpfieaaProg
import Derived.Test.YtbjbiimkhpfieaaSxCon
import Derived.Test.YtbjbiimkhpfieaaLi
namespace Go.Proofs.Ytbjbiimkhpfieaa
open Go Go.RowKit Go.Sx
set_option maxRecDepth 100000
set_option linter.unusedVariables false

/-! footpath/bins.tiles -/
noncomputable def tilesC : Con := conOf Try.prog [checkC] 4000 55 [(some 0, [.i, .i, .i, .i, .i, .i, .i])] true [int1, int1]
noncomputable def tilesF0 (a_Clear : Int) (a_Climb : Int) (a_Height : Int) (a_Rise : Int) (a_Run : Int) (a_W : Int) (a_D : Int) : Int := tilesC.fi [.int .i64 a_Clear, .int .i64 a_Climb, .int .i64 a_Height, .int .i64 a_Rise, .int .i64 a_Run, .int .i64 a_W, .int .i64 a_D] 0
theorem tilesF0_eq (a_Clear : Int) (a_Climb : Int) (a_Height : Int) (a_Rise : Int) (a_Run : Int) (a_W : Int) (a_D : Int) : tilesF0 a_Clear a_Climb a_Height a_Rise a_Run a_W a_D = (bif !(((checkF a_Clear a_Climb a_Height a_Rise a_Run a_W a_D) == 0)) then 0 else w64 (w64 (Int.tdiv (w64 (a_W - 1)) 8) + 1)) := by kernel_rfl
noncomputable def tilesF1 (a_Clear : Int) (a_Climb : Int) (a_Height : Int) (a_Rise : Int) (a_Run : Int) (a_W : Int) (a_D : Int) : Int := tilesC.fi [.int .i64 a_Clear, .int .i64 a_Climb, .int .i64 a_Height, .int .i64 a_Rise, .int .i64 a_Run, .int .i64 a_W, .int .i64 a_D] 1
theorem tilesF1_eq (a_Clear : Int) (a_Climb : Int) (a_Height : Int) (a_Rise : Int) (a_Run : Int) (a_W : Int) (a_D : Int) : tilesF1 a_Clear a_Climb a_Height a_Rise a_Run a_W a_D = (bif !(((checkF a_Clear a_Climb a_Height a_Rise a_Run a_W a_D) == 0)) then 0 else w64 (w64 (Int.tdiv (w64 (a_D - 1)) 8) + 1)) := by kernel_rfl
theorem tilesC_holds : tilesC.holds Try.prog := conOf_holds (cons_holds checkC_holds nil_holds) _ _ _ _ _ (by kernel_rfl)

/-! (footpath/bins.stretch).empty -/
noncomputable def emptyC : Con := conOf Try.prog [] 4000 43 [(some 0, [.i, .i, .i, .i])] false [bool1]
noncomputable def emptyF (a_x0 : Int) (a_z0 : Int) (a_x1 : Int) (a_z1 : Int) : Bool := emptyC.fb [.int .i64 a_x0, .int .i64 a_z0, .int .i64 a_x1, .int .i64 a_z1] 0
theorem emptyF_eq (a_x0 : Int) (a_z0 : Int) (a_x1 : Int) (a_z1 : Int) : emptyF a_x0 a_z0 a_x1 a_z1 = (decide (a_x1 < a_x0) || decide (a_z1 < a_z0)) := by kernel_rfl
theorem emptyC_holds : emptyC.holds Try.prog := conOf_holds nil_holds _ _ _ _ _ (by kernel_rfl)

/-! (footpath/bins.stretch).meet -/
noncomputable def meetC : Con := conOf Try.prog [] 4000 44 [(some 0, [.i, .i, .i, .i]), (some 0, [.i, .i, .i, .i])] false [(some 0, [.i, .i, .i, .i])]
noncomputable def meetF0 (a_x0 : Int) (a_z0 : Int) (a_x1 : Int) (a_z1 : Int) (b_x0 : Int) (b_z0 : Int) (b_x1 : Int) (b_z1 : Int) : Int := meetC.fi [.int .i64 a_x0, .int .i64 a_z0, .int .i64 a_x1, .int .i64 a_z1, .int .i64 b_x0, .int .i64 b_z0, .int .i64 b_x1, .int .i64 b_z1] 0
theorem meetF0_eq (a_x0 : Int) (a_z0 : Int) (a_x1 : Int) (a_z1 : Int) (b_x0 : Int) (b_z0 : Int) (b_x1 : Int) (b_z1 : Int) : meetF0 a_x0 a_z0 a_x1 a_z1 b_x0 b_z0 b_x1 b_z1 = max a_x0 b_x0 := by kernel_rfl
noncomputable def meetF1 (a_x0 : Int) (a_z0 : Int) (a_x1 : Int) (a_z1 : Int) (b_x0 : Int) (b_z0 : Int) (b_x1 : Int) (b_z1 : Int) : Int := meetC.fi [.int .i64 a_x0, .int .i64 a_z0, .int .i64 a_x1, .int .i64 a_z1, .int .i64 b_x0, .int .i64 b_z0, .int .i64 b_x1, .int .i64 b_z1] 1
theorem meetF1_eq (a_x0 : Int) (a_z0 : Int) (a_x1 : Int) (a_z1 : Int) (b_x0 : Int) (b_z0 : Int) (b_x1 : Int) (b_z1 : Int) : meetF1 a_x0 a_z0 a_x1 a_z1 b_x0 b_z0 b_x1 b_z1 = max a_z0 b_z0 := by kernel_rfl
noncomputable def meetF2 (a_x0 : Int) (a_z0 : Int) (a_x1 : Int) (a_z1 : Int) (b_x0 : Int) (b_z0 : Int) (b_x1 : Int) (b_z1 : Int) : Int := meetC.fi [.int .i64 a_x0, .int .i64 a_z0, .int .i64 a_x1, .int .i64 a_z1, .int .i64 b_x0, .int .i64 b_z0, .int .i64 b_x1, .int .i64 b_z1] 2
theorem meetF2_eq (a_x0 : Int) (a_z0 : Int) (a_x1 : Int) (a_z1 : Int) (b_x0 : Int) (b_z0 : Int) (b_x1 : Int) (b_z1 : Int) : meetF2 a_x0 a_z0 a_x1 a_z1 b_x0 b_z0 b_x1 b_z1 = min a_x1 b_x1 := by kernel_rfl
noncomputable def meetF3 (a_x0 : Int) (a_z0 : Int) (a_x1 : Int) (a_z1 : Int) (b_x0 : Int) (b_z0 : Int) (b_x1 : Int) (b_z1 : Int) : Int := meetC.fi [.int .i64 a_x0, .int .i64 a_z0, .int .i64 a_x1, .int .i64 a_z1, .int .i64 b_x0, .int .i64 b_z0, .int .i64 b_x1, .int .i64 b_z1] 3
theorem meetF3_eq (a_x0 : Int) (a_z0 : Int) (a_x1 : Int) (a_z1 : Int) (b_x0 : Int) (b_z0 : Int) (b_x1 : Int) (b_z1 : Int) : meetF3 a_x0 a_z0 a_x1 a_z1 b_x0 b_z0 b_x1 b_z1 = min a_z1 b_z1 := by kernel_rfl
theorem meetC_holds : meetC.holds Try.prog := conOf_holds nil_holds _ _ _ _ _ (by kernel_rfl)

/-! footpath/bins.padded -/
noncomputable def paddedC : Con := conOf Try.prog [meetC] 4000 56 [(some 0, [.i, .i, .i, .i, .i, .i, .i]), int1, int1] false [(some 0, [.i, .i, .i, .i])]
noncomputable def paddedF0 (a_Clear : Int) (a_Climb : Int) (a_Height : Int) (a_Rise : Int) (a_Run : Int) (a_W : Int) (a_D : Int) (b : Int) (c : Int) : Int := paddedC.fi [.int .i64 a_Clear, .int .i64 a_Climb, .int .i64 a_Height, .int .i64 a_Rise, .int .i64 a_Run, .int .i64 a_W, .int .i64 a_D, .int .i64 b, .int .i64 c] 0
theorem paddedF0_eq (a_Clear : Int) (a_Climb : Int) (a_Height : Int) (a_Rise : Int) (a_Run : Int) (a_W : Int) (a_D : Int) (b : Int) (c : Int) : paddedF0 a_Clear a_Climb a_Height a_Rise a_Run a_W a_D b c = meetF0 (w64 (meetF0 (w64 (b * 8)) (w64 (c * 8)) (w64 (w64 (w64 (b + 1) * 8) - 1)) (w64 (w64 (w64 (c + 1) * 8) - 1)) 0 0 (w64 (a_W - 1)) (w64 (a_D - 1)) - w64 (a_Clear + 4))) (w64 (meetF1 (w64 (b * 8)) (w64 (c * 8)) (w64 (w64 (w64 (b + 1) * 8) - 1)) (w64 (w64 (w64 (c + 1) * 8) - 1)) 0 0 (w64 (a_W - 1)) (w64 (a_D - 1)) - w64 (a_Clear + 4))) (w64 (meetF2 (w64 (b * 8)) (w64 (c * 8)) (w64 (w64 (w64 (b + 1) * 8) - 1)) (w64 (w64 (w64 (c + 1) * 8) - 1)) 0 0 (w64 (a_W - 1)) (w64 (a_D - 1)) + w64 (a_Clear + 4))) (w64 (meetF3 (w64 (b * 8)) (w64 (c * 8)) (w64 (w64 (w64 (b + 1) * 8) - 1)) (w64 (w64 (w64 (c + 1) * 8) - 1)) 0 0 (w64 (a_W - 1)) (w64 (a_D - 1)) + w64 (a_Clear + 4))) 0 0 (w64 (a_W - 1)) (w64 (a_D - 1)) := by kernel_rfl
noncomputable def paddedF1 (a_Clear : Int) (a_Climb : Int) (a_Height : Int) (a_Rise : Int) (a_Run : Int) (a_W : Int) (a_D : Int) (b : Int) (c : Int) : Int := paddedC.fi [.int .i64 a_Clear, .int .i64 a_Climb, .int .i64 a_Height, .int .i64 a_Rise, .int .i64 a_Run, .int .i64 a_W, .int .i64 a_D, .int .i64 b, .int .i64 c] 1
theorem paddedF1_eq (a_Clear : Int) (a_Climb : Int) (a_Height : Int) (a_Rise : Int) (a_Run : Int) (a_W : Int) (a_D : Int) (b : Int) (c : Int) : paddedF1 a_Clear a_Climb a_Height a_Rise a_Run a_W a_D b c = meetF1 (w64 (meetF0 (w64 (b * 8)) (w64 (c * 8)) (w64 (w64 (w64 (b + 1) * 8) - 1)) (w64 (w64 (w64 (c + 1) * 8) - 1)) 0 0 (w64 (a_W - 1)) (w64 (a_D - 1)) - w64 (a_Clear + 4))) (w64 (meetF1 (w64 (b * 8)) (w64 (c * 8)) (w64 (w64 (w64 (b + 1) * 8) - 1)) (w64 (w64 (w64 (c + 1) * 8) - 1)) 0 0 (w64 (a_W - 1)) (w64 (a_D - 1)) - w64 (a_Clear + 4))) (w64 (meetF2 (w64 (b * 8)) (w64 (c * 8)) (w64 (w64 (w64 (b + 1) * 8) - 1)) (w64 (w64 (w64 (c + 1) * 8) - 1)) 0 0 (w64 (a_W - 1)) (w64 (a_D - 1)) + w64 (a_Clear + 4))) (w64 (meetF3 (w64 (b * 8)) (w64 (c * 8)) (w64 (w64 (w64 (b + 1) * 8) - 1)) (w64 (w64 (w64 (c + 1) * 8) - 1)) 0 0 (w64 (a_W - 1)) (w64 (a_D - 1)) + w64 (a_Clear + 4))) 0 0 (w64 (a_W - 1)) (w64 (a_D - 1)) := by kernel_rfl
noncomputable def paddedF2 (a_Clear : Int) (a_Climb : Int) (a_Height : Int) (a_Rise : Int) (a_Run : Int) (a_W : Int) (a_D : Int) (b : Int) (c : Int) : Int := paddedC.fi [.int .i64 a_Clear, .int .i64 a_Climb, .int .i64 a_Height, .int .i64 a_Rise, .int .i64 a_Run, .int .i64 a_W, .int .i64 a_D, .int .i64 b, .int .i64 c] 2
theorem paddedF2_eq (a_Clear : Int) (a_Climb : Int) (a_Height : Int) (a_Rise : Int) (a_Run : Int) (a_W : Int) (a_D : Int) (b : Int) (c : Int) : paddedF2 a_Clear a_Climb a_Height a_Rise a_Run a_W a_D b c = meetF2 (w64 (meetF0 (w64 (b * 8)) (w64 (c * 8)) (w64 (w64 (w64 (b + 1) * 8) - 1)) (w64 (w64 (w64 (c + 1) * 8) - 1)) 0 0 (w64 (a_W - 1)) (w64 (a_D - 1)) - w64 (a_Clear + 4))) (w64 (meetF1 (w64 (b * 8)) (w64 (c * 8)) (w64 (w64 (w64 (b + 1) * 8) - 1)) (w64 (w64 (w64 (c + 1) * 8) - 1)) 0 0 (w64 (a_W - 1)) (w64 (a_D - 1)) - w64 (a_Clear + 4))) (w64 (meetF2 (w64 (b * 8)) (w64 (c * 8)) (w64 (w64 (w64 (b + 1) * 8) - 1)) (w64 (w64 (w64 (c + 1) * 8) - 1)) 0 0 (w64 (a_W - 1)) (w64 (a_D - 1)) + w64 (a_Clear + 4))) (w64 (meetF3 (w64 (b * 8)) (w64 (c * 8)) (w64 (w64 (w64 (b + 1) * 8) - 1)) (w64 (w64 (w64 (c + 1) * 8) - 1)) 0 0 (w64 (a_W - 1)) (w64 (a_D - 1)) + w64 (a_Clear + 4))) 0 0 (w64 (a_W - 1)) (w64 (a_D - 1)) := by kernel_rfl
noncomputable def paddedF3 (a_Clear : Int) (a_Climb : Int) (a_Height : Int) (a_Rise : Int) (a_Run : Int) (a_W : Int) (a_D : Int) (b : Int) (c : Int) : Int := paddedC.fi [.int .i64 a_Clear, .int .i64 a_Climb, .int .i64 a_Height, .int .i64 a_Rise, .int .i64 a_Run, .int .i64 a_W, .int .i64 a_D, .int .i64 b, .int .i64 c] 3
theorem paddedF3_eq (a_Clear : Int) (a_Climb : Int) (a_Height : Int) (a_Rise : Int) (a_Run : Int) (a_W : Int) (a_D : Int) (b : Int) (c : Int) : paddedF3 a_Clear a_Climb a_Height a_Rise a_Run a_W a_D b c = meetF3 (w64 (meetF0 (w64 (b * 8)) (w64 (c * 8)) (w64 (w64 (w64 (b + 1) * 8) - 1)) (w64 (w64 (w64 (c + 1) * 8) - 1)) 0 0 (w64 (a_W - 1)) (w64 (a_D - 1)) - w64 (a_Clear + 4))) (w64 (meetF1 (w64 (b * 8)) (w64 (c * 8)) (w64 (w64 (w64 (b + 1) * 8) - 1)) (w64 (w64 (w64 (c + 1) * 8) - 1)) 0 0 (w64 (a_W - 1)) (w64 (a_D - 1)) - w64 (a_Clear + 4))) (w64 (meetF2 (w64 (b * 8)) (w64 (c * 8)) (w64 (w64 (w64 (b + 1) * 8) - 1)) (w64 (w64 (w64 (c + 1) * 8) - 1)) 0 0 (w64 (a_W - 1)) (w64 (a_D - 1)) + w64 (a_Clear + 4))) (w64 (meetF3 (w64 (b * 8)) (w64 (c * 8)) (w64 (w64 (w64 (b + 1) * 8) - 1)) (w64 (w64 (w64 (c + 1) * 8) - 1)) 0 0 (w64 (a_W - 1)) (w64 (a_D - 1)) + w64 (a_Clear + 4))) 0 0 (w64 (a_W - 1)) (w64 (a_D - 1)) := by kernel_rfl
theorem paddedC_holds : paddedC.holds Try.prog := conOf_holds (cons_holds meetC_holds nil_holds) _ _ _ _ _ (by kernel_rfl)

/-! footpath/bins.Count -/
noncomputable def countC : Con := conOf Try.prog [tilesC] 4000 53 [(some 0, [.i, .i, .i, .i, .i, .i, .i])] false [int1]
noncomputable def countF (a_Clear : Int) (a_Climb : Int) (a_Height : Int) (a_Rise : Int) (a_Run : Int) (a_W : Int) (a_D : Int) : Int := countC.fi [.int .i64 a_Clear, .int .i64 a_Climb, .int .i64 a_Height, .int .i64 a_Rise, .int .i64 a_Run, .int .i64 a_W, .int .i64 a_D] 0
theorem countF_eq (a_Clear : Int) (a_Climb : Int) (a_Height : Int) (a_Rise : Int) (a_Run : Int) (a_W : Int) (a_D : Int) : countF a_Clear a_Climb a_Height a_Rise a_Run a_W a_D = w64 (tilesF0 a_Clear a_Climb a_Height a_Rise a_Run a_W a_D * tilesF1 a_Clear a_Climb a_Height a_Rise a_Run a_W a_D) := by kernel_rfl
theorem countC_holds : countC.holds Try.prog := conOf_holds (cons_holds tilesC_holds nil_holds) _ _ _ _ _ (by kernel_rfl)

/-! footpath/bins.Touch -/
noncomputable def touchC : Con := conOf Try.prog [tilesC, emptyC, paddedC, meetC] 4000 54 [(some 0, [.i, .i, .i, .i, .i, .i, .i]), int1, int1, int1, int1, int1] false [bool1]
noncomputable def touchF (a_Clear : Int) (a_Climb : Int) (a_Height : Int) (a_Rise : Int) (a_Run : Int) (a_W : Int) (a_D : Int) (b : Int) (c : Int) (d : Int) (e : Int) (f : Int) : Bool := touchC.fb [.int .i64 a_Clear, .int .i64 a_Climb, .int .i64 a_Height, .int .i64 a_Rise, .int .i64 a_Run, .int .i64 a_W, .int .i64 a_D, .int .i64 b, .int .i64 c, .int .i64 d, .int .i64 e, .int .i64 f] 0
theorem touchF_eq (a_Clear : Int) (a_Climb : Int) (a_Height : Int) (a_Rise : Int) (a_Run : Int) (a_W : Int) (a_D : Int) (b : Int) (c : Int) (d : Int) (e : Int) (f : Int) : touchF a_Clear a_Climb a_Height a_Rise a_Run a_W a_D b c d e f = (bif ((decide (b < 0) || decide (w64 (tilesF0 a_Clear a_Climb a_Height a_Rise a_Run a_W a_D * tilesF1 a_Clear a_Climb a_Height a_Rise a_Run a_W a_D) ≤ b)) || emptyF c d e f) then false else !(emptyF (meetF0 (paddedF0 a_Clear a_Climb a_Height a_Rise a_Run a_W a_D (Int.tmod b (tilesF0 a_Clear a_Climb a_Height a_Rise a_Run a_W a_D)) (w64 (Int.tdiv b (tilesF0 a_Clear a_Climb a_Height a_Rise a_Run a_W a_D)))) (paddedF1 a_Clear a_Climb a_Height a_Rise a_Run a_W a_D (Int.tmod b (tilesF0 a_Clear a_Climb a_Height a_Rise a_Run a_W a_D)) (w64 (Int.tdiv b (tilesF0 a_Clear a_Climb a_Height a_Rise a_Run a_W a_D)))) (paddedF2 a_Clear a_Climb a_Height a_Rise a_Run a_W a_D (Int.tmod b (tilesF0 a_Clear a_Climb a_Height a_Rise a_Run a_W a_D)) (w64 (Int.tdiv b (tilesF0 a_Clear a_Climb a_Height a_Rise a_Run a_W a_D)))) (paddedF3 a_Clear a_Climb a_Height a_Rise a_Run a_W a_D (Int.tmod b (tilesF0 a_Clear a_Climb a_Height a_Rise a_Run a_W a_D)) (w64 (Int.tdiv b (tilesF0 a_Clear a_Climb a_Height a_Rise a_Run a_W a_D)))) c d e f) (meetF1 (paddedF0 a_Clear a_Climb a_Height a_Rise a_Run a_W a_D (Int.tmod b (tilesF0 a_Clear a_Climb a_Height a_Rise a_Run a_W a_D)) (w64 (Int.tdiv b (tilesF0 a_Clear a_Climb a_Height a_Rise a_Run a_W a_D)))) (paddedF1 a_Clear a_Climb a_Height a_Rise a_Run a_W a_D (Int.tmod b (tilesF0 a_Clear a_Climb a_Height a_Rise a_Run a_W a_D)) (w64 (Int.tdiv b (tilesF0 a_Clear a_Climb a_Height a_Rise a_Run a_W a_D)))) (paddedF2 a_Clear a_Climb a_Height a_Rise a_Run a_W a_D (Int.tmod b (tilesF0 a_Clear a_Climb a_Height a_Rise a_Run a_W a_D)) (w64 (Int.tdiv b (tilesF0 a_Clear a_Climb a_Height a_Rise a_Run a_W a_D)))) (paddedF3 a_Clear a_Climb a_Height a_Rise a_Run a_W a_D (Int.tmod b (tilesF0 a_Clear a_Climb a_Height a_Rise a_Run a_W a_D)) (w64 (Int.tdiv b (tilesF0 a_Clear a_Climb a_Height a_Rise a_Run a_W a_D)))) c d e f) (meetF2 (paddedF0 a_Clear a_Climb a_Height a_Rise a_Run a_W a_D (Int.tmod b (tilesF0 a_Clear a_Climb a_Height a_Rise a_Run a_W a_D)) (w64 (Int.tdiv b (tilesF0 a_Clear a_Climb a_Height a_Rise a_Run a_W a_D)))) (paddedF1 a_Clear a_Climb a_Height a_Rise a_Run a_W a_D (Int.tmod b (tilesF0 a_Clear a_Climb a_Height a_Rise a_Run a_W a_D)) (w64 (Int.tdiv b (tilesF0 a_Clear a_Climb a_Height a_Rise a_Run a_W a_D)))) (paddedF2 a_Clear a_Climb a_Height a_Rise a_Run a_W a_D (Int.tmod b (tilesF0 a_Clear a_Climb a_Height a_Rise a_Run a_W a_D)) (w64 (Int.tdiv b (tilesF0 a_Clear a_Climb a_Height a_Rise a_Run a_W a_D)))) (paddedF3 a_Clear a_Climb a_Height a_Rise a_Run a_W a_D (Int.tmod b (tilesF0 a_Clear a_Climb a_Height a_Rise a_Run a_W a_D)) (w64 (Int.tdiv b (tilesF0 a_Clear a_Climb a_Height a_Rise a_Run a_W a_D)))) c d e f) (meetF3 (paddedF0 a_Clear a_Climb a_Height a_Rise a_Run a_W a_D (Int.tmod b (tilesF0 a_Clear a_Climb a_Height a_Rise a_Run a_W a_D)) (w64 (Int.tdiv b (tilesF0 a_Clear a_Climb a_Height a_Rise a_Run a_W a_D)))) (paddedF1 a_Clear a_Climb a_Height a_Rise a_Run a_W a_D (Int.tmod b (tilesF0 a_Clear a_Climb a_Height a_Rise a_Run a_W a_D)) (w64 (Int.tdiv b (tilesF0 a_Clear a_Climb a_Height a_Rise a_Run a_W a_D)))) (paddedF2 a_Clear a_Climb a_Height a_Rise a_Run a_W a_D (Int.tmod b (tilesF0 a_Clear a_Climb a_Height a_Rise a_Run a_W a_D)) (w64 (Int.tdiv b (tilesF0 a_Clear a_Climb a_Height a_Rise a_Run a_W a_D)))) (paddedF3 a_Clear a_Climb a_Height a_Rise a_Run a_W a_D (Int.tmod b (tilesF0 a_Clear a_Climb a_Height a_Rise a_Run a_W a_D)) (w64 (Int.tdiv b (tilesF0 a_Clear a_Climb a_Height a_Rise a_Run a_W a_D)))) c d e f))) := by kernel_rfl
def touch_Need (a_Clear : Int) (a_Climb : Int) (a_Height : Int) (a_Rise : Int) (a_Run : Int) (a_W : Int) (a_D : Int) (b : Int) (c : Int) (d : Int) (e : Int) (f : Int) : Prop := (((((decide (b < 0) || decide (w64 (tilesF0 a_Clear a_Climb a_Height a_Rise a_Run a_W a_D * tilesF1 a_Clear a_Climb a_Height a_Rise a_Run a_W a_D) ≤ b)) || emptyF c d e f)) = true → True) ∧ ((((decide (b < 0) || decide (w64 (tilesF0 a_Clear a_Climb a_Height a_Rise a_Run a_W a_D * tilesF1 a_Clear a_Climb a_Height a_Rise a_Run a_W a_D) ≤ b)) || emptyF c d e f)) = false → ((!(((tilesF0 a_Clear a_Climb a_Height a_Rise a_Run a_W a_D) == 0))) = true ∧ ((!(((tilesF0 a_Clear a_Climb a_Height a_Rise a_Run a_W a_D) == 0))) = true ∧ True))))
theorem touchC_holds_of (h : ∀ (a_Clear : Int) (a_Climb : Int) (a_Height : Int) (a_Rise : Int) (a_Run : Int) (a_W : Int) (a_D : Int) (b : Int) (c : Int) (d : Int) (e : Int) (f : Int), touch_Need a_Clear a_Climb a_Height a_Rise a_Run a_W a_D b c d e f) : touchC.holds Try.prog := conOf_holds_need (cons_holds tilesC_holds (cons_holds emptyC_holds (cons_holds paddedC_holds (cons_holds meetC_holds nil_holds)))) _ _ _ _ _ (by kernel_rfl) (by rintro cs ⟨a_Clear, _, rfl, a_Climb, _, rfl, a_Height, _, rfl, a_Rise, _, rfl, a_Run, _, rfl, a_W, _, rfl, a_D, _, rfl, b, _, rfl, c, _, rfl, d, _, rfl, e, _, rfl, f, _, rfl, rfl⟩; refine Eq.mpr (?_ : _ = touch_Need a_Clear a_Climb a_Height a_Rise a_Run a_W a_D b c d e f) (h a_Clear a_Climb a_Height a_Rise a_Run a_W a_D b c d e f); kernel_rfl)
theorem touch_need (p q r s t u v b c d e f : Int) : touch_Need p q r s t u v b c d e f := by
  unfold touch_Need
  refine ⟨fun _ => trivial, fun h => ?_⟩
  simp only [Bool.or_eq_false_iff, decide_eq_false_iff_not] at h
  have h2 : tilesF0 p q r s t u v ≠ 0 := fun h0 => by
    have h3 := h.1.2
    rw [h0, Int.zero_mul] at h3
    have h4 : w64 0 = 0 := by rw [w64_id] <;> omega
    rw [h4] at h3
    exact absurd h.1.1 (by omega)
  have h5 : (!(tilesF0 p q r s t u v == 0)) = true := by simpa using h2
  exact ⟨h5, h5, trivial⟩
theorem touchC_holds : touchC.holds Try.prog := touchC_holds_of touch_need

/-! footpath/area.In -/
noncomputable def aInC : Con := conOf Try.prog [] 4000 17 [(some 0, [.i, .i, .i, .i, .i, .i, .i, .i]), (some 0, [.i, .i, .i])] false [bool1]
noncomputable def aInF (a_Id : Int) (a_X0 : Int) (a_Z0 : Int) (a_X1 : Int) (a_Z1 : Int) (a_Y0 : Int) (a_Y1 : Int) (a_Area : Int) (b_X : Int) (b_Z : Int) (b_Y : Int) : Bool := aInC.fb [.int .i64 a_Id, .int .i64 a_X0, .int .i64 a_Z0, .int .i64 a_X1, .int .i64 a_Z1, .int .i64 a_Y0, .int .i64 a_Y1, .int .i64 a_Area, .int .i64 b_X, .int .i64 b_Z, .int .i64 b_Y] 0
theorem aInF_eq (a_Id : Int) (a_X0 : Int) (a_Z0 : Int) (a_X1 : Int) (a_Z1 : Int) (a_Y0 : Int) (a_Y1 : Int) (a_Area : Int) (b_X : Int) (b_Z : Int) (b_Y : Int) : aInF a_Id a_X0 a_Z0 a_X1 a_Z1 a_Y0 a_Y1 a_Area b_X b_Z b_Y = (((((decide (a_X0 ≤ b_X) && decide (b_X ≤ a_X1)) && decide (a_Z0 ≤ b_Z)) && decide (b_Z ≤ a_Z1)) && decide (a_Y0 ≤ b_Y)) && decide (b_Y ≤ a_Y1)) := by kernel_rfl
theorem aInC_holds : aInC.holds Try.prog := conOf_holds nil_holds _ _ _ _ _ (by kernel_rfl)

/-! footpath/footpathref12.In -/
noncomputable def rInC : Con := conOf Try.prog [] 4000 18 [(some 0, [.i, .i, .i, .i, .i, .i, .i, .i]), (some 0, [.i, .i, .i])] false [bool1]
noncomputable def rInF (a_Id : Int) (a_X0 : Int) (a_Z0 : Int) (a_X1 : Int) (a_Z1 : Int) (a_Y0 : Int) (a_Y1 : Int) (a_Area : Int) (b_X : Int) (b_Z : Int) (b_Y : Int) : Bool := rInC.fb [.int .i64 a_Id, .int .i64 a_X0, .int .i64 a_Z0, .int .i64 a_X1, .int .i64 a_Z1, .int .i64 a_Y0, .int .i64 a_Y1, .int .i64 a_Area, .int .i64 b_X, .int .i64 b_Z, .int .i64 b_Y] 0
theorem rInF_eq (a_Id : Int) (a_X0 : Int) (a_Z0 : Int) (a_X1 : Int) (a_Z1 : Int) (a_Y0 : Int) (a_Y1 : Int) (a_Area : Int) (b_X : Int) (b_Z : Int) (b_Y : Int) : rInF a_Id a_X0 a_Z0 a_X1 a_Z1 a_Y0 a_Y1 a_Area b_X b_Z b_Y = (((((decide (a_X0 ≤ b_X) && decide (b_X ≤ a_X1)) && decide (a_Z0 ≤ b_Z)) && decide (b_Z ≤ a_Z1)) && decide (a_Y0 ≤ b_Y)) && decide (b_Y ≤ a_Y1)) := by kernel_rfl
theorem rInC_holds : rInC.holds Try.prog := conOf_holds nil_holds _ _ _ _ _ (by kernel_rfl)

/-! footpath/footpathlaw12.config -/
noncomputable def cfg12C : Con := conOf Try.prog [] 4000 30 [] false [(some 0, [.i, .i, .i, .i, .i, .i, .i])]
noncomputable def cfg12F0 : Int := cfg12C.fi [] 0
theorem cfg12F0_eq : cfg12F0 = 0 := by kernel_rfl
noncomputable def cfg12F1 : Int := cfg12C.fi [] 1
theorem cfg12F1_eq : cfg12F1 = 1 := by kernel_rfl
noncomputable def cfg12F2 : Int := cfg12C.fi [] 2
theorem cfg12F2_eq : cfg12F2 = 3 := by kernel_rfl
noncomputable def cfg12F3 : Int := cfg12C.fi [] 3
theorem cfg12F3_eq : cfg12F3 = 1 := by kernel_rfl
noncomputable def cfg12F4 : Int := cfg12C.fi [] 4
theorem cfg12F4_eq : cfg12F4 = 1 := by kernel_rfl
noncomputable def cfg12F5 : Int := cfg12C.fi [] 5
theorem cfg12F5_eq : cfg12F5 = 8 := by kernel_rfl
noncomputable def cfg12F6 : Int := cfg12C.fi [] 6
theorem cfg12F6_eq : cfg12F6 = 8 := by kernel_rfl
theorem cfg12C_holds : cfg12C.holds Try.prog := conOf_holds nil_holds _ _ _ _ _ (by kernel_rfl)

/-! footpath/footpathlaw12.box -/
noncomputable def box12C : Con := conOf Try.prog [] 4000 31 [int1, int1] false [(some 0, [.i, .i, .i, .i, .i, .i, .i, .i])]
noncomputable def box12F0 (a : Int) (b : Int) : Int := box12C.fi [.int .i64 a, .int .i64 b] 0
theorem box12F0_eq (a : Int) (b : Int) : box12F0 a b = a := by kernel_rfl
noncomputable def box12F1 (a : Int) (b : Int) : Int := box12C.fi [.int .i64 a, .int .i64 b] 1
theorem box12F1_eq (a : Int) (b : Int) : box12F1 a b = 0 := by kernel_rfl
noncomputable def box12F2 (a : Int) (b : Int) : Int := box12C.fi [.int .i64 a, .int .i64 b] 2
theorem box12F2_eq (a : Int) (b : Int) : box12F2 a b = 0 := by kernel_rfl
noncomputable def box12F3 (a : Int) (b : Int) : Int := box12C.fi [.int .i64 a, .int .i64 b] 3
theorem box12F3_eq (a : Int) (b : Int) : box12F3 a b = 7 := by kernel_rfl
noncomputable def box12F4 (a : Int) (b : Int) : Int := box12C.fi [.int .i64 a, .int .i64 b] 4
theorem box12F4_eq (a : Int) (b : Int) : box12F4 a b = 7 := by kernel_rfl
noncomputable def box12F5 (a : Int) (b : Int) : Int := box12C.fi [.int .i64 a, .int .i64 b] 5
theorem box12F5_eq (a : Int) (b : Int) : box12F5 a b = (-9) := by kernel_rfl
noncomputable def box12F6 (a : Int) (b : Int) : Int := box12C.fi [.int .i64 a, .int .i64 b] 6
theorem box12F6_eq (a : Int) (b : Int) : box12F6 a b = 9 := by kernel_rfl
noncomputable def box12F7 (a : Int) (b : Int) : Int := box12C.fi [.int .i64 a, .int .i64 b] 7
theorem box12F7_eq (a : Int) (b : Int) : box12F7 a b = b := by kernel_rfl
theorem box12C_holds : box12C.holds Try.prog := conOf_holds nil_holds _ _ _ _ _ (by kernel_rfl)

/-! footpath/area.Of$2 -/
noncomputable def aOf1C : Con := conOf Try.prog [] 4000 34 [(some 0, [.i, .i, .i, .i, .i, .i, .i, .i]), (some 0, [.i, .i, .i, .i, .i, .i, .i, .i])] false [bool1]
noncomputable def aOf1F (a_Id : Int) (a_X0 : Int) (a_Z0 : Int) (a_X1 : Int) (a_Z1 : Int) (a_Y0 : Int) (a_Y1 : Int) (a_Area : Int) (b_Id : Int) (b_X0 : Int) (b_Z0 : Int) (b_X1 : Int) (b_Z1 : Int) (b_Y0 : Int) (b_Y1 : Int) (b_Area : Int) : Bool := aOf1C.fb [.int .i64 a_Id, .int .i64 a_X0, .int .i64 a_Z0, .int .i64 a_X1, .int .i64 a_Z1, .int .i64 a_Y0, .int .i64 a_Y1, .int .i64 a_Area, .int .i64 b_Id, .int .i64 b_X0, .int .i64 b_Z0, .int .i64 b_X1, .int .i64 b_Z1, .int .i64 b_Y0, .int .i64 b_Y1, .int .i64 b_Area] 0
theorem aOf1F_eq (a_Id : Int) (a_X0 : Int) (a_Z0 : Int) (a_X1 : Int) (a_Z1 : Int) (a_Y0 : Int) (a_Y1 : Int) (a_Area : Int) (b_Id : Int) (b_X0 : Int) (b_Z0 : Int) (b_X1 : Int) (b_Z1 : Int) (b_Y0 : Int) (b_Y1 : Int) (b_Area : Int) : aOf1F a_Id a_X0 a_Z0 a_X1 a_Z1 a_Y0 a_Y1 a_Area b_Id b_X0 b_Z0 b_X1 b_Z1 b_Y0 b_Y1 b_Area = decide (a_Id < b_Id) := by kernel_rfl
theorem aOf1C_holds : aOf1C.holds Try.prog := conOf_holds nil_holds _ _ _ _ _ (by kernel_rfl)

end Go.Proofs.Ytbjbiimkhpfieaa
