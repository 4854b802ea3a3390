/- Contracts of the functions that the claim reaches, as the symbolic executor tells them. No conditions. -/
import Derived.Test.YtcdfojfafnecdaaProg
import Derived.Test.YtcdfojfafnecdaaSxCon
namespace Go.Proofs.Ytcdfojfafnecdaa
open Go Go.RowKit Go.Sx
set_option maxRecDepth 100000
set_option linter.unusedVariables false

/-! footpath/whole.in[int] -/
noncomputable def wInC : Con := conOf Try.prog [] 4000 43 [int1, int1, int1] false [int1]
noncomputable def wInF (a : Int) (b : Int) (c : Int) : Int := wInC.fi [.int .i64 a, .int .i64 b, .int .i64 c] 0
theorem wInF_eq (a : Int) (b : Int) (c : Int) : wInF a b c = min (max a b) c := by kernel_rfl
theorem wInC_holds : wInC.holds Try.prog := conOf_holds nil_holds _ _ _ _ _ (by kernel_rfl)

/-! footpath/whole.Check -/
noncomputable def checkC : Con := conOf Try.prog [wInC] 4000 32 [(some 0, [.i, .i, .i, .i, .i, .i, .i])] false [int1]
noncomputable def checkF (a_Clear : Int) (a_Climb : Int) (a_Height : Int) (a_Rise : Int) (a_Run : Int) (a_W : Int) (a_D : Int) : Int := checkC.fi [.int .i64 a_Clear, .int .i64 a_Climb, .int .i64 a_Height, .int .i64 a_Rise, .int .i64 a_Run, .int .i64 a_W, .int .i64 a_D] 0
theorem checkF_eq (a_Clear : Int) (a_Climb : Int) (a_Height : Int) (a_Rise : Int) (a_Run : Int) (a_W : Int) (a_D : Int) : checkF a_Clear a_Climb a_Height a_Rise a_Run a_W a_D = (bif !((a_Clear == (wInF a_Clear 0 3))) then 20 else (bif !((a_Climb == (wInF a_Climb 0 8))) then 20 else (bif decide (a_Height ≤ a_Climb) then 20 else (bif decide (32 < a_Height) then 20 else (bif !((a_Rise == (wInF a_Rise 0 100))) then 20 else (bif !((a_Run == (wInF a_Run 1 100))) then 20 else (bif !((a_W == (wInF a_W 1 32))) then 20 else (bif !((a_D == (wInF a_D 1 32))) then 20 else 0)))))))) := by kernel_rfl
theorem checkC_holds : checkC.holds Try.prog := conOf_holds (cons_holds wInC_holds nil_holds) _ _ _ _ _ (by kernel_rfl)

/-! footpath/footpathref01.Check -/
noncomputable def checkRC : Con := conOf Try.prog [] 4000 19 [(some 0, [.i, .i, .i, .i, .i, .i, .i])] false [int1]
noncomputable def checkRF (a_Clear : Int) (a_Climb : Int) (a_Height : Int) (a_Rise : Int) (a_Run : Int) (a_W : Int) (a_D : Int) : Int := checkRC.fi [.int .i64 a_Clear, .int .i64 a_Climb, .int .i64 a_Height, .int .i64 a_Rise, .int .i64 a_Run, .int .i64 a_W, .int .i64 a_D] 0
theorem checkRF_eq (a_Clear : Int) (a_Climb : Int) (a_Height : Int) (a_Rise : Int) (a_Run : Int) (a_W : Int) (a_D : Int) : checkRF a_Clear a_Climb a_Height a_Rise a_Run a_W a_D = (bif (((((((((((((decide (a_Clear < 0) || decide (3 < a_Clear)) || decide (a_Climb < 0)) || decide (8 < a_Climb)) || decide (a_Height ≤ a_Climb)) || decide (32 < a_Height)) || decide (a_Rise < 0)) || decide (100 < a_Rise)) || decide (a_Run < 1)) || decide (100 < a_Run)) || decide (a_W < 1)) || decide (32 < a_W)) || decide (a_D < 1)) || decide (32 < a_D)) then 20 else 0) := by kernel_rfl
theorem checkRC_holds : checkRC.holds Try.prog := conOf_holds nil_holds _ _ _ _ _ (by kernel_rfl)

/-! footpath/links.Linked -/
noncomputable def linkedC : Con := conOf Try.prog [checkC] 4000 21 [(some 0, [.i, .i, .i, .i, .i, .i, .i]), (some 0, [.i, .i, .i]), (some 0, [.i, .i, .i])] false [bool1]
noncomputable def linkedF (a_Clear : Int) (a_Climb : Int) (a_Height : Int) (a_Rise : Int) (a_Run : Int) (a_W : Int) (a_D : Int) (b_Y : Int) (b_Top : Int) (b_Area : Int) (c_Y : Int) (c_Top : Int) (c_Area : Int) : Bool := linkedC.fb [.int .i64 a_Clear, .int .i64 a_Climb, .int .i64 a_Height, .int .i64 a_Rise, .int .i64 a_Run, .int .i64 a_W, .int .i64 a_D, .int .i64 b_Y, .int .i64 b_Top, .int .i64 b_Area, .int .i64 c_Y, .int .i64 c_Top, .int .i64 c_Area] 0
theorem linkedF_eq (a_Clear : Int) (a_Climb : Int) (a_Height : Int) (a_Rise : Int) (a_Run : Int) (a_W : Int) (a_D : Int) (b_Y : Int) (b_Top : Int) (b_Area : Int) (c_Y : Int) (c_Top : Int) (c_Area : Int) : linkedF a_Clear a_Climb a_Height a_Rise a_Run a_W a_D b_Y b_Top b_Area c_Y c_Top c_Area = (bif (decide (b_Y < (-1099511627776)) || decide (1099511627776 < b_Y)) then false else (bif (decide (b_Top < (-1099511627776)) || decide (1099511627776 < b_Top)) then false else (bif (decide (c_Y < (-1099511627776)) || decide (1099511627776 < c_Y)) then false else (bif (decide (c_Top < (-1099511627776)) || decide (1099511627776 < c_Top)) then false else ((((((checkF a_Clear a_Climb a_Height a_Rise a_Run a_W a_D) == 0) && decide (0 < b_Area)) && decide (0 < c_Area)) && decide (max (w64 (b_Y - c_Y)) (w64 (c_Y - b_Y)) ≤ a_Climb)) && decide (a_Height ≤ w64 (min b_Top c_Top - max b_Y c_Y))))))) := by kernel_rfl
theorem linkedC_holds : linkedC.holds Try.prog := conOf_holds (cons_holds checkC_holds nil_holds) _ _ _ _ _ (by kernel_rfl)

/-! footpath/links.ways -/
noncomputable def waysC : Con := conOf Try.prog [] 4000 52 [] false [(some 0, [.i, .i, .i, .i, .i, .i, .i, .i])]
noncomputable def waysF0 : Int := waysC.fi [] 0
theorem waysF0_eq : waysF0 = 1 := by kernel_rfl
noncomputable def waysF1 : Int := waysC.fi [] 1
theorem waysF1_eq : waysF1 = 0 := by kernel_rfl
noncomputable def waysF2 : Int := waysC.fi [] 2
theorem waysF2_eq : waysF2 = 0 := by kernel_rfl
noncomputable def waysF3 : Int := waysC.fi [] 3
theorem waysF3_eq : waysF3 = 1 := by kernel_rfl
noncomputable def waysF4 : Int := waysC.fi [] 4
theorem waysF4_eq : waysF4 = (-1) := by kernel_rfl
noncomputable def waysF5 : Int := waysC.fi [] 5
theorem waysF5_eq : waysF5 = 0 := by kernel_rfl
noncomputable def waysF6 : Int := waysC.fi [] 6
theorem waysF6_eq : waysF6 = 0 := by kernel_rfl
noncomputable def waysF7 : Int := waysC.fi [] 7
theorem waysF7_eq : waysF7 = (-1) := by kernel_rfl
theorem waysC_holds : waysC.holds Try.prog := conOf_holds nil_holds _ _ _ _ _ (by kernel_rfl)

/-! footpath/links.Step -/
def stepI (d : Int) (j : Nat) : Int :=
  match j with
  | 0 => if d = 0 then 1 else if d = 2 then -1 else 0
  | _ => if d = 1 then 1 else if d = 3 then -1 else 0
def stepB (d : Int) : Bool := decide (0 ≤ d ∧ d < 4)
def stepC : Con := { f := 50, params := [int1], tup := true, res := [int1, int1, bool1], fi := fun cs j => stepI (intOf (cs.getD 0 .nilIface)) j, fb := fun cs _ => stepB (intOf (cs.getD 0 .nilIface)), fv := fun _ _ => .nilIface }
def stepF0 (d : Int) : Int := stepI d 0
def stepF1 (d : Int) : Int := stepI d 1
def stepF2 (d : Int) : Bool := stepB d
theorem stepC_holds : stepC.holds Try.prog := by
  rintro cs ⟨d, _, rfl, rfl⟩ w
  by_cases h0 : d = 0
  · subst h0; exact calls_lit [waysC] (cons_holds waysC_holds nil_holds) [] 400 50 [.one (.int 0)] (t := .val [.one (.app .i 52 0 .nil), .one (.app .i 52 1 .nil), .one (.bool true)]) (by kernel_rfl) (v := stepC.out [.int .i64 0]) (by show resVal _ _ = _; kernel_rfl) rfl w
  by_cases h1 : d = 1
  · subst h1; exact calls_lit [waysC] (cons_holds waysC_holds nil_holds) [] 400 50 [.one (.int 1)] (t := .val [.one (.app .i 52 2 .nil), .one (.app .i 52 3 .nil), .one (.bool true)]) (by kernel_rfl) (v := stepC.out [.int .i64 1]) (by show resVal _ _ = _; kernel_rfl) rfl w
  by_cases h2 : d = 2
  · subst h2; exact calls_lit [waysC] (cons_holds waysC_holds nil_holds) [] 400 50 [.one (.int 2)] (t := .val [.one (.app .i 52 4 .nil), .one (.app .i 52 5 .nil), .one (.bool true)]) (by kernel_rfl) (v := stepC.out [.int .i64 2]) (by show resVal _ _ = _; kernel_rfl) rfl w
  by_cases h3 : d = 3
  · subst h3; exact calls_lit [waysC] (cons_holds waysC_holds nil_holds) [] 400 50 [.one (.int 3)] (t := .val [.one (.app .i 52 6 .nil), .one (.app .i 52 7 .nil), .one (.bool true)]) (by kernel_rfl) (v := stepC.out [.int .i64 3]) (by show resVal _ _ = _; kernel_rfl) rfl w
  have hc : boolOf ((E.or (.lt (.atom .i 0) (.int 0)) (.le (.int 4) (.atom .i 0))).den (envOf [waysC] [.int .i64 d])) = true := by
    show (decide (d < 0) || decide (4 ≤ d)) = true
    simp; omega
  have hout : Value.tuple #[.int .i64 0, .int .i64 0, .bool false] = stepC.out [.int .i64 d] := by
    have e0 : stepI d 0 = 0 := by simp [stepI, h0, h2]
    have e1 : stepI d 1 = 0 := by simp [stepI, h1, h3]
    have e2 : stepB d = false := by simp [stepB]; omega
    show _ = Value.tuple #[.int .i64 (stepI d 0), .int .i64 (stepI d 1), .bool (stepB d)]
    rw [e0, e1, e2]
  exact calls_lit [waysC] (cons_holds waysC_holds nil_holds) [.int .i64 d] 400 50 [.one (.atom .i 0)]
    (t := .br (.or (.lt (.atom .i 0) (.int 0)) (.le (.int 4) (.atom .i 0))) (.val [.one (.int 0), .one (.int 0), .one (.bool false)]) .bad) (by kernel_rfl) (v := stepC.out [.int .i64 d])
    ⟨fun _ => hout, fun h => by rw [hc] at h; cases h⟩ rfl w

/-! footpath/footpathlaw13.wakes -/

end Go.Proofs.Ytcdfojfafnecdaa
