/- Contracts of the functions that the claim reaches, as the symbolic executor tells them. No conditions. -/
import Derived.Test.YteneneadfpkahaaProg
import Derived.Test.YteneneadfpkahaaSxCon
import Derived.Test.YteneneadfpkahaaTlM
import Derived.Test.YteneneadfpkahaaSameM
import Derived.Test.YteneneadfpkahaaRsM
namespace Go.Proofs.Yteneneadfpkahaa
open Go Go.RowKit Go.Sx
set_option maxRecDepth 100000
set_option linter.unusedVariables false

/-! footpath/tri.Same -/
def tsameF (i x0 y0 z0 x1 y1 z1 x2 y2 z2 j u0 v0 w0 u1 v1 w1 u2 v2 w2 : Int) : Bool := sameL [⟨x0, y0, z0⟩, ⟨x1, y1, z1⟩, ⟨x2, y2, z2⟩] [⟨u0, v0, w0⟩, ⟨u1, v1, w1⟩, ⟨u2, v2, w2⟩] && decide (i = j)
def tsameFb (cs : List Value) : Bool :=
  tsameF (intOf (cs.getD 0 .nilIface)) (intOf (cs.getD 1 .nilIface)) (intOf (cs.getD 2 .nilIface)) (intOf (cs.getD 3 .nilIface)) (intOf (cs.getD 4 .nilIface)) (intOf (cs.getD 5 .nilIface)) (intOf (cs.getD 6 .nilIface)) (intOf (cs.getD 7 .nilIface)) (intOf (cs.getD 8 .nilIface)) (intOf (cs.getD 9 .nilIface))
    (intOf (cs.getD 10 .nilIface)) (intOf (cs.getD 11 .nilIface)) (intOf (cs.getD 12 .nilIface)) (intOf (cs.getD 13 .nilIface)) (intOf (cs.getD 14 .nilIface)) (intOf (cs.getD 15 .nilIface)) (intOf (cs.getD 16 .nilIface)) (intOf (cs.getD 17 .nilIface)) (intOf (cs.getD 18 .nilIface)) (intOf (cs.getD 19 .nilIface))
noncomputable def tsameC : Con := { f := 63, params := [(some 0, [.i, .i, .i, .i, .i, .i, .i, .i, .i, .i]), (some 0, [.i, .i, .i, .i, .i, .i, .i, .i, .i, .i])], tup := false, res := [bool1], fi := fun _ _ => 0, fb := fun cs _ => tsameFb cs, fv := fun _ _ => .nilIface }
theorem tsameC_holds : tsameC.holds Try.prog := by
  rintro cs ⟨i, _, rfl, x0, _, rfl, y0, _, rfl, z0, _, rfl, x1, _, rfl, y1, _, rfl, z1, _, rfl, x2, _, rfl, y2, _, rfl, z2, _, rfl, j, _, rfl, u0, _, rfl, v0, _, rfl, w0, _, rfl, u1, _, rfl, v1, _, rfl, w1, _, rfl, u2, _, rfl, v2, _, rfl, w2, _, rfl, rfl⟩ w
  exact same_any i j ⟨x0, y0, z0⟩ ⟨x1, y1, z1⟩ ⟨x2, y2, z2⟩ ⟨u0, v0, w0⟩ ⟨u1, v1, w1⟩ ⟨u2, v2, w2⟩ w

/-! footpath/footpathlaw04.TriSame -/
noncomputable def triSameC : Con := conOf Try.prog [tsameC, rSameC, wakes04C] 4000 16 [(some 0, [.i, .i, .i, .i, .i, .i, .i, .i, .i, .i]), (some 0, [.i, .i, .i, .i, .i, .i, .i, .i, .i, .i])] false [bool1]
noncomputable def triSameF (a_Id : Int) (a_V_0_X : Int) (a_V_0_Y : Int) (a_V_0_Z : Int) (a_V_1_X : Int) (a_V_1_Y : Int) (a_V_1_Z : Int) (a_V_2_X : Int) (a_V_2_Y : Int) (a_V_2_Z : Int) (b_Id : Int) (b_V_0_X : Int) (b_V_0_Y : Int) (b_V_0_Z : Int) (b_V_1_X : Int) (b_V_1_Y : Int) (b_V_1_Z : Int) (b_V_2_X : Int) (b_V_2_Y : Int) (b_V_2_Z : Int) : Bool := triSameC.fb [.int .i64 a_Id, .int .i64 a_V_0_X, .int .i64 a_V_0_Y, .int .i64 a_V_0_Z, .int .i64 a_V_1_X, .int .i64 a_V_1_Y, .int .i64 a_V_1_Z, .int .i64 a_V_2_X, .int .i64 a_V_2_Y, .int .i64 a_V_2_Z, .int .i64 b_Id, .int .i64 b_V_0_X, .int .i64 b_V_0_Y, .int .i64 b_V_0_Z, .int .i64 b_V_1_X, .int .i64 b_V_1_Y, .int .i64 b_V_1_Z, .int .i64 b_V_2_X, .int .i64 b_V_2_Y, .int .i64 b_V_2_Z] 0
theorem triSameF_eq (a_Id : Int) (a_V_0_X : Int) (a_V_0_Y : Int) (a_V_0_Z : Int) (a_V_1_X : Int) (a_V_1_Y : Int) (a_V_1_Z : Int) (a_V_2_X : Int) (a_V_2_Y : Int) (a_V_2_Z : Int) (b_Id : Int) (b_V_0_X : Int) (b_V_0_Y : Int) (b_V_0_Z : Int) (b_V_1_X : Int) (b_V_1_Y : Int) (b_V_1_Z : Int) (b_V_2_X : Int) (b_V_2_Y : Int) (b_V_2_Z : Int) : triSameF a_Id a_V_0_X a_V_0_Y a_V_0_Z a_V_1_X a_V_1_Y a_V_1_Z a_V_2_X a_V_2_Y a_V_2_Z b_Id b_V_0_X b_V_0_Y b_V_0_Z b_V_1_X b_V_1_Y b_V_1_Z b_V_2_X b_V_2_Y b_V_2_Z = (((((tsameF a_Id a_V_0_X a_V_0_Y a_V_0_Z a_V_1_X a_V_1_Y a_V_1_Z a_V_2_X a_V_2_Y a_V_2_Z b_Id b_V_0_X b_V_0_Y b_V_0_Z b_V_1_X b_V_1_Y b_V_1_Z b_V_2_X b_V_2_Y b_V_2_Z) == (rSameF a_Id a_V_0_X a_V_0_Y a_V_0_Z a_V_1_X a_V_1_Y a_V_1_Z a_V_2_X a_V_2_Y a_V_2_Z b_Id b_V_0_X b_V_0_Y b_V_0_Z b_V_1_X b_V_1_Y b_V_1_Z b_V_2_X b_V_2_Y b_V_2_Z)) && ((tsameF a_Id a_V_0_X a_V_0_Y a_V_0_Z a_V_1_X a_V_1_Y a_V_1_Z a_V_2_X a_V_2_Y a_V_2_Z b_Id b_V_0_X b_V_0_Y b_V_0_Z b_V_1_X b_V_1_Y b_V_1_Z b_V_2_X b_V_2_Y b_V_2_Z) == (tsameF b_Id b_V_0_X b_V_0_Y b_V_0_Z b_V_1_X b_V_1_Y b_V_1_Z b_V_2_X b_V_2_Y b_V_2_Z a_Id a_V_0_X a_V_0_Y a_V_0_Z a_V_1_X a_V_1_Y a_V_1_Z a_V_2_X a_V_2_Y a_V_2_Z))) && tsameF a_Id a_V_0_X a_V_0_Y a_V_0_Z a_V_1_X a_V_1_Y a_V_1_Z a_V_2_X a_V_2_Y a_V_2_Z a_Id a_V_0_X a_V_0_Y a_V_0_Z a_V_1_X a_V_1_Y a_V_1_Z a_V_2_X a_V_2_Y a_V_2_Z) && wakes04F) := by kernel_rfl
theorem triSameC_holds : triSameC.holds Try.prog := conOf_holds (cons_holds tsameC_holds (cons_holds rSameC_holds (cons_holds wakes04C_holds nil_holds))) _ _ _ _ _ (by kernel_rfl)

end Go.Proofs.Yteneneadfpkahaa
