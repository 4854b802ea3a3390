/- Contracts of the functions that the claim reaches, as the symbolic executor tells them. No conditions. -/
import Derived.Test.YteneneadfpkahaaProg
import Derived.Test.YteneneadfpkahaaSxCon
import Derived.Test.YteneneadfpkahaaSxLoop4
import Derived.Test.YteneneadfpkahaaTrM
namespace Go.Proofs.Yteneneadfpkahaa
open Go Go.RowKit Go.Sx
set_option maxRecDepth 100000
set_option linter.unusedVariables false

/-! footpath/tri.Height, which has loops: heads 0: n12 n13 -/
noncomputable def theightΓ : List Con := [normalC]
noncomputable def theightW : T := walk0 Try.prog theightΓ 4000 Try.f56 [(some 0, [.i, .i, .i, .i, .i, .i, .i, .i, .i, .i]), int1, int1]
noncomputable def theightX0 : Head × Nat := headAt [] [] 12 (standAt theightW 0)
noncomputable def theightV0 : T := theightX0.1.walk Try.prog theightΓ 4000
noncomputable def theightHs : List Head := [theightX0.1]
def rngP (b c : Int) : Prop := -64 ≤ b ∧ b ≤ 64 ∧ -64 ≤ c ∧ c ≤ 64
instance (b c : Int) : Decidable (rngP b c) := by unfold rngP; infer_instance
def hNum (x0 y0 z0 x1 y1 z1 x2 y2 z2 b c : Int) : Int := y0 * nY x0 y0 z0 x1 y1 z1 x2 y2 z2 - nX x0 y0 z0 x1 y1 z1 x2 y2 z2 * (b - x0) - nZ x0 y0 z0 x1 y1 z1 x2 y2 z2 * (c - z0)
noncomputable def theightS0 (_i x0 y0 z0 x1 y1 z1 x2 y2 z2 b c : Int) : Int := if okT x0 y0 z0 x1 y1 z1 x2 y2 z2 ∧ rngP b c then (hgt (hNum x0 y0 z0 x1 y1 z1 x2 y2 z2 b c) (nY x0 y0 z0 x1 y1 z1 x2 y2 z2)).1 else 0
noncomputable def theightS1 (_i x0 y0 z0 x1 y1 z1 x2 y2 z2 b c : Int) : Int := if okT x0 y0 z0 x1 y1 z1 x2 y2 z2 ∧ rngP b c then (hgt (hNum x0 y0 z0 x1 y1 z1 x2 y2 z2 b c) (nY x0 y0 z0 x1 y1 z1 x2 y2 z2)).2 else 0
noncomputable def theightS2 (_i x0 y0 z0 x1 y1 z1 x2 y2 z2 b c : Int) : Int := if okT x0 y0 z0 x1 y1 z1 x2 y2 z2 ∧ rngP b c then 0 else 40
def theightI0 (_i x0 y0 z0 x1 y1 z1 x2 y2 z2 b c n12 n13 : Int) : Prop := (okT x0 y0 z0 x1 y1 z1 x2 y2 z2 ∧ rngP b c) ∧ grt n12 n13 = grt (hNum x0 y0 z0 x1 y1 z1 x2 y2 z2 b c) (nY x0 y0 z0 x1 y1 z1 x2 y2 z2)
def theightm0 (_i _x0 _y0 _z0 _x1 _y1 _z1 _x2 _y2 _z2 _b _c _n12 n13 : Int) : Nat × Nat := (n13.natAbs, 0)
theorem num_val {x0 y0 z0 x1 y1 z1 x2 y2 z2 b c : Int} (h : okT x0 y0 z0 x1 y1 z1 x2 y2 z2) (hr : rngP b c) :
    w64 (w64 (w64 (y0 * nY x0 y0 z0 x1 y1 z1 x2 y2 z2) - w64 (nX x0 y0 z0 x1 y1 z1 x2 y2 z2 * w64 (b - x0))) - w64 (nZ x0 y0 z0 x1 y1 z1 x2 y2 z2 * w64 (c - z0))) = hNum x0 y0 z0 x1 y1 z1 x2 y2 z2 b c ∧
    -100000000 ≤ hNum x0 y0 z0 x1 y1 z1 x2 y2 z2 b c ∧ hNum x0 y0 z0 x1 y1 z1 x2 y2 z2 b c ≤ 100000000 := by
  have hx := nX_bd h.1
  have hy := nY_bd h.1
  have hz := nZ_bd h.1
  have hv := h.1.1
  unfold okV at hv
  unfold rngP at hr
  unfold hNum
  generalize nX x0 y0 z0 x1 y1 z1 x2 y2 z2 = nx at *
  generalize nY x0 y0 z0 x1 y1 z1 x2 y2 z2 = ny at *
  generalize nZ x0 y0 z0 x1 y1 z1 x2 y2 z2 = nz at *
  have e1 : w64 (b - x0) = b - x0 := by rw [w64_id] <;> omega
  have e2 : w64 (c - z0) = c - z0 := by rw [w64_id] <;> omega
  rw [e1, e2]
  have m1 := mul_abs_le (x := y0) (y := ny) (X := 2048) (Y := 2048) (by omega) (by omega) (by omega) (by omega)
  have m2 := mul_abs_le (x := nx) (y := b - x0) (X := 262144) (Y := 96) (by omega) (by omega) (by omega) (by omega)
  have m3 := mul_abs_le (x := nz) (y := c - z0) (X := 262144) (Y := 96) (by omega) (by omega) (by omega) (by omega)
  generalize y0 * ny = p at *
  generalize nx * (b - x0) = q at *
  generalize nz * (c - z0) = r at *
  have e3 : w64 p = p := by rw [w64_id] <;> omega
  have e4 : w64 q = q := by rw [w64_id] <;> omega
  have e5 : w64 r = r := by rw [w64_id] <;> omega
  have e6 : w64 (p - q) = p - q := by rw [w64_id] <;> omega
  have e7 : w64 (p - q - r) = p - q - r := by rw [w64_id] <;> omega
  rw [e3, e4, e5, e6, e7]
  exact ⟨rfl, by omega, by omega⟩
theorem rng_val (b c : Int) : (((decide (b < (-64)) || decide (64 < b)) || decide (c < (-64))) || decide (64 < c)) = !decide (rngP b c) := by
  by_cases h : rngP b c
  · rw [decide_eq_true h]
    unfold rngP at h
    simp only [Bool.not_true, Bool.or_eq_false_iff, decide_eq_false_iff_not]
    omega
  · rw [decide_eq_false h]
    unfold rngP at h
    simp only [Bool.not_false, Bool.or_eq_true, decide_eq_true_eq]
    omega
def theightStart (a_Id : Int) (a_V_0_X : Int) (a_V_0_Y : Int) (a_V_0_Z : Int) (a_V_1_X : Int) (a_V_1_Y : Int) (a_V_1_Z : Int) (a_V_2_X : Int) (a_V_2_Y : Int) (a_V_2_Z : Int) (b : Int) (c : Int) : Prop := (((!(((normalF3 a_Id a_V_0_X a_V_0_Y a_V_0_Z a_V_1_X a_V_1_Y a_V_1_Z a_V_2_X a_V_2_Y a_V_2_Z) == 0))) = true → (Value.tuple #[Value.int .i64 (0), Value.int .i64 (0), Value.int .i64 (normalF3 a_Id a_V_0_X a_V_0_Y a_V_0_Z a_V_1_X a_V_1_Y a_V_1_Z a_V_2_X a_V_2_Y a_V_2_Z)] = Value.tuple #[Value.int .i64 (theightS0 a_Id a_V_0_X a_V_0_Y a_V_0_Z a_V_1_X a_V_1_Y a_V_1_Z a_V_2_X a_V_2_Y a_V_2_Z b c), Value.int .i64 (theightS1 a_Id a_V_0_X a_V_0_Y a_V_0_Z a_V_1_X a_V_1_Y a_V_1_Z a_V_2_X a_V_2_Y a_V_2_Z b c), Value.int .i64 (theightS2 a_Id a_V_0_X a_V_0_Y a_V_0_Z a_V_1_X a_V_1_Y a_V_1_Z a_V_2_X a_V_2_Y a_V_2_Z b c)])) ∧ ((!(((normalF3 a_Id a_V_0_X a_V_0_Y a_V_0_Z a_V_1_X a_V_1_Y a_V_1_Z a_V_2_X a_V_2_Y a_V_2_Z) == 0))) = false → ((((((decide (b < (-64)) || decide (64 < b)) || decide (c < (-64))) || decide (64 < c))) = true → (Value.tuple #[Value.int .i64 (0), Value.int .i64 (0), Value.int .i64 (40)] = Value.tuple #[Value.int .i64 (theightS0 a_Id a_V_0_X a_V_0_Y a_V_0_Z a_V_1_X a_V_1_Y a_V_1_Z a_V_2_X a_V_2_Y a_V_2_Z b c), Value.int .i64 (theightS1 a_Id a_V_0_X a_V_0_Y a_V_0_Z a_V_1_X a_V_1_Y a_V_1_Z a_V_2_X a_V_2_Y a_V_2_Z b c), Value.int .i64 (theightS2 a_Id a_V_0_X a_V_0_Y a_V_0_Z a_V_1_X a_V_1_Y a_V_1_Z a_V_2_X a_V_2_Y a_V_2_Z b c)])) ∧ (((((decide (b < (-64)) || decide (64 < b)) || decide (c < (-64))) || decide (64 < c))) = false → theightI0 a_Id a_V_0_X a_V_0_Y a_V_0_Z a_V_1_X a_V_1_Y a_V_1_Z a_V_2_X a_V_2_Y a_V_2_Z b c (w64 (w64 (w64 (a_V_0_Y * normalF1 a_Id a_V_0_X a_V_0_Y a_V_0_Z a_V_1_X a_V_1_Y a_V_1_Z a_V_2_X a_V_2_Y a_V_2_Z) - w64 (normalF0 a_Id a_V_0_X a_V_0_Y a_V_0_Z a_V_1_X a_V_1_Y a_V_1_Z a_V_2_X a_V_2_Y a_V_2_Z * w64 (b - a_V_0_X))) - w64 (normalF2 a_Id a_V_0_X a_V_0_Y a_V_0_Z a_V_1_X a_V_1_Y a_V_1_Z a_V_2_X a_V_2_Y a_V_2_Z * w64 (c - a_V_0_Z)))) (normalF1 a_Id a_V_0_X a_V_0_Y a_V_0_Z a_V_1_X a_V_1_Y a_V_1_Z a_V_2_X a_V_2_Y a_V_2_Z)))))
def theightStep0 (a_Id : Int) (a_V_0_X : Int) (a_V_0_Y : Int) (a_V_0_Z : Int) (a_V_1_X : Int) (a_V_1_Y : Int) (a_V_1_Z : Int) (a_V_2_X : Int) (a_V_2_Y : Int) (a_V_2_Z : Int) (b : Int) (c : Int) (n12 : Int) (n13 : Int) : Prop := (((!(n13 == 0)) = true → ((!(n13 == 0)) = true ∧ (theightI0 a_Id a_V_0_X a_V_0_Y a_V_0_Z a_V_1_X a_V_1_Y a_V_1_Z a_V_2_X a_V_2_Y a_V_2_Z b c n13 (Int.tmod n12 n13) ∧ lexLt (theightm0 a_Id a_V_0_X a_V_0_Y a_V_0_Z a_V_1_X a_V_1_Y a_V_1_Z a_V_2_X a_V_2_Y a_V_2_Z b c n13 (Int.tmod n12 n13)) (theightm0 a_Id a_V_0_X a_V_0_Y a_V_0_Z a_V_1_X a_V_1_Y a_V_1_Z a_V_2_X a_V_2_Y a_V_2_Z b c n12 n13)))) ∧ ((!(n13 == 0)) = false → ((!(n12 == 0)) = true ∧ (((decide (w64 (Int.tdiv (normalF1 a_Id a_V_0_X a_V_0_Y a_V_0_Z a_V_1_X a_V_1_Y a_V_1_Z a_V_2_X a_V_2_Y a_V_2_Z) n12) < 0)) = true → ((!(((w64 (0 - n12)) == 0))) = true ∧ ((!(((w64 (0 - n12)) == 0))) = true ∧ (Value.tuple #[Value.int .i64 (w64 (Int.tdiv (w64 (w64 (w64 (a_V_0_Y * normalF1 a_Id a_V_0_X a_V_0_Y a_V_0_Z a_V_1_X a_V_1_Y a_V_1_Z a_V_2_X a_V_2_Y a_V_2_Z) - w64 (normalF0 a_Id a_V_0_X a_V_0_Y a_V_0_Z a_V_1_X a_V_1_Y a_V_1_Z a_V_2_X a_V_2_Y a_V_2_Z * w64 (b - a_V_0_X))) - w64 (normalF2 a_Id a_V_0_X a_V_0_Y a_V_0_Z a_V_1_X a_V_1_Y a_V_1_Z a_V_2_X a_V_2_Y a_V_2_Z * w64 (c - a_V_0_Z)))) (w64 (0 - n12)))), Value.int .i64 (w64 (Int.tdiv (normalF1 a_Id a_V_0_X a_V_0_Y a_V_0_Z a_V_1_X a_V_1_Y a_V_1_Z a_V_2_X a_V_2_Y a_V_2_Z) (w64 (0 - n12)))), Value.int .i64 (0)] = Value.tuple #[Value.int .i64 (theightS0 a_Id a_V_0_X a_V_0_Y a_V_0_Z a_V_1_X a_V_1_Y a_V_1_Z a_V_2_X a_V_2_Y a_V_2_Z b c), Value.int .i64 (theightS1 a_Id a_V_0_X a_V_0_Y a_V_0_Z a_V_1_X a_V_1_Y a_V_1_Z a_V_2_X a_V_2_Y a_V_2_Z b c), Value.int .i64 (theightS2 a_Id a_V_0_X a_V_0_Y a_V_0_Z a_V_1_X a_V_1_Y a_V_1_Z a_V_2_X a_V_2_Y a_V_2_Z b c)])))) ∧ ((decide (w64 (Int.tdiv (normalF1 a_Id a_V_0_X a_V_0_Y a_V_0_Z a_V_1_X a_V_1_Y a_V_1_Z a_V_2_X a_V_2_Y a_V_2_Z) n12) < 0)) = false → ((!(n12 == 0)) = true ∧ ((!(n12 == 0)) = true ∧ (Value.tuple #[Value.int .i64 (w64 (Int.tdiv (w64 (w64 (w64 (a_V_0_Y * normalF1 a_Id a_V_0_X a_V_0_Y a_V_0_Z a_V_1_X a_V_1_Y a_V_1_Z a_V_2_X a_V_2_Y a_V_2_Z) - w64 (normalF0 a_Id a_V_0_X a_V_0_Y a_V_0_Z a_V_1_X a_V_1_Y a_V_1_Z a_V_2_X a_V_2_Y a_V_2_Z * w64 (b - a_V_0_X))) - w64 (normalF2 a_Id a_V_0_X a_V_0_Y a_V_0_Z a_V_1_X a_V_1_Y a_V_1_Z a_V_2_X a_V_2_Y a_V_2_Z * w64 (c - a_V_0_Z)))) n12)), Value.int .i64 (w64 (Int.tdiv (normalF1 a_Id a_V_0_X a_V_0_Y a_V_0_Z a_V_1_X a_V_1_Y a_V_1_Z a_V_2_X a_V_2_Y a_V_2_Z) n12)), Value.int .i64 (0)] = Value.tuple #[Value.int .i64 (theightS0 a_Id a_V_0_X a_V_0_Y a_V_0_Z a_V_1_X a_V_1_Y a_V_1_Z a_V_2_X a_V_2_Y a_V_2_Z b c), Value.int .i64 (theightS1 a_Id a_V_0_X a_V_0_Y a_V_0_Z a_V_1_X a_V_1_Y a_V_1_Z a_V_2_X a_V_2_Y a_V_2_Z b c), Value.int .i64 (theightS2 a_Id a_V_0_X a_V_0_Y a_V_0_Z a_V_1_X a_V_1_Y a_V_1_Z a_V_2_X a_V_2_Y a_V_2_Z b c)]))))))))
def theightI (j : Nat) (ρ : Env) : Prop := match j with
  | 0 => theightI0 (ρ.i 0) (ρ.i 1) (ρ.i 2) (ρ.i 3) (ρ.i 4) (ρ.i 5) (ρ.i 6) (ρ.i 7) (ρ.i 8) (ρ.i 9) (ρ.i 10) (ρ.i 11) (ρ.i 12) (ρ.i 13)
  | _ => False
noncomputable def theightm (j : Nat) (ρ : Env) : Nat × Nat := match j with
  | 0 => theightm0 (ρ.i 0) (ρ.i 1) (ρ.i 2) (ρ.i 3) (ρ.i 4) (ρ.i 5) (ρ.i 6) (ρ.i 7) (ρ.i 8) (ρ.i 9) (ρ.i 10) (ρ.i 11) (ρ.i 12) (ρ.i 13)
  | _ => (0, 0)
noncomputable def theightF_i (cs : List Value) (j : Nat) : Int := match j with
  | 0 => theightS0 (intOf (cs.getD 0 .nilIface)) (intOf (cs.getD 1 .nilIface)) (intOf (cs.getD 2 .nilIface)) (intOf (cs.getD 3 .nilIface)) (intOf (cs.getD 4 .nilIface)) (intOf (cs.getD 5 .nilIface)) (intOf (cs.getD 6 .nilIface)) (intOf (cs.getD 7 .nilIface)) (intOf (cs.getD 8 .nilIface)) (intOf (cs.getD 9 .nilIface)) (intOf (cs.getD 10 .nilIface)) (intOf (cs.getD 11 .nilIface))
  | 1 => theightS1 (intOf (cs.getD 0 .nilIface)) (intOf (cs.getD 1 .nilIface)) (intOf (cs.getD 2 .nilIface)) (intOf (cs.getD 3 .nilIface)) (intOf (cs.getD 4 .nilIface)) (intOf (cs.getD 5 .nilIface)) (intOf (cs.getD 6 .nilIface)) (intOf (cs.getD 7 .nilIface)) (intOf (cs.getD 8 .nilIface)) (intOf (cs.getD 9 .nilIface)) (intOf (cs.getD 10 .nilIface)) (intOf (cs.getD 11 .nilIface))
  | 2 => theightS2 (intOf (cs.getD 0 .nilIface)) (intOf (cs.getD 1 .nilIface)) (intOf (cs.getD 2 .nilIface)) (intOf (cs.getD 3 .nilIface)) (intOf (cs.getD 4 .nilIface)) (intOf (cs.getD 5 .nilIface)) (intOf (cs.getD 6 .nilIface)) (intOf (cs.getD 7 .nilIface)) (intOf (cs.getD 8 .nilIface)) (intOf (cs.getD 9 .nilIface)) (intOf (cs.getD 10 .nilIface)) (intOf (cs.getD 11 .nilIface))
  | _ => 0
noncomputable def theightC : Con := { f := 56, params := [(some 0, [.i, .i, .i, .i, .i, .i, .i, .i, .i, .i]), int1, int1], tup := true, res := [int1, int1, int1], fi := theightF_i, fb := fun _ _ => true, fv := fun _ _ => .nilIface }
noncomputable def theightF0 (a_Id : Int) (a_V_0_X : Int) (a_V_0_Y : Int) (a_V_0_Z : Int) (a_V_1_X : Int) (a_V_1_Y : Int) (a_V_1_Z : Int) (a_V_2_X : Int) (a_V_2_Y : Int) (a_V_2_Z : Int) (b : Int) (c : Int) : Int := theightC.fi [.int .i64 a_Id, .int .i64 a_V_0_X, .int .i64 a_V_0_Y, .int .i64 a_V_0_Z, .int .i64 a_V_1_X, .int .i64 a_V_1_Y, .int .i64 a_V_1_Z, .int .i64 a_V_2_X, .int .i64 a_V_2_Y, .int .i64 a_V_2_Z, .int .i64 b, .int .i64 c] 0
theorem theightF0_eq (a_Id : Int) (a_V_0_X : Int) (a_V_0_Y : Int) (a_V_0_Z : Int) (a_V_1_X : Int) (a_V_1_Y : Int) (a_V_1_Z : Int) (a_V_2_X : Int) (a_V_2_Y : Int) (a_V_2_Z : Int) (b : Int) (c : Int) : theightF0 a_Id a_V_0_X a_V_0_Y a_V_0_Z a_V_1_X a_V_1_Y a_V_1_Z a_V_2_X a_V_2_Y a_V_2_Z b c = theightS0 a_Id a_V_0_X a_V_0_Y a_V_0_Z a_V_1_X a_V_1_Y a_V_1_Z a_V_2_X a_V_2_Y a_V_2_Z b c := rfl
noncomputable def theightF1 (a_Id : Int) (a_V_0_X : Int) (a_V_0_Y : Int) (a_V_0_Z : Int) (a_V_1_X : Int) (a_V_1_Y : Int) (a_V_1_Z : Int) (a_V_2_X : Int) (a_V_2_Y : Int) (a_V_2_Z : Int) (b : Int) (c : Int) : Int := theightC.fi [.int .i64 a_Id, .int .i64 a_V_0_X, .int .i64 a_V_0_Y, .int .i64 a_V_0_Z, .int .i64 a_V_1_X, .int .i64 a_V_1_Y, .int .i64 a_V_1_Z, .int .i64 a_V_2_X, .int .i64 a_V_2_Y, .int .i64 a_V_2_Z, .int .i64 b, .int .i64 c] 1
theorem theightF1_eq (a_Id : Int) (a_V_0_X : Int) (a_V_0_Y : Int) (a_V_0_Z : Int) (a_V_1_X : Int) (a_V_1_Y : Int) (a_V_1_Z : Int) (a_V_2_X : Int) (a_V_2_Y : Int) (a_V_2_Z : Int) (b : Int) (c : Int) : theightF1 a_Id a_V_0_X a_V_0_Y a_V_0_Z a_V_1_X a_V_1_Y a_V_1_Z a_V_2_X a_V_2_Y a_V_2_Z b c = theightS1 a_Id a_V_0_X a_V_0_Y a_V_0_Z a_V_1_X a_V_1_Y a_V_1_Z a_V_2_X a_V_2_Y a_V_2_Z b c := rfl
noncomputable def theightF2 (a_Id : Int) (a_V_0_X : Int) (a_V_0_Y : Int) (a_V_0_Z : Int) (a_V_1_X : Int) (a_V_1_Y : Int) (a_V_1_Z : Int) (a_V_2_X : Int) (a_V_2_Y : Int) (a_V_2_Z : Int) (b : Int) (c : Int) : Int := theightC.fi [.int .i64 a_Id, .int .i64 a_V_0_X, .int .i64 a_V_0_Y, .int .i64 a_V_0_Z, .int .i64 a_V_1_X, .int .i64 a_V_1_Y, .int .i64 a_V_1_Z, .int .i64 a_V_2_X, .int .i64 a_V_2_Y, .int .i64 a_V_2_Z, .int .i64 b, .int .i64 c] 2
theorem theightF2_eq (a_Id : Int) (a_V_0_X : Int) (a_V_0_Y : Int) (a_V_0_Z : Int) (a_V_1_X : Int) (a_V_1_Y : Int) (a_V_1_Z : Int) (a_V_2_X : Int) (a_V_2_Y : Int) (a_V_2_Z : Int) (b : Int) (c : Int) : theightF2 a_Id a_V_0_X a_V_0_Y a_V_0_Z a_V_1_X a_V_1_Y a_V_1_Z a_V_2_X a_V_2_Y a_V_2_Z b c = theightS2 a_Id a_V_0_X a_V_0_Y a_V_0_Z a_V_1_X a_V_1_Y a_V_1_Z a_V_2_X a_V_2_Y a_V_2_Z b c := rfl
theorem theight_start (i x0 y0 z0 x1 y1 z1 x2 y2 z2 b c : Int) : theightStart i x0 y0 z0 x1 y1 z1 x2 y2 z2 b c := by
  unfold theightStart theightS0 theightS1 theightS2
  obtain ⟨v0, v1, v2, v3⟩ := normal_val i x0 y0 z0 x1 y1 z1 x2 y2 z2
  rw [v0, v1, v2, v3, rng_val]
  by_cases h : okT x0 y0 z0 x1 y1 z1 x2 y2 z2
  · simp only [if_pos h]
    refine ⟨fun h0 => by simp at h0, fun _ => ⟨fun h1 => ?_, fun h1 => ?_⟩⟩
    · have hr : ¬ rngP b c := by simpa using h1
      rw [if_neg (fun e => hr e.2), if_neg (fun e => hr e.2), if_neg (fun e => hr e.2)]
    · have hr : rngP b c := by simpa using h1
      exact ⟨⟨h, hr⟩, by rw [(num_val h hr).1]⟩
  · simp only [if_neg h]
    refine ⟨fun _ => by rw [if_neg (fun e => h e.1), if_neg (fun e => h e.1), if_neg (fun e => h e.1)], fun h0 => by simp at h0⟩
theorem theight_step0 (i x0 y0 z0 x1 y1 z1 x2 y2 z2 b c n12 n13 : Int) (h : theightI0 i x0 y0 z0 x1 y1 z1 x2 y2 z2 b c n12 n13) : theightStep0 i x0 y0 z0 x1 y1 z1 x2 y2 z2 b c n12 n13 := by
  obtain ⟨hk, hg⟩ := h
  unfold theightStep0 theightS0 theightS1 theightS2
  obtain ⟨v0, v1, v2, v3⟩ := normal_val i x0 y0 z0 x1 y1 z1 x2 y2 z2
  rw [v0, v1, v2, if_pos hk.1, if_pos hk.1, if_pos hk.1, if_pos hk, if_pos hk, if_pos hk, (num_val hk.1 hk.2).1]
  refine ⟨fun hn => ?_, fun hn => ?_⟩
  · have h3 : n13 ≠ 0 := by simpa using hn
    exact ⟨hn, ⟨hk, by rw [grt_step h3]; exact hg⟩, .inl (rest_small h3)⟩
  · have h3 : n13 = 0 := by simpa using hn
    subst h3
    rw [grt_zero] at hg
    have hb := nY_bd hk.1.1
    have hN := (num_val hk.1 hk.2).2
    have hd := hk.1.2
    have g1 := grt_ne (a := hNum x0 y0 z0 x1 y1 z1 x2 y2 z2 b c) hd
    have g2 := grt_le (a := hNum x0 y0 z0 x1 y1 z1 x2 y2 z2 b c) hd
    unfold hgt
    rw [← hg] at *
    generalize hNum x0 y0 z0 x1 y1 z1 x2 y2 z2 b c = num at *
    generalize nY x0 y0 z0 x1 y1 z1 x2 y2 z2 = den at *
    have e0 : w64 (0 - n12) = -n12 := by rw [w64_id] <;> omega
    have t1 : ∀ x y : Int, -100000000 ≤ x → x ≤ 100000000 → w64 (Int.tdiv x y) = Int.tdiv x y := fun x y h1 h2 => by
      have := tdiv_bd x y (by omega) (by omega)
      rw [w64_id] <;> omega
    rw [e0, t1 den n12 (by omega) (by omega), t1 num n12 (by omega) (by omega), t1 num (-n12) (by omega) (by omega), t1 den (-n12) (by omega) (by omega)]
    have nz : (!(n12 == 0)) = true := by simpa using g1
    have nz2 : (!(-n12 == 0)) = true := by simp; omega
    refine ⟨nz, fun hl => ⟨nz2, nz2, ?_⟩, fun hl => ⟨nz, nz, ?_⟩⟩
    · have hl : Int.tdiv den n12 < 0 := by simpa using hl
      rw [if_pos hl]
    · have hl : ¬ Int.tdiv den n12 < 0 := by simpa using hl
      rw [if_neg hl]
theorem theightC_holds : theightC.holds Try.prog := by
  have hn : ∀ j, 12 ≤ nOf theightHs j ∨ theightHs.length ≤ j := by
    intro j
    match j with
    | 0 => exact .inl (by rw [show nOf theightHs 0 = 12 by kernel_rfl]; decide)
    | n + 1 => exact .inr (Nat.le_add_left _ _)
  refine con_of_heads (x := theightC) (Γ := theightΓ) (by exact (cons_holds normalC_holds nil_holds)) 4000 12 (fn := Try.f56) Try.func56 (by kernel_rfl) (by kernel_rfl) theightHs [0] [[0]] hn (by kernel_rfl) (by kernel_rfl) theightI theightm ?_ ?_
  · rintro cs ⟨a_Id, _, rfl, a_V_0_X, _, rfl, a_V_0_Y, _, rfl, a_V_0_Z, _, rfl, a_V_1_X, _, rfl, a_V_1_Y, _, rfl, a_V_1_Z, _, rfl, a_V_2_X, _, rfl, a_V_2_Y, _, rfl, a_V_2_Z, _, rfl, b, _, rfl, c, _, rfl, rfl⟩
    refine Eq.mpr (?_ : _ = theightStart a_Id a_V_0_X a_V_0_Y a_V_0_Z a_V_1_X a_V_1_Y a_V_1_Z a_V_2_X a_V_2_Y a_V_2_Z b c) (theight_start a_Id a_V_0_X a_V_0_Y a_V_0_Z a_V_1_X a_V_1_Y a_V_1_Z a_V_2_X a_V_2_Y a_V_2_Z b c)
    kernel_rfl
  · rintro cs ⟨a_Id, _, rfl, a_V_0_X, _, rfl, a_V_0_Y, _, rfl, a_V_0_Z, _, rfl, a_V_1_X, _, rfl, a_V_1_Y, _, rfl, a_V_1_Z, _, rfl, a_V_2_X, _, rfl, a_V_2_Y, _, rfl, a_V_2_Z, _, rfl, b, _, rfl, c, _, rfl, rfl⟩ j hd tgt hj ht ⟨fi, fb, fv, fns⟩ hag hI
    obtain rfl : fns = theightΓ := hag.fns
    match j, hj, ht, hI with
    | 0, hj, ht, hI =>
      obtain rfl : theightX0.1 = hd := Option.some.inj hj
      obtain rfl : [0] = tgt := Option.some.inj ht
      have e0 : fi 0 = a_Id := hag.i 0 (by decide)
      subst e0
      have e1 : fi 1 = a_V_0_X := hag.i 1 (by decide)
      subst e1
      have e2 : fi 2 = a_V_0_Y := hag.i 2 (by decide)
      subst e2
      have e3 : fi 3 = a_V_0_Z := hag.i 3 (by decide)
      subst e3
      have e4 : fi 4 = a_V_1_X := hag.i 4 (by decide)
      subst e4
      have e5 : fi 5 = a_V_1_Y := hag.i 5 (by decide)
      subst e5
      have e6 : fi 6 = a_V_1_Z := hag.i 6 (by decide)
      subst e6
      have e7 : fi 7 = a_V_2_X := hag.i 7 (by decide)
      subst e7
      have e8 : fi 8 = a_V_2_Y := hag.i 8 (by decide)
      subst e8
      have e9 : fi 9 = a_V_2_Z := hag.i 9 (by decide)
      subst e9
      have e10 : fi 10 = b := hag.i 10 (by decide)
      subst e10
      have e11 : fi 11 = c := hag.i 11 (by decide)
      subst e11
      refine Eq.mpr (?_ : _ = theightStep0 (fi 0) (fi 1) (fi 2) (fi 3) (fi 4) (fi 5) (fi 6) (fi 7) (fi 8) (fi 9) (fi 10) (fi 11) (fi 12) (fi 13)) (theight_step0 (fi 0) (fi 1) (fi 2) (fi 3) (fi 4) (fi 5) (fi 6) (fi 7) (fi 8) (fi 9) (fi 10) (fi 11) (fi 12) (fi 13) hI)
      kernel_rfl
    | n + 1, hj, _, _ => cases hj

/-! footpath/footpathref01.Greatest, which has loops: heads 0: n2 n3 -/
noncomputable def greatestΓ : List Con := []
noncomputable def greatestW : T := walk0 Try.prog greatestΓ 4000 Try.f99 [int1, int1]
noncomputable def greatestX0 : Head × Nat := headAt [] [] 2 (standAt greatestW 0)
noncomputable def greatestV0 : T := greatestX0.1.walk Try.prog greatestΓ 4000
noncomputable def greatestHs : List Head := [greatestX0.1]
noncomputable def greatestS0 (a b : Int) : Int := grt a b
def greatestI0 (a b n2 n3 : Int) : Prop := grt n2 n3 = grt a b
def greatestm0 (_a _b _n2 n3 : Int) : Nat × Nat := (n3.natAbs, 0)
def greatestStart (a : Int) (b : Int) : Prop := greatestI0 a b a b
def greatestStep0 (a : Int) (b : Int) (n2 : Int) (n3 : Int) : Prop := (((!(n3 == 0)) = true → ((!(n3 == 0)) = true ∧ (greatestI0 a b n3 (Int.tmod n2 n3) ∧ lexLt (greatestm0 a b n3 (Int.tmod n2 n3)) (greatestm0 a b n2 n3)))) ∧ ((!(n3 == 0)) = false → (Value.int .i64 (n2) = Value.int .i64 (greatestS0 a b))))
def greatestI (j : Nat) (ρ : Env) : Prop := match j with
  | 0 => greatestI0 (ρ.i 0) (ρ.i 1) (ρ.i 2) (ρ.i 3)
  | _ => False
noncomputable def greatestm (j : Nat) (ρ : Env) : Nat × Nat := match j with
  | 0 => greatestm0 (ρ.i 0) (ρ.i 1) (ρ.i 2) (ρ.i 3)
  | _ => (0, 0)
noncomputable def greatestF_i (cs : List Value) (j : Nat) : Int := match j with
  | 0 => greatestS0 (intOf (cs.getD 0 .nilIface)) (intOf (cs.getD 1 .nilIface))
  | _ => 0
noncomputable def greatestC : Con := { f := 99, params := [int1, int1], tup := false, res := [int1], fi := greatestF_i, fb := fun _ _ => true, fv := fun _ _ => .nilIface }
noncomputable def greatestF (a : Int) (b : Int) : Int := greatestC.fi [.int .i64 a, .int .i64 b] 0
theorem greatestF_eq (a : Int) (b : Int) : greatestF a b = greatestS0 a b := rfl
theorem greatest_start (a : Int) (b : Int) : greatestStart a b := rfl
theorem greatest_step0 (a : Int) (b : Int) (n2 : Int) (n3 : Int) (h : greatestI0 a b n2 n3) : greatestStep0 a b n2 n3 := by
  unfold greatestStep0
  unfold greatestI0 at *
  refine ⟨fun hn => ?_, fun hn => ?_⟩
  · have h3 : n3 ≠ 0 := by simpa using hn
    exact ⟨hn, by rw [grt_step h3]; exact h, .inl (rest_small h3)⟩
  · have h3 : n3 = 0 := by simpa using hn
    subst h3
    rw [grt_zero] at h
    rw [h]
    rfl
theorem greatestC_holds : greatestC.holds Try.prog := by
  have hn : ∀ j, 2 ≤ nOf greatestHs j ∨ greatestHs.length ≤ j := by
    intro j
    match j with
    | 0 => exact .inl (by rw [show nOf greatestHs 0 = 2 by kernel_rfl]; decide)
    | n + 1 => exact .inr (Nat.le_add_left _ _)
  refine con_of_heads (x := greatestC) (Γ := greatestΓ) (by exact nil_holds) 4000 2 (fn := Try.f99) Try.func99 (by kernel_rfl) (by kernel_rfl) greatestHs [0] [[0]] hn (by kernel_rfl) (by kernel_rfl) greatestI greatestm ?_ ?_
  · rintro cs ⟨a, _, rfl, b, _, rfl, rfl⟩
    refine Eq.mpr (?_ : _ = greatestStart a b) (greatest_start a b)
    kernel_rfl
  · rintro cs ⟨a, _, rfl, b, _, rfl, rfl⟩ j hd tgt hj ht ⟨fi, fb, fv, fns⟩ hag hI
    obtain rfl : fns = greatestΓ := hag.fns
    match j, hj, ht, hI with
    | 0, hj, ht, hI =>
      obtain rfl : greatestX0.1 = hd := Option.some.inj hj
      obtain rfl : [0] = tgt := Option.some.inj ht
      have e0 : fi 0 = a := hag.i 0 (by decide)
      subst e0
      have e1 : fi 1 = b := hag.i 1 (by decide)
      subst e1
      refine Eq.mpr (?_ : _ = greatestStep0 (fi 0) (fi 1) (fi 2) (fi 3)) (greatest_step0 (fi 0) (fi 1) (fi 2) (fi 3) hI)
      kernel_rfl
    | n + 1, hj, _, _ => cases hj

end Go.Proofs.Yteneneadfpkahaa
