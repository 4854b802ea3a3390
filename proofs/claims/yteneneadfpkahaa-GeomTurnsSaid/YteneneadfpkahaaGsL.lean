/- What the law of swaps tells is true. No conditions. -/
import Derived.Test.YteneneadfpkahaaGsM
namespace Go.Proofs.Yteneneadfpkahaa
open Go Go.RowKit Go.Sx
set_option maxRecDepth 100000
theorem wakes02_true : wakes02F = true := by kernel_rfl
def Sm (x : Int) : Prop := -262144 < x ∧ x < 262144
theorem sm_tmod (x : Int) : Sm (Int.tmod x 262144) := ⟨Int.lt_tmod_of_pos x (by decide), Int.tmod_lt_of_pos x (by decide)⟩
theorem small0 (x z : Int) : smallF0 x z = Int.tmod x 262144 := by rw [smallF0_eq, at2F0_eq]
theorem small1 (x z : Int) : smallF1 x z = Int.tmod z 262144 := by rw [smallF1_eq, at2F1_eq]
theorem add0 {x z y v : Int} (h : Sm x) (k : Sm y) : add2F0 x z y v = x + y := by
  unfold Sm at *; rw [add2F0_eq, at2F0_eq, w64_id] <;> omega
theorem add1 {x z y v : Int} (h : Sm z) (k : Sm v) : add2F1 x z y v = z + v := by
  unfold Sm at *; rw [add2F1_eq, at2F1_eq, w64_id] <;> omega
theorem back0 {x z : Int} (h : Sm x) : back2F0 x z = -x := by
  unfold Sm at *; rw [back2F0_eq, at2F0_eq, w64_id] <;> omega
theorem back1 {x z : Int} (h : Sm z) : back2F1 x z = -z := by
  unfold Sm at *; rw [back2F1_eq, at2F1_eq, w64_id] <;> omega
theorem Sm.bd {x : Int} (h : Sm x) : Bd x := by unfold Sm at h; unfold Bd; omega
theorem Sm.add {x y : Int} (h : Sm x) (k : Sm y) : Bd (x + y) := by unfold Sm at *; unfold Bd; omega
theorem Sm.neg {x : Int} (h : Sm x) : Bd (-x) := by unfold Sm at *; unfold Bd; omega
theorem far_comm {ax az bx bz : Int} (h1 : Bd ax) (h2 : Bd az) (h3 : Bd bx) (h4 : Bd bz) : farF bx bz ax az = farF ax az bx bz := by
  rw [farF_eq, farF_eq, gin_id0 h1, gin_id1 h2, gin_id0 h3, gin_id1 h4]
  unfold Bd at *
  have e1 : w64 (bx - ax) = -(ax - bx) := by rw [w64_id] <;> omega
  have e2 : w64 (ax - bx) = ax - bx := by rw [w64_id] <;> omega
  have e3 : w64 (bz - az) = -(az - bz) := by rw [w64_id] <;> omega
  have e4 : w64 (az - bz) = az - bz := by rw [w64_id] <;> omega
  rw [e1, e2, e3, e4, neg_mul_neg', neg_mul_neg']
theorem sgn_w (n : Int) : w64 (0 - sgn n) = -sgn n := by have := sgn_bd n; rw [w64_id] <;> omega
theorem swaps_key {ax az bx bz cx cz dx dz ex ez : Int} (h1 : Sm ax) (h2 : Sm az) (h3 : Sm bx) (h4 : Sm bz) (h5 : Sm cx) (h6 : Sm cz) (h7 : Sm dx) (h8 : Sm dz) (h9 : Sm ex) (h10 : Sm ez) :
    turnF bx bz ax az cx cz = w64 (0 - turnF ax az bx bz cx cz) ∧ turnF ax az cx cz bx bz = w64 (0 - turnF ax az bx bz cx cz) ∧ turnF bx bz cx cz ax az = turnF ax az bx bz cx cz ∧
    turnF (add2F0 ax az ex ez) (add2F1 ax az ex ez) (add2F0 bx bz ex ez) (add2F1 bx bz ex ez) (add2F0 cx cz ex ez) (add2F1 cx cz ex ez) = turnF ax az bx bz cx cz ∧
    turnF (back2F0 ax az) (back2F1 ax az) (back2F0 bx bz) (back2F1 bx bz) (back2F0 cx cz) (back2F1 cx cz) = turnF ax az bx bz cx cz ∧
    gmeetF bx bz ax az cx cz dx dz = gmeetF ax az bx bz cx cz dx dz ∧ gmeetF ax az bx bz dx dz cx cz = gmeetF ax az bx bz cx cz dx dz ∧ gmeetF cx cz dx dz ax az bx bz = gmeetF ax az bx bz cx cz dx dz ∧
    gmeetF (add2F0 ax az ex ez) (add2F1 ax az ex ez) (add2F0 bx bz ex ez) (add2F1 bx bz ex ez) (add2F0 cx cz ex ez) (add2F1 cx cz ex ez) (add2F0 dx dz ex ez) (add2F1 dx dz ex ez) = gmeetF ax az bx bz cx cz dx dz ∧
    onF ax az bx bz ax az = true ∧ onF ax az bx bz bx bz = true ∧ farF ax az bx bz = farF bx bz ax az := by
  rw [add0 h1 h9, add1 h2 h10, add0 h3 h9, add1 h4 h10, add0 h5 h9, add1 h6 h10, add0 h7 h9, add1 h8 h10, back0 h1, back1 h2, back0 h3, back1 h4, back0 h5, back1 h6]
  rw [turn_bd h3.bd h4.bd h1.bd h2.bd h5.bd h6.bd, turn_bd h1.bd h2.bd h3.bd h4.bd h5.bd h6.bd, turn_bd h1.bd h2.bd h5.bd h6.bd h3.bd h4.bd, turn_bd h3.bd h4.bd h5.bd h6.bd h1.bd h2.bd,
    turn_bd (h1.add h9) (h2.add h10) (h3.add h9) (h4.add h10) (h5.add h9) (h6.add h10), turn_bd h1.neg h2.neg h3.neg h4.neg h5.neg h6.neg,
    meet_bd h3.bd h4.bd h1.bd h2.bd h5.bd h6.bd h7.bd h8.bd, meet_bd h1.bd h2.bd h3.bd h4.bd h5.bd h6.bd h7.bd h8.bd, meet_bd h1.bd h2.bd h3.bd h4.bd h7.bd h8.bd h5.bd h6.bd, meet_bd h5.bd h6.bd h7.bd h8.bd h1.bd h2.bd h3.bd h4.bd,
    meet_bd (h1.add h9) (h2.add h10) (h3.add h9) (h4.add h10) (h5.add h9) (h6.add h10) (h7.add h9) (h8.add h10), on_bd h1.bd h2.bd h3.bd h4.bd h1.bd h2.bd, on_bd h1.bd h2.bd h3.bd h4.bd h3.bd h4.bd, sgn_w]
  refine ⟨by rw [gT_swap1, sgn_neg], by rw [gT_swap2, sgn_neg], by rw [gT_rot], by rw [gT_add], by rw [gT_back], meetM_swap1 .., meetM_swap2 .., meetM_turn .., meetM_add .., onM_end1 .., onM_end2 .., far_comm h3.bd h4.bd h1.bd h2.bd⟩
theorem geomSwaps_true (a_X a_Z b_X b_Z c_X c_Z d_X d_Z e_X e_Z : Int) : geomSwapsF a_X a_Z b_X b_Z c_X c_Z d_X d_Z e_X e_Z = true := by
  rw [geomSwapsF_eq]
  simp only [small0, small1]
  obtain ⟨p1, p2, p3, p4, p5, p6, p7, p8, p9, p10, p11, p12⟩ := swaps_key (sm_tmod a_X) (sm_tmod a_Z) (sm_tmod b_X) (sm_tmod b_Z) (sm_tmod c_X) (sm_tmod c_Z) (sm_tmod d_X) (sm_tmod d_Z) (sm_tmod e_X) (sm_tmod e_Z)
  rw [p1, p2, p3, p4, p5, p6, p7, p8, p9, p10, p11, p12, wakes02_true]
  simp
end Go.Proofs.Yteneneadfpkahaa
