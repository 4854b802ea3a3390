/- What the laws of layer 1 tell is true. No conditions. -/
import Derived.Test.YteneneadfpkahaaWhM
import Derived.Test.YteneneadfpkahaaWl
namespace Go.Proofs.Yteneneadfpkahaa
open Go Go.RowKit Go.Sx
theorem wakes01_true : wakes01F = true := by
  rw [wakes01F_eq]
  simp only [floorF0_flo, floorF1_flo, ceilF0_flo, ceilF1_flo, root0, root1, rootUp0, rootUp1]
  decide +kernel
theorem wholeConfig_true (a b c d e f g : Int) : wholeConfigF a b c d e f g = true := by
  rw [wholeConfigF_eq, checkF_checkRF, wakes01_true]; simp
theorem wholeTells_true (a b c d : Int) : wholeTellsF a b c d = true := by
  rw [wholeTellsF_eq, wakes01_true]
  simp only [floorF0_flo, floorF1_flo, rFloorF0_flo, rFloorF1_flo, ceilF0_flo, ceilF1_flo, rCeilF0_flo, rCeilF1_flo, signF_r, modF0_mod, modF1_mod, rModF0_mod, rModF1_mod, crossF0_r, crossF1_r, root0, root1, rootUp0, rootUp1, rRoot0, rRoot1, rRootUp0, rRootUp1]
  simp
theorem rCross_val (a b c d : Int) : (rCrossF0 a b c d = 0 ∧ rCrossF1 a b c d = 2) ∧ (a < -1073741824 ∨ 1073741824 < a ∨ b < -1073741824 ∨ 1073741824 < b ∨ c < -1073741824 ∨ 1073741824 < c ∨ d < -1073741824 ∨ 1073741824 < d) ∨
    (rCrossF0 a b c d = a * d - b * c ∧ rCrossF1 a b c d = 0) ∧ ¬ (a < -1073741824 ∨ 1073741824 < a ∨ b < -1073741824 ∨ 1073741824 < b ∨ c < -1073741824 ∨ 1073741824 < c ∨ d < -1073741824 ∨ 1073741824 < d) := by
  rw [rCrossF0_eq, rCrossF1_eq]
  by_cases h : (a < -1073741824 ∨ 1073741824 < a ∨ b < -1073741824 ∨ 1073741824 < b ∨ c < -1073741824 ∨ 1073741824 < c ∨ d < -1073741824 ∨ 1073741824 < d)
  · left
    have hg : (((((((decide (a < (-1073741824)) || decide (1073741824 < a)) || decide (b < (-1073741824))) || decide (1073741824 < b)) || decide (c < (-1073741824))) || decide (1073741824 < c)) || decide (d < (-1073741824))) || decide (1073741824 < d)) = true := by
      simp only [Bool.or_eq_true, decide_eq_true_eq]; omega
    rw [hg]
    exact ⟨⟨rfl, rfl⟩, h⟩
  · right
    have hg : (((((((decide (a < (-1073741824)) || decide (1073741824 < a)) || decide (b < (-1073741824))) || decide (1073741824 < b)) || decide (c < (-1073741824))) || decide (1073741824 < c)) || decide (d < (-1073741824))) || decide (1073741824 < d)) = false := by
      simp only [Bool.or_eq_false_iff, decide_eq_false_iff_not]; omega
    rw [hg]
    have h1 := mul_abs_le (x := a) (y := d) (X := 1073741824) (Y := 1073741824) (by omega) (by omega) (by omega) (by omega)
    have h2 := mul_abs_le (x := b) (y := c) (X := 1073741824) (Y := 1073741824) (by omega) (by omega) (by omega) (by omega)
    have e1 : w64 (a * d) = a * d := by rw [w64_id] <;> omega
    have e2 : w64 (b * c) = b * c := by rw [w64_id] <;> omega
    rw [e1, e2, cond_false, cond_false]
    exact ⟨⟨by rw [w64_id] <;> omega, rfl⟩, h⟩
theorem wholeCross_true (a b c d : Int) : wholeCrossF a b c d = true := by
  rw [wholeCrossF_eq, wakes01_true]
  simp only [crossF0_r, crossF1_r]
  rcases rCross_val a b c d with ⟨⟨h1, h2⟩, h3⟩ | ⟨⟨h1, h2⟩, h3⟩
  · rcases rCross_val c d a b with ⟨⟨k1, k2⟩, k3⟩ | ⟨⟨k1, k2⟩, k3⟩
    · rcases rCross_val a b a b with ⟨⟨l1, l2⟩, l3⟩ | ⟨⟨l1, l2⟩, l3⟩
      · rw [h1, h2, k1, k2, l1]; rfl
      · have hz : a * b - b * a = 0 := by rw [Int.mul_comm b a, Int.sub_self]
        rw [h1, h2, k1, k2, l1, hz]; rfl
    · omega
  · rcases rCross_val c d a b with ⟨⟨k1, k2⟩, k3⟩ | ⟨⟨k1, k2⟩, k3⟩
    · omega
    · rcases rCross_val a b a b with ⟨⟨l1, l2⟩, l3⟩ | ⟨⟨l1, l2⟩, l3⟩
      · omega
      · have e1 := mul_abs_le (x := a) (y := d) (X := 1073741824) (Y := 1073741824) (by omega) (by omega) (by omega) (by omega)
        have e2 := mul_abs_le (x := b) (y := c) (X := 1073741824) (Y := 1073741824) (by omega) (by omega) (by omega) (by omega)
        rw [h1, h2, k1, k2, l1, l2, Int.mul_comm b a, Int.sub_self, Int.mul_comm c b, Int.mul_comm d a, w64_neg (by omega) (by omega)]
        have : -(b * c - a * d) = a * d - b * c := by omega
        rw [this]
        simp
theorem wholeMod_true (a b c : Int) : wholeModF a b c = true := by
  rw [wholeModF_eq, wakes01_true]
  by_cases h : a < -1073741824 ∨ 1073741824 < a ∨ b < 1 ∨ 1073741824 < b ∨ c < -1000 ∨ 1000 < c
  · have hg : (((((decide (a < (-1073741824)) || decide (1073741824 < a)) || decide (b < 1)) || decide (1073741824 < b)) || decide (c < (-1000))) || decide (1000 < c)) = true := by
      simp only [Bool.or_eq_true, decide_eq_true_eq]; omega
    rw [hg]; rfl
  · have hg : (((((decide (a < (-1073741824)) || decide (1073741824 < a)) || decide (b < 1)) || decide (1073741824 < b)) || decide (c < (-1000))) || decide (1000 < c)) = false := by
      simp only [Bool.or_eq_false_iff, decide_eq_false_iff_not]; omega
    rw [hg, cond_false]
    have e2 := mul_abs_le (x := b) (y := c) (X := 1073741824) (Y := 1000) (by omega) (by omega) (by omega) (by omega)
    have w1 : w64 (b * c) = b * c := by rw [w64_id] <;> omega
    have w2 : w64 (a + b * c) = a + b * c := by rw [w64_id] <;> omega
    have cb : cl61 b = b := cl61_id (by omega) (by omega)
    have ca : cl61 a = a := cl61_id (by omega) (by omega)
    have cc : cl61 (a + b * c) = a + b * c := cl61_id (by omega) (by omega)
    simp only [floorF0_flo, floorF1_flo, modF0_mod, modF1_mod, w1, w2, ca, cb, cc, flo]
    have nb : ¬ b < 1 := by omega
    have nb0 : ¬ b = 0 := by omega
    have nbn : ¬ b < 0 := by omega
    simp only [nb, nb0, nbn, if_false]
    rw [Int.add_mul_emod_self_left]
    have hd := ediv_bd a b 1073741824 (by omega) (by omega) (by omega)
    have h1 := Int.mul_ediv_add_emod a b
    have h2 := Int.emod_nonneg a (by omega : b ≠ 0)
    have h3 := Int.emod_lt_of_pos a (by omega : 0 < b)
    have w3 : w64 (b * (a / b)) = b * (a / b) := by rw [w64_id] <;> omega
    have w4 : w64 (a - b * (a / b)) = a % b := by rw [w64_id] <;> omega
    rw [w3, w4, decide_eq_false (by omega : ¬ a / b < -1073741824), decide_eq_false (by omega : ¬ 1073741824 < a / b)]
    simp
end Go.Proofs.Yteneneadfpkahaa
