/- The law WholeFloors: what its call tells is true. No conditions. -/
import Derived.Test.YteneneadfpkahaaWlM
import Derived.Test.YteneneadfpkahaaWf
namespace Go.Proofs.Yteneneadfpkahaa
open Go Go.RowKit Go.Sx
theorem neg_fl (a b : Int) (hb : 0 < b) : (a % b = 0 ∧ (-a) / b = -(a / b)) ∨ (0 < a % b ∧ (-a) / b = -(a / b) - 1) := by
  have h1 := Int.mul_ediv_add_emod a b
  have h2 := Int.mul_ediv_add_emod (-a) b
  have h3 := Int.emod_nonneg a (by omega : b ≠ 0)
  have h4 := Int.emod_lt_of_pos a hb
  have h5 := Int.emod_nonneg (-a) (by omega : b ≠ 0)
  have h6 := Int.emod_lt_of_pos (-a) hb
  generalize a / b = q at *
  generalize a % b = r at *
  generalize (-a) / b = s at *
  generalize (-a) % b = t at *
  have e : b * (-q - s) = r + t := by
    have : b * (-q - s) = -(b * q) - b * s := by rw [Int.mul_sub, Int.mul_neg]
    omega
  generalize hu : -q - s = u at *
  have u0 : 0 ≤ u := by
    rcases Int.lt_or_le u 0 with h | h
    · have := Int.mul_le_mul_of_nonneg_left (show u ≤ -1 by omega) (show 0 ≤ b by omega)
      omega
    · exact h
  have u1 : u ≤ 1 := by
    rcases Int.lt_or_le 1 u with h | h
    · have := Int.mul_le_mul_of_nonneg_left (show 2 ≤ u by omega) (show 0 ≤ b by omega)
      omega
    · exact h
  have : u = 0 ∨ u = 1 := by omega
  rcases this with rfl | rfl
  · left; simp at e; omega
  · right; simp at e; omega
theorem tdiv_fl (a b : Int) (hb : 0 < b) : a / b = Int.tdiv a b ∨ a / b = Int.tdiv a b - 1 := by
  rcases Int.lt_or_le a 0 with h | h
  · have e : Int.tdiv a b = -((-a) / b) := by
      rw [show a = -(-a) by omega, Int.neg_tdiv, Int.tdiv_eq_ediv_of_nonneg (by omega)]
      simp
    rw [e]
    rcases neg_fl a b hb with ⟨_, h1⟩ | ⟨_, h1⟩ <;> omega
  · left; rw [Int.tdiv_eq_ediv_of_nonneg h]
theorem flo_pos (a b : Int) (hb : 0 < b) : flo a b = a / b := by unfold flo; rw [if_neg (by omega), if_neg (by omega)]
theorem wholeFloors_true (a b : Int) : wholeFloorsF a b = true := by
  rw [wholeFloorsF_eq, wakes01_true]
  by_cases h : a < -1152921504606846976 ∨ 1152921504606846976 < a ∨ b < 1 ∨ 1152921504606846976 < b
  · have hg : (((decide (a < (-1152921504606846976)) || decide (1152921504606846976 < a)) || decide (b < 1)) || decide (1152921504606846976 < b)) = true := by
      simp only [Bool.or_eq_true, decide_eq_true_eq]; omega
    rw [hg, cond_true]
  · have hg : (((decide (a < (-1152921504606846976)) || decide (1152921504606846976 < a)) || decide (b < 1)) || decide (1152921504606846976 < b)) = false := by
      simp only [Bool.or_eq_false_iff, decide_eq_false_iff_not]; omega
    rw [hg, cond_false]
    have hb : 0 < b := by omega
    have ca : cl61 a = a := cl61_id (by omega) (by omega)
    have cb : cl61 b = b := cl61_id (by omega) (by omega)
    have ena : w64 (0 - a) = -a := w64_neg (by omega) (by omega)
    have cna : cl61 (-a) = -a := cl61_id (by omega) (by omega)
    have f0 : floorF0 a b = a / b := by rw [floorF0_flo, ca, cb, flo_pos a b hb]
    have f1 : floorF1 a b = 0 := by rw [floorF1_flo, cb, if_neg (by omega)]
    have g0 : floorF0 (w64 (0 - a)) b = (-a) / b := by rw [floorF0_flo, ena, cna, cb, flo_pos _ b hb]
    have g1 : floorF1 (w64 (0 - a)) b = 0 := by rw [floorF1_flo, cb, if_neg (by omega)]
    have c0 : ceilF0 a b = -((-a) / b) := by rw [ceilF0_flo, ca, cb, flo_pos _ b hb]
    have c1 : ceilF1 a b = 0 := by rw [ceilF1_flo, cb, if_neg (by omega)]
    have m0 : modF0 a b = a % b := by rw [modF0_mod, ca, cb, if_neg (by omega)]
    have m1 : modF1 a b = 0 := by rw [modF1_mod, cb, if_neg (by omega)]
    have bq := ediv_bd a b 1152921504606846976 hb (by omega) (by omega)
    have bs := ediv_bd (-a) b 1152921504606846976 hb (by omega) (by omega)
    have hn := neg_fl a b hb
    have ht := tdiv_fl a b hb
    have hd := Int.mul_ediv_add_emod a b
    have hr0 := Int.emod_nonneg a (by omega : b ≠ 0)
    have hr1 := Int.emod_lt_of_pos a hb
    rw [f0, f1, g0, g1, c0, c1, m0, m1]
    rw [show a / b * b = b * (a / b) from Int.mul_comm _ _]
    generalize ht' : Int.tdiv a b = t at *
    generalize a / b = q at *
    generalize (-a) / b = s at *
    generalize hm : a % b = r at *
    generalize b * q = p at *
    have w1 : w64 t = t := by rw [w64_id] <;> omega
    have w2 : w64 (t - 1) = t - 1 := by rw [w64_id] <;> omega
    have w3 : w64 (0 - s) = -s := by rw [w64_id] <;> omega
    have w4 : w64 p = p := by rw [w64_id] <;> omega
    have w5 : w64 (p + r) = p + r := by rw [w64_id] <;> omega
    have w6 : w64 (q + 1) = q + 1 := by rw [w64_id] <;> omega
    rw [w1, w2, w3, w4, w5, w6]
    have k1 : ((((((((!((0 : Int) == 0)) || !((0 : Int) == 0)) || !((0 : Int) == 0)) || !((0 : Int) == 0)) || decide (q < (-1152921504606846976))) || decide (1152921504606846976 < q)) || decide (-s < (-1152921504606846976))) || decide (1152921504606846976 < -s)) = false := by
      simp only [Bool.or_eq_false_iff, decide_eq_false_iff_not]
      simp
      omega
    rw [k1, cond_false]
    have k2 : ((((((!((q == t)) && !((q == (t - 1)))) || !((-s == -s))) || decide (r < 0)) || decide (b ≤ r)) || !((p + r == a))) || (!((-s == q)) && (!((-s == q + 1)) || (r == 0)))) = false := by
      have h1 : p + r = a := by omega
      have h2 : q = t ∨ q = t - 1 := ht
      have h3 : -s = q ∨ (-s = q + 1 ∧ r ≠ 0) := by omega
      have h4 : ¬ r < 0 := by omega
      have h5 : ¬ b ≤ r := by omega
      rcases h2 with h2 | h2 <;> rcases h3 with h3 | ⟨h3, h3'⟩ <;> simp [h1, h2, h3, h4, h5] <;> omega
    rw [k2, cond_false]
    by_cases ha : a < 0
    · rw [decide_eq_true ha, cond_true]
    · rw [decide_eq_false ha, cond_false]
      have r0 : rootF0 a = rtDn a := by rw [root0, ca, if_neg (by omega)]
      have r1 : rootF1 a = 0 := by rw [root1, ca, if_neg (by omega)]
      have u0 : rootUpF0 a = rtUp a := by rw [rootUp0, ca, if_neg (by omega)]
      have u1 : rootUpF1 a = 0 := by rw [rootUp1, ca, if_neg (by omega)]
      rw [r0, r1, u0, u1]
      obtain ⟨d1, d2, d3, d4⟩ := rtDn_spec a (by omega) (by omega)
      have hb := rt_both a (by omega) (by omega)
      generalize rtDn a = k at *
      generalize rtUp a = n at *
      have x1 : w64 (k * k) = k * k := sq_bd d1 (by omega)
      have x2 : w64 (k + 1) = k + 1 := by rw [w64_id] <;> omega
      have x3 : w64 ((k + 1) * (k + 1)) = (k + 1) * (k + 1) := sq_bd (by omega) (by omega)
      rw [x1, x2, x3]
      generalize k * k = kk at *
      generalize (k + 1) * (k + 1) = k2 at *
      by_cases e : kk < a
      · rw [if_pos e] at hb
        subst hb
        have e1 : ¬ k < 0 := by omega
        have e2 : ¬ 2147483648 < k := by omega
        have e3 : kk ≤ a := by omega
        have e4 : (kk == a) = false := by simp; omega
        have e5 : (k + 1 == k) = false := beq_false_of_ne (by omega)
        rw [e4, e5]
        simp [e1, e2, e3, d4]
      · rw [if_neg e] at hb
        subst hb
        have e1 : ¬ n < 0 := by omega
        have e2 : ¬ 2147483648 < n := by omega
        have e3 : kk = a := by omega
        simp [e1, e2, e3, d4]
end Go.Proofs.Yteneneadfpkahaa
