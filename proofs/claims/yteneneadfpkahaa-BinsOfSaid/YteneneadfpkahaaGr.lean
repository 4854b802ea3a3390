/- The greatest number that divides two, by rests. No conditions. -/
import Derived.Test.YteneneadfpkahaaSxCon
namespace Go.Proofs.Yteneneadfpkahaa
open Go Go.RowKit Go.Sx
def grt (a b : Int) : Int := if _h : b = 0 then a else grt b (Int.tmod a b)
termination_by b.natAbs
decreasing_by
  rw [Int.natAbs_tmod]
  exact Nat.mod_lt _ (by omega)
theorem grt_zero (a : Int) : grt a 0 = a := by rw [grt]; simp
theorem grt_step {a b : Int} (h : b ≠ 0) : grt b (Int.tmod a b) = grt a b := by
  conv => rhs; rw [grt]
  rw [dif_neg h]
theorem grt_abs (a b : Int) : (grt a b).natAbs = Nat.gcd a.natAbs b.natAbs := by
  induction a, b using grt.induct with
  | case1 a => rw [grt_zero]; simp
  | case2 a b h ih =>
    rw [← grt_step h, ih, Int.natAbs_tmod, Nat.gcd_comm a.natAbs, Nat.gcd_rec b.natAbs a.natAbs, Nat.gcd_comm]
theorem grt_ne {a b : Int} (h : b ≠ 0) : grt a b ≠ 0 := by
  intro e
  have := grt_abs a b
  rw [e] at this
  have h2 := Nat.gcd_pos_of_pos_right a.natAbs (n := b.natAbs) (by omega)
  simp only [Int.natAbs_zero] at this
  omega
theorem grt_le {a b : Int} (h : b ≠ 0) : (grt a b).natAbs ≤ b.natAbs := by
  rw [grt_abs]
  exact Nat.le_of_dvd (by omega) (Nat.gcd_dvd_right _ _)
theorem grt_nonneg : ∀ (a b : Int), 0 ≤ a → 0 ≤ b → 0 ≤ grt a b := by
  intro a b
  induction a, b using grt.induct with
  | case1 a => intro h _; rw [grt_zero]; exact h
  | case2 a b h ih =>
    intro h1 h2
    rw [← grt_step h]
    exact ih h2 (Int.tmod_nonneg _ h1)
theorem rest_small {a b : Int} (h : b ≠ 0) : (Int.tmod a b).natAbs < b.natAbs := by
  rw [Int.natAbs_tmod]
  exact Nat.mod_lt _ (by omega)
/-- A ratio in lowest terms, its divisor above 0. -/
def hgt (num den : Int) : Int × Int := if Int.tdiv den (grt num den) < 0 then (Int.tdiv num (-grt num den), Int.tdiv den (-grt num den)) else (Int.tdiv num (grt num den), Int.tdiv den (grt num den))
theorem hgt_pos {num den : Int} (h : den ≠ 0) : hgt num den = if den < 0 then (Int.tdiv (-num) (grt num.natAbs den.natAbs), Int.tdiv (-den) (grt num.natAbs den.natAbs)) else (Int.tdiv num (grt num.natAbs den.natAbs), Int.tdiv den (grt num.natAbs den.natAbs)) := by
  have hn := grt_ne (a := num) h
  have e1 := grt_abs num den
  have e2 := grt_abs num.natAbs den.natAbs
  have h0 := grt_nonneg num.natAbs den.natAbs (by omega) (by omega)
  simp only [Int.natAbs_natCast] at e2
  have hdv : grt num den ∣ den := by
    rw [← Int.natAbs_dvd_natAbs, e1]; exact Nat.gcd_dvd_right _ _
  generalize hG : grt num.natAbs den.natAbs = G at *
  have hg : grt num den = G ∨ grt num den = -G := by omega
  unfold hgt
  generalize grt num den = g at *
  obtain ⟨k, rfl⟩ := hdv
  have hk : Int.tdiv (g * k) g = k := Int.mul_tdiv_cancel_left k hn
  rw [hk]
  have hk0 : k ≠ 0 := fun e => h (by rw [e]; simp)
  have hG0 : 0 < G := by omega
  rcases hg with rfl | hg
  · by_cases hk1 : k < 0
    · have : g * k < 0 := Int.mul_neg_of_pos_of_neg hG0 hk1
      rw [if_pos hk1, if_pos this, Int.tdiv_neg, Int.tdiv_neg, Int.neg_tdiv, Int.neg_tdiv]
    · have : 0 < g * k := Int.mul_pos hG0 (by omega)
      rw [if_neg hk1, if_neg (by omega), hk]
  · subst hg
    by_cases hk1 : k < 0
    · have : 0 < -G * k := by
        have := Int.mul_pos hG0 (show 0 < -k by omega)
        rw [Int.neg_mul, ← Int.mul_neg]; exact this
      rw [if_pos hk1, if_neg (by omega), Int.neg_neg]
    · have : -G * k < 0 := by
        have := Int.mul_pos hG0 (show 0 < k by omega)
        rw [Int.neg_mul]; omega
      have e3 : Int.tdiv (-G * k) G = -k := by
        rw [Int.neg_mul, Int.neg_tdiv, Int.mul_tdiv_cancel_left k (by omega)]
      have e4 : Int.tdiv (-(-G * k)) G = k := by rw [Int.neg_tdiv, e3, Int.neg_neg]
      rw [if_neg hk1, if_pos this, e4, Int.tdiv_neg, Int.neg_tdiv]
end Go.Proofs.Yteneneadfpkahaa
