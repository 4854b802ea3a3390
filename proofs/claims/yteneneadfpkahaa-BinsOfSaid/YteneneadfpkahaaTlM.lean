/- What the laws of layer 4 tell is true. No conditions. -/
import Derived.Test.YteneneadfpkahaaTl
namespace Go.Proofs.Yteneneadfpkahaa
open Go Go.RowKit Go.Sx
theorem hgt_spec {num den : Int} (h : den ≠ 0) : 0 < (hgt num den).2 ∧ (hgt num den).2 ≤ den.natAbs ∧ (hgt num den).1 * den = num * (hgt num den).2 ∧ (hgt num den).1.natAbs ≤ num.natAbs := by
  have hn := grt_ne (a := num) h
  have e1 := grt_abs num den
  have hd1 : grt num den ∣ den := by rw [← Int.natAbs_dvd_natAbs, e1]; exact Nat.gcd_dvd_right _ _
  have hd2 : grt num den ∣ num := by rw [← Int.natAbs_dvd_natAbs, e1]; exact Nat.gcd_dvd_left _ _
  unfold hgt
  generalize grt num den = g at *
  obtain ⟨q, rfl⟩ := hd1
  obtain ⟨p, rfl⟩ := hd2
  clear e1
  have hq : Int.tdiv (g * q) g = q := Int.mul_tdiv_cancel_left q hn
  have hp : Int.tdiv (g * p) g = p := Int.mul_tdiv_cancel_left p hn
  have hq0 : q ≠ 0 := fun e => h (by rw [e]; simp)
  have b1 : q.natAbs ≤ (g * q).natAbs := by rw [Int.natAbs_mul]; exact Nat.le_mul_of_pos_left _ (by omega)
  have b2 : p.natAbs ≤ (g * p).natAbs := by rw [Int.natAbs_mul]; exact Nat.le_mul_of_pos_left _ (by omega)
  rw [hq]
  by_cases hl : q < 0
  · rw [if_pos hl, Int.tdiv_neg, Int.tdiv_neg, hq, hp]
    refine ⟨by omega, by omega, by grind, by omega⟩
  · rw [if_neg hl, hp]
    refine ⟨by omega, by omega, by grind, by omega⟩
theorem theight_vals (i x0 y0 z0 x1 y1 z1 x2 y2 z2 b c : Int) :
    theightF0 i x0 y0 z0 x1 y1 z1 x2 y2 z2 b c = (if okT x0 y0 z0 x1 y1 z1 x2 y2 z2 ∧ rngP b c then (hgt (hNum x0 y0 z0 x1 y1 z1 x2 y2 z2 b c) (nY x0 y0 z0 x1 y1 z1 x2 y2 z2)).1 else 0) ∧
    theightF1 i x0 y0 z0 x1 y1 z1 x2 y2 z2 b c = (if okT x0 y0 z0 x1 y1 z1 x2 y2 z2 ∧ rngP b c then (hgt (hNum x0 y0 z0 x1 y1 z1 x2 y2 z2 b c) (nY x0 y0 z0 x1 y1 z1 x2 y2 z2)).2 else 0) ∧
    theightF2 i x0 y0 z0 x1 y1 z1 x2 y2 z2 b c = (if okT x0 y0 z0 x1 y1 z1 x2 y2 z2 ∧ rngP b c then 0 else 40) := ⟨rfl, rfl, rfl⟩
theorem rTHeight_r (i x0 y0 z0 x1 y1 z1 x2 y2 z2 b c : Int) :
    rTHeightF0 i x0 y0 z0 x1 y1 z1 x2 y2 z2 b c = theightF0 i x0 y0 z0 x1 y1 z1 x2 y2 z2 b c ∧ rTHeightF1 i x0 y0 z0 x1 y1 z1 x2 y2 z2 b c = theightF1 i x0 y0 z0 x1 y1 z1 x2 y2 z2 b c ∧
    rTHeightF2 i x0 y0 z0 x1 y1 z1 x2 y2 z2 b c = theightF2 i x0 y0 z0 x1 y1 z1 x2 y2 z2 b c := by
  obtain ⟨t0, t1, t2⟩ := theight_vals i x0 y0 z0 x1 y1 z1 x2 y2 z2 b c
  rw [t0, t1, t2, rTHeightF0_eq, rTHeightF1_eq, rTHeightF2_eq]
  obtain ⟨v0, v1, v2, v3⟩ := rNormal_val i x0 y0 z0 x1 y1 z1 x2 y2 z2
  rw [v0, v1, v2, v3, rng_val]
  by_cases hk : okT x0 y0 z0 x1 y1 z1 x2 y2 z2
  · simp only [if_pos hk]
    by_cases hr : rngP b c
    · rw [if_pos ⟨hk, hr⟩, if_pos ⟨hk, hr⟩, if_pos ⟨hk, hr⟩, decide_eq_true hr]
      simp only [rnum_val hk hr]
      have hN := (num_val hk hr).2
      have hb := nY_bd hk.1
      have hd := hk.2
      generalize hNum x0 y0 z0 x1 y1 z1 x2 y2 z2 b c = num at *
      generalize nY x0 y0 z0 x1 y1 z1 x2 y2 z2 = den at *
      have e0 : w64 (0 - den) = -den := by rw [w64_id] <;> omega
      have e1 : w64 (0 - num) = -num := by rw [w64_id] <;> omega
      have t1 : ∀ x y : Int, -100000000 ≤ x → x ≤ 100000000 → w64 (Int.tdiv x y) = Int.tdiv x y := fun x y h1 h2 => by
        have := tdiv_bd x y (by omega) (by omega)
        rw [w64_id] <;> omega
      have a1 : absF num = num.natAbs := by rw [absF_eq, e1]; omega
      have a2 : absF (-num) = num.natAbs := by
        rw [absF_eq]
        have : w64 (0 - -num) = num := by rw [w64_id] <;> omega
        rw [this]; omega
      have gE : ∀ x y, greatestF x y = grt x y := fun x y => greatestF_eq x y
      rw [e0, e1, a1, a2, gE, gE, hgt_pos hd]
      simp only [t1 num _ (by omega) (by omega), t1 (-num) _ (by omega) (by omega), t1 den _ (by omega) (by omega), t1 (-den) _ (by omega) (by omega)]
      by_cases hl : den < 0
      · have ed : -den = den.natAbs := by omega
        rw [decide_eq_true hl, if_pos hl, ed]
        simp
      · have ed : den = den.natAbs := by omega
        rw [decide_eq_false hl, if_neg hl, ← ed]
        simp
    · rw [if_neg (fun e => hr e.2), if_neg (fun e => hr e.2), if_neg (fun e => hr e.2), decide_eq_false hr]
      simp
  · simp only [if_neg hk]
    rw [if_neg (fun e => hk e.1), if_neg (fun e => hk e.1), if_neg (fun e => hk e.1)]
    simp
theorem wakes04_true : wakes04F = true := by
  rw [wakes04F_eq]
  simp only [walkF0_eq, walkF1_eq, tcheckF_eq, (normal_val _ _ _ _ _ _ _ _ _ _).1, (normal_val _ _ _ _ _ _ _ _ _ _).2.1, (normal_val _ _ _ _ _ _ _ _ _ _).2.2.1, (normal_val _ _ _ _ _ _ _ _ _ _).2.2.2, (theight_vals _ _ _ _ _ _ _ _ _ _ _ _).1, (theight_vals _ _ _ _ _ _ _ _ _ _ _ _).2.1, (theight_vals _ _ _ _ _ _ _ _ _ _ _ _).2.2,
    checkF_checkRF, checkRF_eq, cfg4F0_eq, cfg4F1_eq, cfg4F2_eq, cfg4F3_eq, cfg4F4_eq, cfg4F5_eq, cfg4F6_eq, sampleF0_eq, sampleF1_eq, sampleF2_eq, sampleF3_eq, sampleF4_eq, sampleF5_eq, sampleF6_eq, sampleF7_eq, sampleF8_eq, sampleF9_eq, cornersF_eq, tboundsF0_eq, tboundsF1_eq, tboundsF2_eq, tboundsF3_eq, tboundsF4_eq, tboundsF5_eq, bminF_eq, bmaxF_eq]
  decide +kernel
end Go.Proofs.Yteneneadfpkahaa
