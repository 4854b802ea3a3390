/- The laws TriChecks, TriWalks, TriEven: what their calls tell is true. No conditions. -/
import Derived.Test.YteneneadfpkahaaTlM
namespace Go.Proofs.Yteneneadfpkahaa
open Go Go.RowKit Go.Sx
theorem rNormal_eq (i x0 y0 z0 x1 y1 z1 x2 y2 z2 : Int) : rNormalF0 i x0 y0 z0 x1 y1 z1 x2 y2 z2 = normalF0 i x0 y0 z0 x1 y1 z1 x2 y2 z2 ∧ rNormalF1 i x0 y0 z0 x1 y1 z1 x2 y2 z2 = normalF1 i x0 y0 z0 x1 y1 z1 x2 y2 z2 ∧
    rNormalF2 i x0 y0 z0 x1 y1 z1 x2 y2 z2 = normalF2 i x0 y0 z0 x1 y1 z1 x2 y2 z2 ∧ rNormalF3 i x0 y0 z0 x1 y1 z1 x2 y2 z2 = normalF3 i x0 y0 z0 x1 y1 z1 x2 y2 z2 := by
  obtain ⟨v0, v1, v2, v3⟩ := rNormal_val i x0 y0 z0 x1 y1 z1 x2 y2 z2
  obtain ⟨u0, u1, u2, u3⟩ := normal_val i x0 y0 z0 x1 y1 z1 x2 y2 z2
  exact ⟨v0.trans u0.symm, v1.trans u1.symm, v2.trans u2.symm, v3.trans u3.symm⟩
theorem rTCheck_eq (a b c d e f g i x0 y0 z0 x1 y1 z1 x2 y2 z2 : Int) : rTCheckF a b c d e f g i x0 y0 z0 x1 y1 z1 x2 y2 z2 = tcheckF a b c d e f g i x0 y0 z0 x1 y1 z1 x2 y2 z2 := by
  rw [rTCheckF_eq, tcheckF_eq, checkF_checkRF, (rNormal_eq _ _ _ _ _ _ _ _ _ _).2.2.2, (normal_val _ _ _ _ _ _ _ _ _ _).2.2.2]
  cases hc : (!(checkRF a b c d e f g == 0)) with
  | true => rw [cond_true, cond_true]
  | false =>
    rw [cond_false, cond_false]
    by_cases hk : okT x0 y0 z0 x1 y1 z1 x2 y2 z2
    · rw [if_pos hk]
      have hco : cornersF i x0 y0 z0 x1 y1 z1 x2 y2 z2 f g = decide (x0 ≤ f ∧ x1 ≤ f ∧ x2 ≤ f ∧ z0 ≤ g ∧ z1 ≤ g ∧ z2 ≤ g) := by
        rw [cornersF_eq, tboundsF0_eq, tboundsF1_eq, tboundsF2_eq, tboundsF3_eq, tboundsF4_eq, tboundsF5_eq]
        simp only [bminF_eq, bmaxF_eq]
        rw [Bool.eq_iff_iff]
        simp only [Bool.and_eq_true, decide_eq_true_eq, Int.max_le, Int.le_min]
        have hv := hk.1
        unfold okV at hv
        omega
      rw [hco]
      by_cases h : x0 ≤ f ∧ x1 ≤ f ∧ x2 ≤ f ∧ z0 ≤ g ∧ z1 ≤ g ∧ z2 ≤ g
      · rw [decide_eq_true h, decide_eq_false (by omega : ¬ f < x0), decide_eq_false (by omega : ¬ g < z0), decide_eq_false (by omega : ¬ f < x1), decide_eq_false (by omega : ¬ g < z1), decide_eq_false (by omega : ¬ f < x2), decide_eq_false (by omega : ¬ g < z2)]
        simp
      · rw [decide_eq_false h]
        by_cases h0 : f < x0 ∨ g < z0
        · have : (decide (f < x0) || decide (g < z0)) = true := by simpa using h0
          rw [this]; simp
        · have : (decide (f < x0) || decide (g < z0)) = false := by simpa using h0
          rw [this, cond_false]
          by_cases h1 : f < x1 ∨ g < z1
          · have : (decide (f < x1) || decide (g < z1)) = true := by simpa using h1
            rw [this]; simp
          · have : (decide (f < x1) || decide (g < z1)) = false := by simpa using h1
            rw [this, cond_false]
            have : (decide (f < x2) || decide (g < z2)) = true := by
              simp only [Bool.or_eq_true, decide_eq_true_eq]; omega
            rw [this]; simp
    · rw [if_neg hk]
      simp
theorem triChecks_true (a b c d e f g i x0 y0 z0 x1 y1 z1 x2 y2 z2 : Int) : triChecksF a b c d e f g i x0 y0 z0 x1 y1 z1 x2 y2 z2 = true := by
  rw [triChecksF_eq, wakes04_true, rTCheck_eq]
  obtain ⟨h0, h1, h2, h3⟩ := rNormal_eq i x0 y0 z0 x1 y1 z1 x2 y2 z2
  rw [h0, h1, h2, h3, tboundsF0_eq, tboundsF1_eq, tboundsF2_eq, tboundsF3_eq, tboundsF4_eq, tboundsF5_eq, rBoundsF0_eq, rBoundsF1_eq, rBoundsF2_eq, rBoundsF3_eq, rBoundsF4_eq, rBoundsF5_eq]
  simp only [bminF_eq, bmaxF_eq, Int.min_self, Int.max_self]
  simp
theorem rWalk_eq (a b c d e f g i x0 y0 z0 x1 y1 z1 x2 y2 z2 : Int) : rWalkF0 a b c d e f g i x0 y0 z0 x1 y1 z1 x2 y2 z2 = walkF0 a b c d e f g i x0 y0 z0 x1 y1 z1 x2 y2 z2 ∧ rWalkF1 a b c d e f g i x0 y0 z0 x1 y1 z1 x2 y2 z2 = walkF1 a b c d e f g i x0 y0 z0 x1 y1 z1 x2 y2 z2 := by
  rw [rWalkF0_eq, walkF0_eq, rWalkF1_eq, walkF1_eq, checkF_checkRF]
  obtain ⟨h0, h1, h2, h3⟩ := rNormal_eq i x0 y0 z0 x1 y1 z1 x2 y2 z2
  rw [h0, h1, h2, h3]
  constructor
  · cases (normalF3 i x0 y0 z0 x1 y1 z1 x2 y2 z2 == 0) <;> simp
  · cases hn : (normalF3 i x0 y0 z0 x1 y1 z1 x2 y2 z2 == 0) with
    | true => rw [eq_of_beq hn]; simp
    | false => simp
theorem triWalks_true (a b c d e f g i x0 y0 z0 x1 y1 z1 x2 y2 z2 x z : Int) : triWalksF a b c d e f g i x0 y0 z0 x1 y1 z1 x2 y2 z2 x z = true := by
  rw [triWalksF_eq, wakes04_true]
  obtain ⟨h0, h1⟩ := rWalk_eq a b c d e f g i x0 y0 z0 x1 y1 z1 x2 y2 z2
  obtain ⟨t0, t1, t2⟩ := rTHeight_r i x0 y0 z0 x1 y1 z1 x2 y2 z2 x z
  rw [h0, h1, t0, t1, t2]
  simp
theorem even_core {ny N1 N2 N3 a b c d g h : Int} (h0 : ny ≠ 0) (e1 : a * ny = N1 * b) (e2 : c * ny = N2 * d) (e3 : g * ny = N3 * h) (hs : N1 + N3 = 2 * N2) : a * d * h + g * d * b = 2 * c * b * h := by
  have : (a * d * h + g * d * b) * ny = (2 * c * b * h) * ny := by
    have q1 : (a * d * h + g * d * b) * ny = (a * ny) * d * h + (g * ny) * d * b := by grind
    have q2 : (2 * c * b * h) * ny = 2 * (c * ny) * b * h := by grind
    rw [q1, q2, e1, e2, e3]
    have : N3 = 2 * N2 - N1 := by omega
    subst this
    grind
  exact Int.eq_of_mul_eq_mul_right h0 this
theorem even_w64 {a b c d g h : Int} (ha : -100000000 ≤ a) (ha2 : a ≤ 100000000) (hc : -100000000 ≤ c) (hc2 : c ≤ 100000000) (hg : -100000000 ≤ g) (hg2 : g ≤ 100000000) (hb : 0 < b) (hb2 : b ≤ 2048) (hd : 0 < d) (hd2 : d ≤ 2048) (hh : 0 < h) (hh2 : h ≤ 2048)
    (key : a * d * h + g * d * b = 2 * c * b * h) : (decide (0 < b) && decide (0 < d) && decide (0 < h) && (w64 (w64 (w64 (a * d) * h) + w64 (w64 (g * d) * b)) == w64 (w64 (w64 (2 * c) * b) * h))) = true := by
  have m1 := mul_abs_le (x := a) (y := d) (X := 100000000) (Y := 2048) (by omega) (by omega) (by omega) (by omega)
  have m2 := mul_abs_le (x := a * d) (y := h) (X := 204800000000) (Y := 2048) (by omega) (by omega) (by omega) (by omega)
  have m3 := mul_abs_le (x := g) (y := d) (X := 100000000) (Y := 2048) (by omega) (by omega) (by omega) (by omega)
  have m4 := mul_abs_le (x := g * d) (y := b) (X := 204800000000) (Y := 2048) (by omega) (by omega) (by omega) (by omega)
  have m5 := mul_abs_le (x := 2 * c) (y := b) (X := 200000000) (Y := 2048) (by omega) (by omega) (by omega) (by omega)
  have m6 := mul_abs_le (x := 2 * c * b) (y := h) (X := 409600000000) (Y := 2048) (by omega) (by omega) (by omega) (by omega)
  have w1 : w64 (a * d) = a * d := by rw [w64_id] <;> omega
  have w2 : w64 (a * d * h) = a * d * h := by rw [w64_id] <;> omega
  have w3 : w64 (g * d) = g * d := by rw [w64_id] <;> omega
  have w4 : w64 (g * d * b) = g * d * b := by rw [w64_id] <;> omega
  have w5 : w64 (2 * c) = 2 * c := by rw [w64_id] <;> omega
  have w6 : w64 (2 * c * b) = 2 * c * b := by rw [w64_id] <;> omega
  have w7 : w64 (2 * c * b * h) = 2 * c * b * h := by rw [w64_id] <;> omega
  have w8 : w64 (a * d * h + g * d * b) = a * d * h + g * d * b := by rw [w64_id] <;> omega
  rw [w1, w2, w3, w4, w5, w6, w7, w8, key, decide_eq_true hb, decide_eq_true hd, decide_eq_true hh]
  simp
theorem rem21 (n : Int) : -20 ≤ Int.tmod n 21 ∧ Int.tmod n 21 ≤ 20 := by
  have h1 := Int.lt_tmod_of_pos n (by omega : (0 : Int) < 21)
  have h2 := Int.tmod_lt_of_pos n (by omega : (0 : Int) < 21)
  omega
theorem triEven_true (i x0 y0 z0 x1 y1 z1 x2 y2 z2 x z dx dz : Int) : triEvenF i x0 y0 z0 x1 y1 z1 x2 y2 z2 x z dx dz = true := by
  rw [triEvenF_eq, wakes04_true]
  have bx := rem21 x
  have bz := rem21 z
  have bdx := rem21 dx
  have bdz := rem21 dz
  generalize Int.tmod x 21 = x at *
  generalize Int.tmod z 21 = z at *
  generalize Int.tmod dx 21 = p at *
  generalize Int.tmod dz 21 = q at *
  have e1 : w64 (x + p) = x + p := by rw [w64_id] <;> omega
  have e2 : w64 (z + q) = z + q := by rw [w64_id] <;> omega
  have e3 : w64 (2 * p) = 2 * p := by rw [w64_id] <;> omega
  have e4 : w64 (2 * q) = 2 * q := by rw [w64_id] <;> omega
  have e5 : w64 (x + 2 * p) = x + 2 * p := by rw [w64_id] <;> omega
  have e6 : w64 (z + 2 * q) = z + 2 * q := by rw [w64_id] <;> omega
  rw [e1, e2, e3, e4, e5, e6]
  obtain ⟨a0, a1, a2⟩ := theight_vals i x0 y0 z0 x1 y1 z1 x2 y2 z2 x z
  obtain ⟨b0, b1, b2⟩ := theight_vals i x0 y0 z0 x1 y1 z1 x2 y2 z2 (x + p) (z + q)
  obtain ⟨c0, c1, c2⟩ := theight_vals i x0 y0 z0 x1 y1 z1 x2 y2 z2 (x + 2 * p) (z + 2 * q)
  have r1 : rngP x z := by unfold rngP; omega
  have r2 : rngP (x + p) (z + q) := by unfold rngP; omega
  have r3 : rngP (x + 2 * p) (z + 2 * q) := by unfold rngP; omega
  rw [a0, a1, a2, b0, b1, b2, c0, c1, c2]
  by_cases hk : okT x0 y0 z0 x1 y1 z1 x2 y2 z2
  · simp only [if_pos (And.intro hk r1), if_pos (And.intro hk r2), if_pos (And.intro hk r3)]
    have n1 := (num_val hk r1).2
    have n2 := (num_val hk r2).2
    have n3 := (num_val hk r3).2
    have hy := nY_bd hk.1
    obtain ⟨s1, s2, s3, s4⟩ := hgt_spec (num := hNum x0 y0 z0 x1 y1 z1 x2 y2 z2 x z) hk.2
    obtain ⟨t1, t2, t3, t4⟩ := hgt_spec (num := hNum x0 y0 z0 x1 y1 z1 x2 y2 z2 (x + p) (z + q)) hk.2
    obtain ⟨u1, u2, u3, u4⟩ := hgt_spec (num := hNum x0 y0 z0 x1 y1 z1 x2 y2 z2 (x + 2 * p) (z + 2 * q)) hk.2
    have hs : hNum x0 y0 z0 x1 y1 z1 x2 y2 z2 x z + hNum x0 y0 z0 x1 y1 z1 x2 y2 z2 (x + 2 * p) (z + 2 * q) = 2 * hNum x0 y0 z0 x1 y1 z1 x2 y2 z2 (x + p) (z + q) := by
      unfold hNum
      grind
    have key := even_core hk.2 s3 t3 u3 hs
    clear a0 a1 a2 b0 b1 b2 c0 c1 c2 s3 t3 u3 hs e1 e2 e3 e4 e5 e6 r1 r2 r3 hk bx bz bdx bdz
    generalize hNum x0 y0 z0 x1 y1 z1 x2 y2 z2 x z = N1 at *
    generalize hNum x0 y0 z0 x1 y1 z1 x2 y2 z2 (x + p) (z + q) = N2 at *
    generalize hNum x0 y0 z0 x1 y1 z1 x2 y2 z2 (x + 2 * p) (z + 2 * q) = N3 at *
    generalize nY x0 y0 z0 x1 y1 z1 x2 y2 z2 = ny at *
    generalize (hgt N1 ny).1 = a at *
    generalize (hgt N1 ny).2 = b at *
    generalize (hgt N2 ny).1 = c at *
    generalize (hgt N2 ny).2 = d at *
    generalize (hgt N3 ny).1 = g at *
    generalize (hgt N3 ny).2 = h at *
    have fin := even_w64 (a := a) (b := b) (c := c) (d := d) (g := g) (h := h) (by omega) (by omega) (by omega) (by omega) (by omega) (by omega) s1 (by omega) t1 (by omega) u1 (by omega) key
    rw [fin]
    simp
  · rw [if_neg (fun e => hk e.1), if_neg (fun e => hk e.1), if_neg (fun e => hk e.1)]
    simp
end Go.Proofs.Yteneneadfpkahaa
