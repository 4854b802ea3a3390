/- The law TriTurned: what its call tells is true. No conditions. -/
import Derived.Test.YteneneadfpkahaaTt
namespace Go.Proofs.Yteneneadfpkahaa
open Go Go.RowKit Go.Sx
theorem okT_turn (x0 y0 z0 x1 y1 z1 x2 y2 z2 : Int) : (okT x1 y1 z1 x2 y2 z2 x0 y0 z0 ↔ okT x0 y0 z0 x1 y1 z1 x2 y2 z2) ∧ nX x1 y1 z1 x2 y2 z2 x0 y0 z0 = nX x0 y0 z0 x1 y1 z1 x2 y2 z2 ∧ nY x1 y1 z1 x2 y2 z2 x0 y0 z0 = nY x0 y0 z0 x1 y1 z1 x2 y2 z2 ∧ nZ x1 y1 z1 x2 y2 z2 x0 y0 z0 = nZ x0 y0 z0 x1 y1 z1 x2 y2 z2 := by
  have hx : nX x1 y1 z1 x2 y2 z2 x0 y0 z0 = nX x0 y0 z0 x1 y1 z1 x2 y2 z2 := by unfold nX; grind
  have hy : nY x1 y1 z1 x2 y2 z2 x0 y0 z0 = nY x0 y0 z0 x1 y1 z1 x2 y2 z2 := by unfold nY; grind
  have hz : nZ x1 y1 z1 x2 y2 z2 x0 y0 z0 = nZ x0 y0 z0 x1 y1 z1 x2 y2 z2 := by unfold nZ; grind
  refine ⟨?_, hx, hy, hz⟩
  unfold okT
  rw [hy]
  constructor
  · rintro ⟨⟨h0, h1, h2⟩, h3⟩; exact ⟨⟨h2, h0, h1⟩, h3⟩
  · rintro ⟨⟨h0, h1, h2⟩, h3⟩; exact ⟨⟨h1, h2, h0⟩, h3⟩
theorem okT_swap (x0 y0 z0 x1 y1 z1 x2 y2 z2 : Int) : (okT x1 y1 z1 x0 y0 z0 x2 y2 z2 ↔ okT x0 y0 z0 x1 y1 z1 x2 y2 z2) ∧ nX x1 y1 z1 x0 y0 z0 x2 y2 z2 = -nX x0 y0 z0 x1 y1 z1 x2 y2 z2 ∧ nY x1 y1 z1 x0 y0 z0 x2 y2 z2 = -nY x0 y0 z0 x1 y1 z1 x2 y2 z2 ∧ nZ x1 y1 z1 x0 y0 z0 x2 y2 z2 = -nZ x0 y0 z0 x1 y1 z1 x2 y2 z2 := by
  have hx : nX x1 y1 z1 x0 y0 z0 x2 y2 z2 = -nX x0 y0 z0 x1 y1 z1 x2 y2 z2 := by unfold nX; grind
  have hy : nY x1 y1 z1 x0 y0 z0 x2 y2 z2 = -nY x0 y0 z0 x1 y1 z1 x2 y2 z2 := by unfold nY; grind
  have hz : nZ x1 y1 z1 x0 y0 z0 x2 y2 z2 = -nZ x0 y0 z0 x1 y1 z1 x2 y2 z2 := by unfold nZ; grind
  refine ⟨?_, hx, hy, hz⟩
  unfold okT
  rw [hy]
  constructor
  · rintro ⟨⟨h0, h1, h2⟩, h3⟩; exact ⟨⟨h1, h0, h2⟩, by omega⟩
  · rintro ⟨⟨h0, h1, h2⟩, h3⟩; exact ⟨⟨h1, h0, h2⟩, by omega⟩
theorem walk_congr (a b c d e f g i : Int) {x0 y0 z0 x1 y1 z1 x2 y2 z2 u0 v0 w0 u1 v1 w1 u2 v2 w2 : Int} (h : okT u0 v0 w0 u1 v1 w1 u2 v2 w2 ↔ okT x0 y0 z0 x1 y1 z1 x2 y2 z2)
    (hx : nX u0 v0 w0 u1 v1 w1 u2 v2 w2 * nX u0 v0 w0 u1 v1 w1 u2 v2 w2 = nX x0 y0 z0 x1 y1 z1 x2 y2 z2 * nX x0 y0 z0 x1 y1 z1 x2 y2 z2) (hy : nY u0 v0 w0 u1 v1 w1 u2 v2 w2 * nY u0 v0 w0 u1 v1 w1 u2 v2 w2 = nY x0 y0 z0 x1 y1 z1 x2 y2 z2 * nY x0 y0 z0 x1 y1 z1 x2 y2 z2)
    (hz : nZ u0 v0 w0 u1 v1 w1 u2 v2 w2 * nZ u0 v0 w0 u1 v1 w1 u2 v2 w2 = nZ x0 y0 z0 x1 y1 z1 x2 y2 z2 * nZ x0 y0 z0 x1 y1 z1 x2 y2 z2) :
    walkF0 a b c d e f g i u0 v0 w0 u1 v1 w1 u2 v2 w2 = walkF0 a b c d e f g i x0 y0 z0 x1 y1 z1 x2 y2 z2 ∧ walkF1 a b c d e f g i u0 v0 w0 u1 v1 w1 u2 v2 w2 = walkF1 a b c d e f g i x0 y0 z0 x1 y1 z1 x2 y2 z2 := by
  rw [walkF0_eq, walkF0_eq, walkF1_eq, walkF1_eq]
  obtain ⟨p0, p1, p2, p3⟩ := normal_val i u0 v0 w0 u1 v1 w1 u2 v2 w2
  obtain ⟨q0, q1, q2, q3⟩ := normal_val i x0 y0 z0 x1 y1 z1 x2 y2 z2
  rw [p0, p1, p2, p3, q0, q1, q2, q3]
  by_cases hk : okT x0 y0 z0 x1 y1 z1 x2 y2 z2
  · simp only [if_pos hk, if_pos (h.2 hk)]
    rw [hx, hy, hz]
    exact ⟨rfl, trivial⟩
  · simp only [if_neg hk, if_neg (fun e => hk (h.1 e))]
    exact ⟨trivial, trivial⟩
theorem hgt_mul {y d : Int} (h : d ≠ 0) : hgt (y * d) d = (y, 1) := by
  have hG : grt ((y * d).natAbs : Int) (d.natAbs : Int) = d.natAbs := by
    have e := grt_abs ((y * d).natAbs : Int) (d.natAbs : Int)
    have h0 := grt_nonneg ((y * d).natAbs : Int) (d.natAbs : Int) (by omega) (by omega)
    simp only [Int.natAbs_natCast] at e
    have : Nat.gcd (y * d).natAbs d.natAbs = d.natAbs := by
      rw [Int.natAbs_mul]; exact Nat.gcd_mul_left_left _ _
    omega
  rw [hgt_pos h, hG]
  by_cases hd : d < 0
  · have e : (d.natAbs : Int) = -d := by omega
    rw [if_pos hd, e, ← Int.mul_neg, Int.mul_tdiv_cancel _ (by omega), Int.tdiv_self (by omega)]
  · have e : (d.natAbs : Int) = d := by omega
    rw [if_neg hd, e, Int.mul_tdiv_cancel _ h, Int.tdiv_self h]
theorem rng_of {x y z : Int} (h : okV x y z) : rngP x z := by unfold okV at h; unfold rngP; omega
theorem height_at (i x0 y0 z0 x1 y1 z1 x2 y2 z2 x y z : Int) (hk : okT x0 y0 z0 x1 y1 z1 x2 y2 z2) (hr : rngP x z) (hn : hNum x0 y0 z0 x1 y1 z1 x2 y2 z2 x z = y * nY x0 y0 z0 x1 y1 z1 x2 y2 z2) :
    theightF2 i x0 y0 z0 x1 y1 z1 x2 y2 z2 x z = 0 ∧ theightF1 i x0 y0 z0 x1 y1 z1 x2 y2 z2 x z = 1 ∧ theightF0 i x0 y0 z0 x1 y1 z1 x2 y2 z2 x z = y := by
  obtain ⟨t0, t1, t2⟩ := theight_vals i x0 y0 z0 x1 y1 z1 x2 y2 z2 x z
  rw [t0, t1, t2, if_pos ⟨hk, hr⟩, if_pos ⟨hk, hr⟩, if_pos ⟨hk, hr⟩, hn, hgt_mul hk.2]
  exact ⟨rfl, rfl, rfl⟩
theorem tsame_turn (i x0 y0 z0 x1 y1 z1 x2 y2 z2 : Int) : tsameF i x0 y0 z0 x1 y1 z1 x2 y2 z2 i x1 y1 z1 x2 y2 z2 x0 y0 z0 = true := by
  unfold tsameF
  rw [sameL_turn]; simp
theorem tsame_swap (i x0 y0 z0 x1 y1 z1 x2 y2 z2 : Int) : tsameF i x0 y0 z0 x1 y1 z1 x2 y2 z2 i x1 y1 z1 x0 y0 z0 x2 y2 z2 = true := by
  unfold tsameF
  rw [sameL_swap]; simp
theorem walk_moved (a b c d e f g i x0 y0 z0 x1 y1 z1 x2 y2 z2 t : Int) (hk : okT x0 y0 z0 x1 y1 z1 x2 y2 z2) :
    walkF1 a b c d e f g i x0 (y0 + t) z0 x1 (y1 + t) z1 x2 (y2 + t) z2 = 40 ∨ (walkF1 a b c d e f g i x0 (y0 + t) z0 x1 (y1 + t) z1 x2 (y2 + t) z2 = walkF1 a b c d e f g i x0 y0 z0 x1 y1 z1 x2 y2 z2 ∧
      walkF0 a b c d e f g i x0 (y0 + t) z0 x1 (y1 + t) z1 x2 (y2 + t) z2 = walkF0 a b c d e f g i x0 y0 z0 x1 y1 z1 x2 y2 z2) := by
  have hx : nX x0 (y0 + t) z0 x1 (y1 + t) z1 x2 (y2 + t) z2 = nX x0 y0 z0 x1 y1 z1 x2 y2 z2 := by unfold nX; grind
  have hy : nY x0 (y0 + t) z0 x1 (y1 + t) z1 x2 (y2 + t) z2 = nY x0 y0 z0 x1 y1 z1 x2 y2 z2 := by unfold nY; grind
  have hz : nZ x0 (y0 + t) z0 x1 (y1 + t) z1 x2 (y2 + t) z2 = nZ x0 y0 z0 x1 y1 z1 x2 y2 z2 := by unfold nZ; grind
  by_cases hm : okT x0 (y0 + t) z0 x1 (y1 + t) z1 x2 (y2 + t) z2
  · right
    have := walk_congr a b c d e f g i (x0 := x0) (y0 := y0) (z0 := z0) (x1 := x1) (y1 := y1) (z1 := z1) (x2 := x2) (y2 := y2) (z2 := z2) (u0 := x0) (v0 := y0 + t) (w0 := z0) (u1 := x1) (v1 := y1 + t) (w1 := z1) (u2 := x2) (v2 := y2 + t) (w2 := z2) ⟨fun _ => hk, fun _ => hm⟩ (by rw [hx]) (by rw [hy]) (by rw [hz])
    exact ⟨this.2, this.1⟩
  · rw [walkF1_eq, walkF1_eq, walkF0_eq, walkF0_eq, (normal_val i x0 (y0 + t) z0 x1 (y1 + t) z1 x2 (y2 + t) z2).2.2.2, if_neg hm]
    cases hc : (!(checkF a b c d e f g == 0)) with
    | true => right; simp
    | false => left; simp
theorem triTurned_true (a b c d e f g i x0 y0 z0 x1 y1 z1 x2 y2 z2 t : Int) : triTurnedF a b c d e f g i x0 y0 z0 x1 y1 z1 x2 y2 z2 t = true := by
  rw [triTurnedF_eq, wakes04_true]
  obtain ⟨u1, u2, u3, u4⟩ := okT_turn x0 y0 z0 x1 y1 z1 x2 y2 z2
  obtain ⟨s1, s2, s3, s4⟩ := okT_swap x0 y0 z0 x1 y1 z1 x2 y2 z2
  obtain ⟨w0, w1⟩ := walk_congr a b c d e f g i u1 (by rw [u2]) (by rw [u3]) (by rw [u4])
  obtain ⟨v0, v1⟩ := walk_congr a b c d e f g i s1 (by rw [s2, Int.neg_mul_neg]) (by rw [s3, Int.neg_mul_neg]) (by rw [s4, Int.neg_mul_neg])
  rw [w0, w1, v0, v1, tsame_turn, tsame_swap, (normal_val i x0 y0 z0 x1 y1 z1 x2 y2 z2).2.2.2]
  simp only [beq_self_eq_true, Bool.not_true, Bool.or_false, cond_false]
  by_cases hk : okT x0 y0 z0 x1 y1 z1 x2 y2 z2
  · rw [if_pos hk]
    have hv := hk.1
    obtain ⟨a2, a1, a0⟩ := height_at i x0 y0 z0 x1 y1 z1 x2 y2 z2 x0 y0 z0 hk (rng_of hv.1) (by unfold hNum; grind)
    obtain ⟨b2, b1, b0⟩ := height_at i x0 y0 z0 x1 y1 z1 x2 y2 z2 x1 y1 z1 hk (rng_of hv.2.1) (by unfold hNum nX nY nZ; grind)
    obtain ⟨c2, c1, c0⟩ := height_at i x0 y0 z0 x1 y1 z1 x2 y2 z2 x2 y2 z2 hk (rng_of hv.2.2) (by unfold hNum nX nY nZ; grind)
    rw [a0, a1, a2, b0, b1, b2, c0, c1, c2]
    have ht1 := Int.lt_tmod_of_pos t (by omega : (0 : Int) < 2000)
    have ht2 := Int.tmod_lt_of_pos t (by omega : (0 : Int) < 2000)
    unfold okV at hv
    have m0 : w64 (y0 + Int.tmod t 2000) = y0 + Int.tmod t 2000 := by rw [w64_id] <;> omega
    have m1 : w64 (y1 + Int.tmod t 2000) = y1 + Int.tmod t 2000 := by rw [w64_id] <;> omega
    have m2 : w64 (y2 + Int.tmod t 2000) = y2 + Int.tmod t 2000 := by rw [w64_id] <;> omega
    rw [m0, m1, m2]
    rcases walk_moved a b c d e f g i x0 y0 z0 x1 y1 z1 x2 y2 z2 (Int.tmod t 2000) hk with h | ⟨h, h'⟩
    · rw [h]; simp
    · rw [h, h']; simp
  · rw [if_neg hk]; simp
end Go.Proofs.Yteneneadfpkahaa
