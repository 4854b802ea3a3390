/- The document's Count and Touch are the program's. No conditions. -/
import Derived.Test.YteneneadfpkahaaBiM
import Derived.Test.YteneneadfpkahaaBr
namespace Go.Proofs.Yteneneadfpkahaa
open Go Go.RowKit Go.Sx
theorem wide_val {n : Int} (h1 : 1 ≤ n) (h2 : n ≤ 32) : wideF n = wd n := by rw [wideF_eq]; exact (wd_val h1 h2).1
theorem rcount_val (a b c d e f g : Int) : rCountF a b c d e f g = countF a b c d e f g := by
  rw [rCountF_eq, ← checkF_checkRF, check_val, count_val]
  by_cases h : okC a b c d e f g
  · rw [if_pos h, if_pos h]
    unfold okC at h
    rw [wide_val (by omega) (by omega), wide_val (by omega) (by omega)]
    obtain ⟨_, h1, h2, _⟩ := wd_val (n := f) (by omega) (by omega)
    obtain ⟨_, h3, h4, _⟩ := wd_val (n := g) (by omega) (by omega)
    exact (wd_mul h1 h2 h3 h4).1
  · rw [if_neg h, if_neg h]; rfl
theorem rpad_side {clear n t : Int} (h1 : 0 ≤ clear) (h2 : clear ≤ 3) (h3 : 1 ≤ n) (h4 : n ≤ 32) (h5 : 0 ≤ t) (h6 : t < wd n) :
    max (w64 (w64 (t * 8) - w64 (clear + 4))) 0 = loT clear t ∧ min (w64 (min (w64 (w64 (w64 (t * 8) + 8) - 1)) (w64 (n - 1)) + w64 (clear + 4))) (w64 (n - 1)) = hiT clear n t := by
  have h7 := (wd_val h3 h4).2
  have e1 : w64 (t * 8) = t * 8 := by rw [w64_id] <;> omega
  have e2 : w64 (clear + 4) = clear + 4 := by rw [w64_id] <;> omega
  have e3 : w64 (t * 8 + 8) = t * 8 + 8 := by rw [w64_id] <;> omega
  have e5 : w64 (t * 8 + 8 - 1) = t * 8 + 8 - 1 := by rw [w64_id] <;> omega
  have e6 : w64 (n - 1) = n - 1 := by rw [w64_id] <;> omega
  rw [e1, e2, e3, e5, e6]
  have e7 : w64 (t * 8 - (clear + 4)) = t * 8 - (clear + 4) := by rw [w64_id] <;> omega
  have e8 : w64 (min (t * 8 + 8 - 1) (n - 1) + (clear + 4)) = min (t * 8 + 8 - 1) (n - 1) + (clear + 4) := by rw [w64_id] <;> omega
  rw [e7, e8]
  unfold loT hiT
  omega
theorem rtouch_val (a b c d e f g i x0 z0 x1 z1 : Int) : rTouchF a b c d e f g i x0 z0 x1 z1 = touchF a b c d e f g i x0 z0 x1 z1 := by
  by_cases hin : 0 ≤ i ∧ i < countF a b c d e f g
  · obtain ⟨hok, hlt⟩ := count_ok hin.1 hin.2
    rw [touch_val hok hin.1 hlt, rTouchF_eq, rcount_val]
    unfold okC at hok
    have wf := wd_val (n := f) (by omega) (by omega)
    have wg := wd_val (n := g) (by omega) (by omega)
    have ht := tile_at wf.2.1 wf.2.2.1 wg.2.2.1 hin.1 hlt
    have px := rpad_side (clear := a) (n := f) (t := i % wd f) (by omega) (by omega) (by omega) (by omega) (by omega) (by omega)
    have pz := rpad_side (clear := a) (n := g) (t := i / wd f) (by omega) (by omega) (by omega) (by omega) (by omega) (by omega)
    rw [wide_val (n := f) (by omega) (by omega), ht.1, ht.2.1, px.1, px.2, pz.1, pz.2]
    rw [decide_eq_false (by omega : ¬ i < 0), decide_eq_false (by omega : ¬ countF a b c d e f g ≤ i), Bool.or_false, Bool.false_or]
    unfold hit
    generalize loT a (i % wd f) = p
    generalize loT a (i / wd f) = q
    generalize hiT a f (i % wd f) = r
    generalize hiT a g (i / wd f) = s
    by_cases hs : x0 ≤ x1 ∧ z0 ≤ z1
    · rw [decide_eq_false (by omega : ¬ x1 < x0), decide_eq_false (by omega : ¬ z1 < z0), Bool.or_false, cond_false]
      rw [Bool.eq_iff_iff]
      simp only [Bool.and_eq_true, decide_eq_true_eq]
      omega
    · have : (decide (x1 < x0) || decide (z1 < z0)) = true := by simp only [Bool.or_eq_true, decide_eq_true_eq]; omega
      rw [this, cond_true, decide_eq_false]
      omega
  · rw [touch_out (by omega), rTouchF_eq, rcount_val]
    have : (decide (i < 0) || decide (countF a b c d e f g ≤ i)) = true := by simp only [Bool.or_eq_true, decide_eq_true_eq]; omega
    rw [this, Bool.true_or, Bool.true_or, cond_true]
end Go.Proofs.Yteneneadfpkahaa
