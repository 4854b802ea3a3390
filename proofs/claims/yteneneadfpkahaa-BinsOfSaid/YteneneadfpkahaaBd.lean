/- What bins and footpathref06 tell of boxes and triangles is the same. No conditions. -/
import Derived.Test.YteneneadfpkahaaTlN
import Derived.Test.YteneneadfpkahaaTb
import Derived.Test.YteneneadfpkahaaTc
import Derived.Test.YteneneadfpkahaaBz
import Derived.Test.YteneneadfpkahaaBq
namespace Go.Proofs.Yteneneadfpkahaa
open Go Go.RowKit Go.Sx
theorem rBounds_eqs (i x0 y0 z0 x1 y1 z1 x2 y2 z2 : Int) : rBoundsF0 i x0 y0 z0 x1 y1 z1 x2 y2 z2 = tboundsF0 i x0 y0 z0 x1 y1 z1 x2 y2 z2 ∧ rBoundsF2 i x0 y0 z0 x1 y1 z1 x2 y2 z2 = tboundsF2 i x0 y0 z0 x1 y1 z1 x2 y2 z2 ∧
    rBoundsF3 i x0 y0 z0 x1 y1 z1 x2 y2 z2 = tboundsF3 i x0 y0 z0 x1 y1 z1 x2 y2 z2 ∧ rBoundsF5 i x0 y0 z0 x1 y1 z1 x2 y2 z2 = tboundsF5 i x0 y0 z0 x1 y1 z1 x2 y2 z2 := by
  rw [tboundsF0_eq, tboundsF2_eq, tboundsF3_eq, tboundsF5_eq, rBoundsF0_eq, rBoundsF2_eq, rBoundsF3_eq, rBoundsF5_eq]
  simp only [bminF_eq, bmaxF_eq, Int.min_self, Int.max_self]
  simp
/-- Where the config may be, a box may not be in both alike. -/
theorem box_same {a b c d e f g i x0 z0 x1 z1 y0 y1 ar : Int} (hk : checkF a b c d e f g = 0) :
    boxBad f g i x0 z0 x1 z1 y0 y1 ar = ((!(mayBoxF a b c d e f g i x0 z0 x1 z1 y0 y1 ar) || decide (i < 1)) || decide (1073741824 < i)) := by
  have hok : okC a b c d e f g := by
    rw [check_val] at hk
    by_cases h : okC a b c d e f g
    · exact h
    · rw [if_neg h] at hk; cases hk
  unfold okC at hok
  unfold boxBad
  rw [emptyF_eq, meetF0_eq, meetF1_eq, meetF2_eq, meetF3_eq, mayBoxF_eq, rheight5F_eq, rheight5F_eq]
  have e1 : w64 (f - 1) = f - 1 := by rw [w64_id] <;> omega
  have e2 : w64 (g - 1) = g - 1 := by rw [w64_id] <;> omega
  rw [e1, e2, Bool.eq_iff_iff]
  simp only [Bool.or_eq_true, Bool.not_eq_true', Bool.and_eq_false_iff, decide_eq_true_eq, decide_eq_false_iff_not, beq_eq_false_iff_ne]
  omega
end Go.Proofs.Yteneneadfpkahaa
