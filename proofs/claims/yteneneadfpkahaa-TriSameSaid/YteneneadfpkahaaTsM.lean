/- The law TriSame: what its call tells is true. No conditions. -/
import Derived.Test.YteneneadfpkahaaTs
namespace Go.Proofs.Yteneneadfpkahaa
open Go Go.RowKit Go.Sx
theorem triSame_true (i x0 y0 z0 x1 y1 z1 x2 y2 z2 j u0 v0 w0 u1 v1 w1 u2 v2 w2 : Int) : triSameF i x0 y0 z0 x1 y1 z1 x2 y2 z2 j u0 v0 w0 u1 v1 w1 u2 v2 w2 = true := by
  rw [triSameF_eq, wakes04_true, rSame_val]
  unfold tsameF
  rw [sameL_self, sameL_comm ⟨u0, v0, w0⟩]
  have e : decide (j = i) = decide (i = j) := by rw [decide_eq_decide]; exact ⟨Eq.symm, Eq.symm⟩
  rw [e]
  simp
end Go.Proofs.Yteneneadfpkahaa
