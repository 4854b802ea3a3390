/- The document's Same of triangles tells what the program's tells. No conditions. -/
import Derived.Test.YteneneadfpkahaaRs
import Derived.Test.YteneneadfpkahaaSameM
namespace Go.Proofs.Yteneneadfpkahaa
open Go Go.RowKit Go.Sx
theorem v3_eq (x y z u v w : Int) : ((x == u) && ((y == v) && (z == w))) = decide ((⟨x, y, z⟩ : V3) = ⟨u, v, w⟩) := by
  rw [Bool.eq_iff_iff]
  simp [V3.mk.injEq]
theorem sum3 (p q r u : V3) : (if decide (r = u) = true then w64 ((if decide (q = u) = true then w64 ((if decide (p = u) = true then 1 else 0) + 1) else (if decide (p = u) = true then 1 else 0)) + 1) else (if decide (q = u) = true then w64 ((if decide (p = u) = true then 1 else 0) + 1) else (if decide (p = u) = true then 1 else 0))) = ((List.count u [p, q, r] : Nat) : Int) := by
  rw [count3]
  by_cases h0 : p = u <;> by_cases h1 : q = u <;> by_cases h2 : r = u <;> simp [h0, h1, h2] <;> rfl
theorem sum3' (x0 y0 z0 x1 y1 z1 x2 y2 z2 u v w : Int) : (if ((x2 == u) && ((y2 == v) && (z2 == w))) = true then w64 ((if ((x1 == u) && ((y1 == v) && (z1 == w))) = true then w64 ((if ((x0 == u) && ((y0 == v) && (z0 == w))) = true then 1 else 0) + 1) else (if ((x0 == u) && ((y0 == v) && (z0 == w))) = true then 1 else 0)) + 1)
    else (if ((x1 == u) && ((y1 == v) && (z1 == w))) = true then w64 ((if ((x0 == u) && ((y0 == v) && (z0 == w))) = true then 1 else 0) + 1) else (if ((x0 == u) && ((y0 == v) && (z0 == w))) = true then 1 else 0))) = ((List.count (⟨u, v, w⟩ : V3) [⟨x0, y0, z0⟩, ⟨x1, y1, z1⟩, ⟨x2, y2, z2⟩] : Nat) : Int) := by
  rw [v3_eq, v3_eq, v3_eq]
  exact sum3 _ _ _ _
theorem rSame_val (i x0 y0 z0 x1 y1 z1 x2 y2 z2 j u0 v0 w0 u1 v1 w1 u2 v2 w2 : Int) : rSameF i x0 y0 z0 x1 y1 z1 x2 y2 z2 j u0 v0 w0 u1 v1 w1 u2 v2 w2 =
    (sameL [⟨x0, y0, z0⟩, ⟨x1, y1, z1⟩, ⟨x2, y2, z2⟩] [⟨u0, v0, w0⟩, ⟨u1, v1, w1⟩, ⟨u2, v2, w2⟩] && decide (i = j)) := by
  rw [rSameF_eq]
  rw [sum3', sum3', sum3', sum3', sum3', sum3']
  have h := sameL_iff3 ⟨x0, y0, z0⟩ ⟨x1, y1, z1⟩ ⟨x2, y2, z2⟩ ⟨u0, v0, w0⟩ ⟨u1, v1, w1⟩ ⟨u2, v2, w2⟩
  generalize (⟨x0, y0, z0⟩ : V3) = a at *
  generalize (⟨x1, y1, z1⟩ : V3) = b at *
  generalize (⟨x2, y2, z2⟩ : V3) = c at *
  generalize (⟨u0, v0, w0⟩ : V3) = p at *
  generalize (⟨u1, v1, w1⟩ : V3) = q at *
  generalize (⟨u2, v2, w2⟩ : V3) = r at *
  generalize List.count a [a, b, c] = n0 at *
  generalize List.count b [a, b, c] = n1 at *
  generalize List.count c [a, b, c] = n2 at *
  generalize List.count a [p, q, r] = m0 at *
  generalize List.count b [p, q, r] = m1 at *
  generalize List.count c [p, q, r] = m2 at *
  have e : ∀ n m : Nat, (((n : Int) == (m : Int)) = decide (n = m)) := fun n m => by rw [Bool.eq_iff_iff, beq_iff_eq, decide_eq_true_iff]; omega
  rw [e, e, e]
  by_cases hi : i = j
  · subst hi
    by_cases h0 : n0 = m0 <;> by_cases h1 : n1 = m1 <;> by_cases h2 : n2 = m2
    · rw [h.2 ⟨h0, h1, h2⟩]; simp [h0, h1, h2]
    all_goals
      have hf : sameL [a, b, c] [p, q, r] = false := by
        rw [Bool.eq_false_iff]
        intro ht
        have := h.1 ht
        omega
      rw [hf]
      simp [h0, h1, h2]
  · simp [hi]
end Go.Proofs.Yteneneadfpkahaa
