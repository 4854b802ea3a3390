/- Triangles: normals, checks, walks, as plain numbers. No conditions. -/
import Derived.Test.YteneneadfpkahaaWhM
import Derived.Test.YteneneadfpkahaaTr
import Derived.Test.YteneneadfpkahaaGr
namespace Go.Proofs.Yteneneadfpkahaa
open Go Go.RowKit Go.Sx
def okV (x y z : Int) : Prop := 0 ≤ x ∧ x ≤ 32 ∧ 0 ≤ z ∧ z ≤ 32 ∧ -2048 ≤ y ∧ y ≤ 2048
instance (x y z : Int) : Decidable (okV x y z) := by unfold okV; infer_instance
def nX (x0 y0 z0 x1 y1 z1 x2 y2 z2 : Int) : Int := (y1 - y0) * (z2 - z0) - (z1 - z0) * (y2 - y0) + 0 * (x0 + x1 + x2)
def nY (x0 y0 z0 x1 y1 z1 x2 y2 z2 : Int) : Int := (z1 - z0) * (x2 - x0) - (x1 - x0) * (z2 - z0) + 0 * (y0 + y1 + y2)
def nZ (x0 y0 z0 x1 y1 z1 x2 y2 z2 : Int) : Int := (x1 - x0) * (y2 - y0) - (y1 - y0) * (x2 - x0) + 0 * (z0 + z1 + z2)
def okT (x0 y0 z0 x1 y1 z1 x2 y2 z2 : Int) : Prop := (okV x0 y0 z0 ∧ okV x1 y1 z1 ∧ okV x2 y2 z2) ∧ nY x0 y0 z0 x1 y1 z1 x2 y2 z2 ≠ 0
instance (x0 y0 z0 x1 y1 z1 x2 y2 z2 : Int) : Decidable (okT x0 y0 z0 x1 y1 z1 x2 y2 z2) := by unfold okT; infer_instance
theorem n_bd {x0 y0 z0 x1 y1 z1 x2 y2 z2 : Int} (h : okV x0 y0 z0 ∧ okV x1 y1 z1 ∧ okV x2 y2 z2) :
    (-131072 ≤ (y1 - y0) * (z2 - z0) ∧ (y1 - y0) * (z2 - z0) ≤ 131072) ∧ (-131072 ≤ (z1 - z0) * (y2 - y0) ∧ (z1 - z0) * (y2 - y0) ≤ 131072) ∧ (-1024 ≤ (z1 - z0) * (x2 - x0) ∧ (z1 - z0) * (x2 - x0) ≤ 1024) ∧
    (-1024 ≤ (x1 - x0) * (z2 - z0) ∧ (x1 - x0) * (z2 - z0) ≤ 1024) ∧ (-131072 ≤ (x1 - x0) * (y2 - y0) ∧ (x1 - x0) * (y2 - y0) ≤ 131072) ∧ (-131072 ≤ (y1 - y0) * (x2 - x0) ∧ (y1 - y0) * (x2 - x0) ≤ 131072) := by
  unfold okV at h
  refine ⟨?_, ?_, ?_, ?_, ?_, ?_⟩
  · have := mul_abs_le (x := y1 - y0) (y := z2 - z0) (X := 4096) (Y := 32) (by omega) (by omega) (by omega) (by omega); omega
  · have := mul_abs_le (x := z1 - z0) (y := y2 - y0) (X := 32) (Y := 4096) (by omega) (by omega) (by omega) (by omega); omega
  · have := mul_abs_le (x := z1 - z0) (y := x2 - x0) (X := 32) (Y := 32) (by omega) (by omega) (by omega) (by omega); omega
  · have := mul_abs_le (x := x1 - x0) (y := z2 - z0) (X := 32) (Y := 32) (by omega) (by omega) (by omega) (by omega); omega
  · have := mul_abs_le (x := x1 - x0) (y := y2 - y0) (X := 32) (Y := 4096) (by omega) (by omega) (by omega) (by omega); omega
  · have := mul_abs_le (x := y1 - y0) (y := x2 - x0) (X := 4096) (Y := 32) (by omega) (by omega) (by omega) (by omega); omega
theorem nX_bd {x0 y0 z0 x1 y1 z1 x2 y2 z2 : Int} (h : okV x0 y0 z0 ∧ okV x1 y1 z1 ∧ okV x2 y2 z2) : -262144 ≤ nX x0 y0 z0 x1 y1 z1 x2 y2 z2 ∧ nX x0 y0 z0 x1 y1 z1 x2 y2 z2 ≤ 262144 := by
  have := n_bd h; unfold nX; omega
theorem nY_bd {x0 y0 z0 x1 y1 z1 x2 y2 z2 : Int} (h : okV x0 y0 z0 ∧ okV x1 y1 z1 ∧ okV x2 y2 z2) : -2048 ≤ nY x0 y0 z0 x1 y1 z1 x2 y2 z2 ∧ nY x0 y0 z0 x1 y1 z1 x2 y2 z2 ≤ 2048 := by
  have := n_bd h; unfold nY; omega
theorem nZ_bd {x0 y0 z0 x1 y1 z1 x2 y2 z2 : Int} (h : okV x0 y0 z0 ∧ okV x1 y1 z1 ∧ okV x2 y2 z2) : -262144 ≤ nZ x0 y0 z0 x1 y1 z1 x2 y2 z2 ∧ nZ x0 y0 z0 x1 y1 z1 x2 y2 z2 ≤ 262144 := by
  have := n_bd h; unfold nZ; omega
theorem corners_val (i x0 y0 z0 x1 y1 z1 x2 y2 z2 : Int) : cornersF i x0 y0 z0 x1 y1 z1 x2 y2 z2 32 32 = decide (okV x0 y0 z0 ∧ okV x1 y1 z1 ∧ okV x2 y2 z2) := by
  rw [cornersF_eq, tboundsF0_eq, tboundsF1_eq, tboundsF2_eq, tboundsF3_eq, tboundsF4_eq, tboundsF5_eq]
  simp only [bminF_eq, bmaxF_eq]
  rw [Bool.eq_iff_iff]
  simp only [Bool.and_eq_true, decide_eq_true_eq, Int.max_le, Int.le_min]
  unfold okV
  omega
theorem w64_mul_sub {a b c d : Int} (X : Int) (hX : X ≤ 1000000000) (h1 : -X ≤ a * b ∧ a * b ≤ X) (h2 : -X ≤ c * d ∧ c * d ≤ X) : w64 (w64 (a * b) - w64 (c * d)) = a * b - c * d := by
  have e1 : w64 (a * b) = a * b := by rw [w64_id] <;> omega
  have e2 : w64 (c * d) = c * d := by rw [w64_id] <;> omega
  rw [e1, e2, w64_id] <;> omega
theorem normal_val (i x0 y0 z0 x1 y1 z1 x2 y2 z2 : Int) :
    normalF0 i x0 y0 z0 x1 y1 z1 x2 y2 z2 = (if okT x0 y0 z0 x1 y1 z1 x2 y2 z2 then nX x0 y0 z0 x1 y1 z1 x2 y2 z2 else 0) ∧ normalF1 i x0 y0 z0 x1 y1 z1 x2 y2 z2 = (if okT x0 y0 z0 x1 y1 z1 x2 y2 z2 then nY x0 y0 z0 x1 y1 z1 x2 y2 z2 else 0) ∧
    normalF2 i x0 y0 z0 x1 y1 z1 x2 y2 z2 = (if okT x0 y0 z0 x1 y1 z1 x2 y2 z2 then nZ x0 y0 z0 x1 y1 z1 x2 y2 z2 else 0) ∧ normalF3 i x0 y0 z0 x1 y1 z1 x2 y2 z2 = (if okT x0 y0 z0 x1 y1 z1 x2 y2 z2 then 0 else 40) := by
  rw [normalF0_eq, normalF1_eq, normalF2_eq, normalF3_eq, corners_val]
  simp only [lessF0_eq, lessF1_eq, lessF2_eq]
  by_cases h : okV x0 y0 z0 ∧ okV x1 y1 z1 ∧ okV x2 y2 z2
  · rw [decide_eq_true h]
    have hb := n_bd h
    have ex : nX x0 y0 z0 x1 y1 z1 x2 y2 z2 = (y1 - y0) * (z2 - z0) - (z1 - z0) * (y2 - y0) := by unfold nX; omega
    have ey : nY x0 y0 z0 x1 y1 z1 x2 y2 z2 = (z1 - z0) * (x2 - x0) - (x1 - x0) * (z2 - z0) := by unfold nY; omega
    have ez : nZ x0 y0 z0 x1 y1 z1 x2 y2 z2 = (x1 - x0) * (y2 - y0) - (y1 - y0) * (x2 - x0) := by unfold nZ; omega
    have hk : okT x0 y0 z0 x1 y1 z1 x2 y2 z2 ↔ nY x0 y0 z0 x1 y1 z1 x2 y2 z2 ≠ 0 := ⟨fun h => h.2, fun h2 => ⟨h, h2⟩⟩
    rw [ex, ez]
    have hv := h
    unfold okV at hv
    have d : ∀ {a b : Int}, -4096 ≤ a - b → a - b ≤ 4096 → w64 (a - b) = a - b := fun h1 h2 => by rw [w64_id] <;> omega
    rw [d (a := x1) (b := x0) (by omega) (by omega), d (a := y1) (b := y0) (by omega) (by omega), d (a := z1) (b := z0) (by omega) (by omega), d (a := x2) (b := x0) (by omega) (by omega), d (a := y2) (b := y0) (by omega) (by omega), d (a := z2) (b := z0) (by omega) (by omega)]
    rw [w64_mul_sub 131072 (by omega) (by omega) (by omega), w64_mul_sub 131072 (by omega) (by omega) (by omega), w64_mul_sub 131072 (by omega) (by omega) (by omega), ← ey]
    by_cases h0 : nY x0 y0 z0 x1 y1 z1 x2 y2 z2 = 0
    · rw [if_neg (fun e => hk.1 e h0), if_neg (fun e => hk.1 e h0), if_neg (fun e => hk.1 e h0), if_neg (fun e => hk.1 e h0)]
      simp [h0]
    · have e0 : (nY x0 y0 z0 x1 y1 z1 x2 y2 z2 == 0) = false := by simpa using h0
      rw [e0, if_pos (hk.2 h0), if_pos (hk.2 h0), if_pos (hk.2 h0), if_pos (hk.2 h0)]
      simp
  · rw [decide_eq_false h, if_neg (fun e => h e.1), if_neg (fun e => h e.1), if_neg (fun e => h e.1), if_neg (fun e => h e.1)]
    simp
theorem rNormal_val (i x0 y0 z0 x1 y1 z1 x2 y2 z2 : Int) :
    rNormalF0 i x0 y0 z0 x1 y1 z1 x2 y2 z2 = (if okT x0 y0 z0 x1 y1 z1 x2 y2 z2 then nX x0 y0 z0 x1 y1 z1 x2 y2 z2 else 0) ∧ rNormalF1 i x0 y0 z0 x1 y1 z1 x2 y2 z2 = (if okT x0 y0 z0 x1 y1 z1 x2 y2 z2 then nY x0 y0 z0 x1 y1 z1 x2 y2 z2 else 0) ∧
    rNormalF2 i x0 y0 z0 x1 y1 z1 x2 y2 z2 = (if okT x0 y0 z0 x1 y1 z1 x2 y2 z2 then nZ x0 y0 z0 x1 y1 z1 x2 y2 z2 else 0) ∧ rNormalF3 i x0 y0 z0 x1 y1 z1 x2 y2 z2 = (if okT x0 y0 z0 x1 y1 z1 x2 y2 z2 then 0 else 40) := by
  have g : ∀ x y z : Int, (((((decide (x < 0) || decide (32 < x)) || decide (z < 0)) || decide (32 < z)) || decide (y < (-2048))) || decide (2048 < y)) = !decide (okV x y z) := by
    intro x y z
    by_cases h : okV x y z
    · rw [decide_eq_true h]
      unfold okV at h
      simp only [Bool.not_true, Bool.or_eq_false_iff, decide_eq_false_iff_not]
      omega
    · rw [decide_eq_false h]
      unfold okV at h
      simp only [Bool.not_false, Bool.or_eq_true, decide_eq_true_eq]
      omega
  rw [rNormalF0_eq, rNormalF1_eq, rNormalF2_eq, rNormalF3_eq]
  simp only [g]
  by_cases h : okV x0 y0 z0 ∧ okV x1 y1 z1 ∧ okV x2 y2 z2
  · rw [decide_eq_true h.1, decide_eq_true h.2.1, decide_eq_true h.2.2]
    simp only [Bool.not_true, cond_false]
    have hb := n_bd h
    have ex : nX x0 y0 z0 x1 y1 z1 x2 y2 z2 = (y1 - y0) * (z2 - z0) - (z1 - z0) * (y2 - y0) := by unfold nX; omega
    have ey : nY x0 y0 z0 x1 y1 z1 x2 y2 z2 = (z1 - z0) * (x2 - x0) - (x1 - x0) * (z2 - z0) := by unfold nY; omega
    have ez : nZ x0 y0 z0 x1 y1 z1 x2 y2 z2 = (x1 - x0) * (y2 - y0) - (y1 - y0) * (x2 - x0) := by unfold nZ; omega
    have hk : okT x0 y0 z0 x1 y1 z1 x2 y2 z2 ↔ nY x0 y0 z0 x1 y1 z1 x2 y2 z2 ≠ 0 := ⟨fun h => h.2, fun h2 => ⟨h, h2⟩⟩
    rw [ex, ez]
    have hv := h
    unfold okV at hv
    have d : ∀ {a b : Int}, -4096 ≤ a - b → a - b ≤ 4096 → w64 (a - b) = a - b := fun h1 h2 => by rw [w64_id] <;> omega
    rw [d (a := x1) (b := x0) (by omega) (by omega), d (a := y1) (b := y0) (by omega) (by omega), d (a := z1) (b := z0) (by omega) (by omega), d (a := x2) (b := x0) (by omega) (by omega), d (a := y2) (b := y0) (by omega) (by omega), d (a := z2) (b := z0) (by omega) (by omega)]
    rw [w64_mul_sub 131072 (by omega) (by omega) (by omega), w64_mul_sub 131072 (by omega) (by omega) (by omega), w64_mul_sub 131072 (by omega) (by omega) (by omega), ← ey]
    by_cases h0 : nY x0 y0 z0 x1 y1 z1 x2 y2 z2 = 0
    · rw [if_neg (fun e => hk.1 e h0), if_neg (fun e => hk.1 e h0), if_neg (fun e => hk.1 e h0), if_neg (fun e => hk.1 e h0)]
      simp [h0]
    · have e0 : (nY x0 y0 z0 x1 y1 z1 x2 y2 z2 == 0) = false := by simpa using h0
      rw [e0, if_pos (hk.2 h0), if_pos (hk.2 h0), if_pos (hk.2 h0), if_pos (hk.2 h0)]
      simp
  · rw [if_neg (fun e => h e.1), if_neg (fun e => h e.1), if_neg (fun e => h e.1), if_neg (fun e => h e.1)]
    by_cases h0 : okV x0 y0 z0 <;> by_cases h1 : okV x1 y1 z1 <;> by_cases h2 : okV x2 y2 z2
    · exact absurd ⟨h0, h1, h2⟩ h
    all_goals simp [h0, h1, h2]
end Go.Proofs.Yteneneadfpkahaa
