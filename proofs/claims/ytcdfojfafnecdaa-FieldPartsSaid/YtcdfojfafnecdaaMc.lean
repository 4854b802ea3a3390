/- Whether a grid may be, by walks: (open.look).may and open.Check. No conditions but that the grid lies where it is said to lie. -/
import Derived.Test.YtcdfojfafnecdaaMb
namespace Go.Proofs.Ytcdfojfafnecdaa
open Go Go.RowKit Go.Sx
set_option maxHeartbeats 2000000 in
set_option maxRecDepth 100000 in
theorem may_any (B : Nat) (X Z W D : Int) (rows : List (List V3)) (A : Option Addr) (cap : Nat) (w : World) (hg : GAt B X Z W D A rows.length cap w) (hr : RowsAt w w.heap.size A rows) (hl : lensOk rows) :
    Calls Try.prog 51 #[.agg #[.pointer (some ⟨B, 0, none⟩)]] w fun e w' => BoolIff e (gridOk X Z W D rows) ∧ Below w.heap.size w w' := by
  obtain ⟨g0, g1, g2, g3, g4, g5⟩ := hg
  have hlt : ∀ o : Obj, Below w.heap.size w (w.alloc o) := fun o => (Below.refl _ _).alloc (Nat.le_refl _) _
  go_enter Try.func51, Try.ntmps51
  go_wp2
  simp only [List.append_eq, List.cons_append, List.nil_append]
  by_cases k0 : (if Z < X then Z else X) < -64
  · go_quiet (fail)
    go_wp2
    all_goals (go_ret; exact ⟨BoolIff.f (fun h => by unfold gridOk at h; first | omega | (split at k0 <;> omega)), below_drewN (hlt _) _⟩)
  have q0 : decide ((if Z < X then Z else X) < -64) = false := decide_eq_false k0
  by_cases k1 : 64 < (if X < Z then Z else X)
  · go_quiet (fail)
    go_wp2
    all_goals (go_ret; exact ⟨BoolIff.f (fun h => by unfold gridOk at h; first | omega | (split at k1 <;> omega)), below_drewN (hlt _) _⟩)
  have q1 : decide (64 < (if X < Z then Z else X)) = false := decide_eq_false k1
  by_cases k2 : (if D < W then D else W) < 0
  · go_quiet (fail)
    go_wp2
    all_goals (go_ret; exact ⟨BoolIff.f (fun h => by unfold gridOk at h; first | omega | (split at k2 <;> omega)), below_drewN (hlt _) _⟩)
  have q2 : decide ((if D < W then D else W) < 0) = false := decide_eq_false k2
  by_cases k3 : 64 < (if W < D then D else W)
  · go_quiet (fail)
    go_wp2
    all_goals (go_ret; exact ⟨BoolIff.f (fun h => by unfold gridOk at h; first | omega | (split at k3 <;> omega)), below_drewN (hlt _) _⟩)
  have q3 : decide (64 < (if W < D then D else W)) = false := decide_eq_false k3
  have hmul : W * D ≤ 4096 ∧ 0 ≤ W * D := by
    have a1 : 0 ≤ W := by split at k2 <;> omega
    have a2 : 0 ≤ D := by split at k2 <;> omega
    have a5 : W ≤ 64 := by split at k3 <;> omega
    have a6 : D ≤ 64 := by split at k3 <;> omega
    have a3 : W * D ≤ 64 * 64 := Int.mul_le_mul a5 a6 a2 (by omega)
    have a4 := Int.mul_nonneg a1 a2
    omega
  have hwr : IntKind.i64.wrap (W * D) = W * D := by rw [IntKind.wrap_i64]; omega
  have hwr2 : wrap64 (W * D) = W * D := by rw [← hwr, IntKind.wrap_i64]; unfold wrap64; omega
  have hX : -64 ≤ X ∧ X ≤ 64 ∧ -64 ≤ Z ∧ Z ≤ 64 ∧ 0 ≤ W ∧ W ≤ 64 ∧ 0 ≤ D ∧ D ≤ 64 := by
    split at k0 <;> split at k1 <;> split at k2 <;> split at k3 <;> omega
  by_cases k4 : (rows.length : Int) = W * D
  · have q4 : ((rows.length : Int) != W * D) = false := by simp [k4]
    go_quiet (fail)
    generalize (if Z < X then Z else X) = m0 at *
    generalize (if X < Z then Z else X) = m1 at *
    generalize (if D < W then D else W) = m2 at *
    generalize (if W < D then D else W) = m3 at *
    go_wp2_with (go_at_call 53; refine (contains_any rows A cap _ ((hr.below (below_drewN (hlt _) _)).more (by simp)) hl).mono ?_; rintro en w1 ⟨⟨b, rfl, hbi⟩, hb1⟩)
    go_ret
    refine ⟨?_, (below_drewN (hlt _) _).trans (hb1.mono (by simp))⟩
    by_cases hex : ∃ r ∈ rows, ¬ rowOk r
    · obtain rfl : b = true := hbi.2 hex
      obtain ⟨r, hm, hro⟩ := hex
      exact BoolIff.f (fun h => hro (h.2.2.2.2.2.2.2.2.2 r hm))
    · obtain rfl : b = false := by cases b; rfl; exact absurd (hbi.1 rfl) hex
      exact BoolIff.t ⟨hX.1, hX.2.1, hX.2.2.1, hX.2.2.2.1, hX.2.2.2.2.1, hX.2.2.2.2.2.1, hX.2.2.2.2.2.2.1, hX.2.2.2.2.2.2.2, k4, fun r hm => Classical.not_not.1 fun hro => hex ⟨r, hm, hro⟩⟩
  · have q4 : ((rows.length : Int) != W * D) = true := by simp [k4]
    go_quiet (fail)
    go_wp2
    all_goals (go_ret; exact ⟨BoolIff.f (fun h => k4 h.2.2.2.2.2.2.2.2.1), below_drewN (hlt _) _⟩)
end Go.Proofs.Ytcdfojfafnecdaa
