/- Contracts of the functions that the claim reaches, as the symbolic executor tells them. No conditions. -/
import Derived.Test.YteneneadfpkahaaProg
import Derived.Test.YteneneadfpkahaaSxCon
import Derived.Test.YteneneadfpkahaaBiM
import Derived.Test.YteneneadfpkahaaSxLoop5
namespace Go.Proofs.Yteneneadfpkahaa
open Go Go.RowKit Go.Sx
set_option maxRecDepth 100000
set_option linter.unusedVariables false

/-! footpath/footpathref06.wide -/
noncomputable def wideC : Con := conOf Try.prog [] 4000 83 [int1] false [int1]
noncomputable def wideF (a : Int) : Int := wideC.fi [.int .i64 a] 0
theorem wideF_eq (a : Int) : wideF a = w64 (w64 (Int.tdiv (w64 (a - 1)) 8) + 1) := by kernel_rfl
theorem wideC_holds : wideC.holds Try.prog := conOf_holds nil_holds _ _ _ _ _ (by kernel_rfl)

/-! footpath/footpathref06.Count -/
noncomputable def rCountC : Con := conOf Try.prog [checkRC, wideC] 4000 27 [(some 0, [.i, .i, .i, .i, .i, .i, .i])] false [int1]
noncomputable def rCountF (a_Clear : Int) (a_Climb : Int) (a_Height : Int) (a_Rise : Int) (a_Run : Int) (a_W : Int) (a_D : Int) : Int := rCountC.fi [.int .i64 a_Clear, .int .i64 a_Climb, .int .i64 a_Height, .int .i64 a_Rise, .int .i64 a_Run, .int .i64 a_W, .int .i64 a_D] 0
theorem rCountF_eq (a_Clear : Int) (a_Climb : Int) (a_Height : Int) (a_Rise : Int) (a_Run : Int) (a_W : Int) (a_D : Int) : rCountF a_Clear a_Climb a_Height a_Rise a_Run a_W a_D = (bif !(((checkRF a_Clear a_Climb a_Height a_Rise a_Run a_W a_D) == 0)) then 0 else w64 (wideF a_W * wideF a_D)) := by kernel_rfl
theorem rCountC_holds : rCountC.holds Try.prog := conOf_holds (cons_holds checkRC_holds (cons_holds wideC_holds nil_holds)) _ _ _ _ _ (by kernel_rfl)

/-! footpath/footpathref06.Touch -/
noncomputable def rTouchC : Con := conOf Try.prog [rCountC, wideC] 4000 29 [(some 0, [.i, .i, .i, .i, .i, .i, .i]), int1, int1, int1, int1, int1] false [bool1]
noncomputable def rTouchF (a_Clear : Int) (a_Climb : Int) (a_Height : Int) (a_Rise : Int) (a_Run : Int) (a_W : Int) (a_D : Int) (b : Int) (c : Int) (d : Int) (e : Int) (f : Int) : Bool := rTouchC.fb [.int .i64 a_Clear, .int .i64 a_Climb, .int .i64 a_Height, .int .i64 a_Rise, .int .i64 a_Run, .int .i64 a_W, .int .i64 a_D, .int .i64 b, .int .i64 c, .int .i64 d, .int .i64 e, .int .i64 f] 0
theorem rTouchF_eq (a_Clear : Int) (a_Climb : Int) (a_Height : Int) (a_Rise : Int) (a_Run : Int) (a_W : Int) (a_D : Int) (b : Int) (c : Int) (d : Int) (e : Int) (f : Int) : rTouchF a_Clear a_Climb a_Height a_Rise a_Run a_W a_D b c d e f = (bif (((decide (b < 0) || decide (rCountF a_Clear a_Climb a_Height a_Rise a_Run a_W a_D ≤ b)) || decide (e < c)) || decide (f < d)) then false else (((decide (c ≤ min (w64 (min (w64 (w64 (w64 (Int.tmod b (wideF a_W) * 8) + 8) - 1)) (w64 (a_W - 1)) + w64 (a_Clear + 4))) (w64 (a_W - 1))) && decide (max (w64 (w64 (Int.tmod b (wideF a_W) * 8) - w64 (a_Clear + 4))) 0 ≤ e)) && decide (d ≤ min (w64 (min (w64 (w64 (w64 (w64 (Int.tdiv b (wideF a_W)) * 8) + 8) - 1)) (w64 (a_D - 1)) + w64 (a_Clear + 4))) (w64 (a_D - 1)))) && decide (max (w64 (w64 (w64 (Int.tdiv b (wideF a_W)) * 8) - w64 (a_Clear + 4))) 0 ≤ f))) := by kernel_rfl
def rTouch_Need (a_Clear : Int) (a_Climb : Int) (a_Height : Int) (a_Rise : Int) (a_Run : Int) (a_W : Int) (a_D : Int) (b : Int) (c : Int) (d : Int) (e : Int) (f : Int) : Prop := ((((((decide (b < 0) || decide (rCountF a_Clear a_Climb a_Height a_Rise a_Run a_W a_D ≤ b)) || decide (e < c)) || decide (f < d))) = true → True) ∧ (((((decide (b < 0) || decide (rCountF a_Clear a_Climb a_Height a_Rise a_Run a_W a_D ≤ b)) || decide (e < c)) || decide (f < d))) = false → ((!(((wideF a_W) == 0))) = true ∧ ((!(((wideF a_W) == 0))) = true ∧ True))))
theorem rTouchC_holds_of (h : ∀ (a_Clear : Int) (a_Climb : Int) (a_Height : Int) (a_Rise : Int) (a_Run : Int) (a_W : Int) (a_D : Int) (b : Int) (c : Int) (d : Int) (e : Int) (f : Int), rTouch_Need a_Clear a_Climb a_Height a_Rise a_Run a_W a_D b c d e f) : rTouchC.holds Try.prog := conOf_holds_need (cons_holds rCountC_holds (cons_holds wideC_holds nil_holds)) _ _ _ _ _ (by kernel_rfl) (by rintro cs ⟨a_Clear, _, rfl, a_Climb, _, rfl, a_Height, _, rfl, a_Rise, _, rfl, a_Run, _, rfl, a_W, _, rfl, a_D, _, rfl, b, _, rfl, c, _, rfl, d, _, rfl, e, _, rfl, f, _, rfl, rfl⟩; refine Eq.mpr (?_ : _ = rTouch_Need a_Clear a_Climb a_Height a_Rise a_Run a_W a_D b c d e f) (h a_Clear a_Climb a_Height a_Rise a_Run a_W a_D b c d e f); kernel_rfl)
theorem rTouch_need (p q r s t u v b c d e f : Int) : rTouch_Need p q r s t u v b c d e f := by
  unfold rTouch_Need
  refine ⟨fun _ => trivial, fun h => ?_⟩
  simp only [Bool.or_eq_false_iff, decide_eq_false_iff_not] at h
  have h2 : wideF u ≠ 0 := fun h0 => by
    have h3 := h.1.1.2
    have h4 : w64 0 = 0 := by rw [w64_id] <;> omega
    rw [rCountF_eq, h0, Int.zero_mul, h4] at h3
    have h5 : ¬ (0 : Int) ≤ b := by
      intro hb
      apply h3
      cases (checkRF p q r s t u v == 0) <;> simpa using hb
    exact absurd h.1.1.1 (by omega)
  have h5 : (!(wideF u == 0)) = true := by simpa using h2
  exact ⟨h5, h5, trivial⟩
theorem rTouchC_holds : rTouchC.holds Try.prog := rTouchC_holds_of rTouch_need

end Go.Proofs.Yteneneadfpkahaa
