/- The law TriSame: for every input its call returns true, and the arguments read behind it as before. No conditions. -/
import Derived.Test.YteneneadfpkahaaRows
import Derived.Test.YteneneadfpkahaaSxLaw
import Derived.Test.YteneneadfpkahaaTsM
namespace Go.Proofs.Yteneneadfpkahaa
open Go Go.RowKit Go.Sx Go.ChangeShapes Go.WideShapes Go.ChangeAt
set_option maxRecDepth 100000
set_option linter.unusedVariables false



theorem triSame_out (cs : List Value) (h : typed (triSameC.params.flatMap (·.2)) cs) (hb : bounded cs) : triSameC.out cs = .bool true := by
  obtain ⟨x0, _, rfl, x1, _, rfl, x2, _, rfl, x3, _, rfl, x4, _, rfl, x5, _, rfl, x6, _, rfl, x7, _, rfl, x8, _, rfl, x9, _, rfl, x10, _, rfl, x11, _, rfl, x12, _, rfl, x13, _, rfl, x14, _, rfl, x15, _, rfl, x16, _, rfl, x17, _, rfl, x18, _, rfl, x19, _, rfl, rfl⟩ := h
  have hbd : (-9223372036854775808 ≤ x0 ∧ x0 ≤ 9223372036854775807) ∧ (-9223372036854775808 ≤ x1 ∧ x1 ≤ 9223372036854775807) ∧ (-9223372036854775808 ≤ x2 ∧ x2 ≤ 9223372036854775807) ∧ (-9223372036854775808 ≤ x3 ∧ x3 ≤ 9223372036854775807) ∧ (-9223372036854775808 ≤ x4 ∧ x4 ≤ 9223372036854775807) ∧ (-9223372036854775808 ≤ x5 ∧ x5 ≤ 9223372036854775807) ∧ (-9223372036854775808 ≤ x6 ∧ x6 ≤ 9223372036854775807) ∧ (-9223372036854775808 ≤ x7 ∧ x7 ≤ 9223372036854775807) ∧ (-9223372036854775808 ≤ x8 ∧ x8 ≤ 9223372036854775807) ∧ (-9223372036854775808 ≤ x9 ∧ x9 ≤ 9223372036854775807) ∧ (-9223372036854775808 ≤ x10 ∧ x10 ≤ 9223372036854775807) ∧ (-9223372036854775808 ≤ x11 ∧ x11 ≤ 9223372036854775807) ∧ (-9223372036854775808 ≤ x12 ∧ x12 ≤ 9223372036854775807) ∧ (-9223372036854775808 ≤ x13 ∧ x13 ≤ 9223372036854775807) ∧ (-9223372036854775808 ≤ x14 ∧ x14 ≤ 9223372036854775807) ∧ (-9223372036854775808 ≤ x15 ∧ x15 ≤ 9223372036854775807) ∧ (-9223372036854775808 ≤ x16 ∧ x16 ≤ 9223372036854775807) ∧ (-9223372036854775808 ≤ x17 ∧ x17 ≤ 9223372036854775807) ∧ (-9223372036854775808 ≤ x18 ∧ x18 ≤ 9223372036854775807) ∧ (-9223372036854775808 ≤ x19 ∧ x19 ≤ 9223372036854775807) ∧ True := ⟨hb _ (by simp) x0 rfl, hb _ (by simp) x1 rfl, hb _ (by simp) x2 rfl, hb _ (by simp) x3 rfl, hb _ (by simp) x4 rfl, hb _ (by simp) x5 rfl, hb _ (by simp) x6 rfl, hb _ (by simp) x7 rfl, hb _ (by simp) x8 rfl, hb _ (by simp) x9 rfl, hb _ (by simp) x10 rfl, hb _ (by simp) x11 rfl, hb _ (by simp) x12 rfl, hb _ (by simp) x13 rfl, hb _ (by simp) x14 rfl, hb _ (by simp) x15 rfl, hb _ (by simp) x16 rfl, hb _ (by simp) x17 rfl, hb _ (by simp) x18 rfl, hb _ (by simp) x19 rfl, trivial⟩
  show Value.bool (triSameF x0 x1 x2 x3 x4 x5 x6 x7 x8 x9 x10 x11 x12 x13 x14 x15 x16 x17 x18 x19) = .bool true
  rw [triSame_true x0 x1 x2 x3 x4 x5 x6 x7 x8 x9 x10 x11 x12 x13 x14 x15 x16 x17 x18 x19]

theorem triSame_own : ownKnob Try.prog.godebug = none := by kernel_rfl
theorem triSame_laid : laidOutB Try.prog = true := by kernel_rfl
theorem triSame_lifted (os : Os) (started : os.Started) (H : Type) (enc : TypeId × Value → H) :
    ReturnsInHanded {} Try.checked os 16 .any (Rows.triSameSpec.pre6 enc Try.prog Try.f16 Rows.triSameRow.domain false) (Rows.triSameSpec.post enc Try.prog Try.f16 false true false false) := by
  refine returnsInHanded_of_change (C := Try.checked) triSame_own started (by kernel_rfl) Try.func16
    (ChangeSpec.witness6 (enc := enc) (C := Try.checked) false ⟨#[], #[.agg #[.int .i64 0, .int .i64 0, .int .i64 0, .int .i64 0, .int .i64 0, .int .i64 0, .int .i64 0, .int .i64 0, .int .i64 0, .int .i64 0], .agg #[.int .i64 0, .int .i64 0, .int .i64 0, .int .i64 0, .int .i64 0, .int .i64 0, .int .i64 0, .int .i64 0, .int .i64 0, .int .i64 0]], []⟩ 8 (by kernel_rfl) (by kernel_rfl) (by kernel_rfl) (by kernel_rfl)) ?_
  intro W base args ds gs before hval hW hcnd _
  exact law_step (b := 4) (base := base) (x := triSameC) triSame_laid (by kernel_rfl) (by kernel_rfl) rfl rfl Try.underlying4 (fun l hl => by
    have hl' : l.length = 2 := hl
    match l, hl' with
    | [_, _], _ => exact ⟨rfl, rfl, rfl⟩) triSameC_holds triSame_out hval hW

theorem triSame_holds : Rows.TriSameSaid :=
  OpenClaim.holds_of_wide 16 Try.f16 rfl rfl rfl rfl rfl rfl rfl ⟨rfl, rfl, rfl, rfl, rfl⟩ rfl rfl rfl rfl rfl (by kernel_rfl) Try.func16 (by kernel_rfl)
    (of_decide_eq_true (by kernel_rfl)) (by unfold Func.isWrapper; first | (rw [if_pos (by decide +kernel)]; kernel_rfl) | (rw [if_neg (by decide +kernel)]; exact ⟨rfl, rfl⟩))
    (fun os started H enc _ => triSame_lifted os started H enc)
end Go.Proofs.Yteneneadfpkahaa
