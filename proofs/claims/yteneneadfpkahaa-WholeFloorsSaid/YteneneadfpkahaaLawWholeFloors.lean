/- The law WholeFloors: for every input its call returns true, and the arguments read behind it as before. No conditions. -/
import Derived.Test.YteneneadfpkahaaRows
import Derived.Test.YteneneadfpkahaaSxLaw
import Derived.Test.YteneneadfpkahaaWfL
namespace Go.Proofs.Yteneneadfpkahaa
open Go Go.RowKit Go.Sx Go.ChangeShapes Go.WideShapes Go.ChangeAt
set_option maxRecDepth 100000
set_option linter.unusedVariables false



theorem wholeFloors_out (cs : List Value) (h : typed (wholeFloorsC.params.flatMap (·.2)) cs) (hb : bounded cs) : wholeFloorsC.out cs = .bool true := by
  obtain ⟨x0, _, rfl, x1, _, rfl, rfl⟩ := h
  have hbd : (-9223372036854775808 ≤ x0 ∧ x0 ≤ 9223372036854775807) ∧ (-9223372036854775808 ≤ x1 ∧ x1 ≤ 9223372036854775807) ∧ True := ⟨hb _ (by simp) x0 rfl, hb _ (by simp) x1 rfl, trivial⟩
  show Value.bool (wholeFloorsF x0 x1) = .bool true
  rw [wholeFloors_true x0 x1]

theorem wholeFloors_own : ownKnob Try.prog.godebug = none := by kernel_rfl
theorem wholeFloors_laid : laidOutB Try.prog = true := by kernel_rfl
theorem wholeFloors_lifted (os : Os) (started : os.Started) (H : Type) (enc : TypeId × Value → H) :
    ReturnsInHanded {} Try.checked os 8 .any (Rows.wholeFloorsSpec.pre6 enc Try.prog Try.f8 Rows.wholeFloorsRow.domain false) (Rows.wholeFloorsSpec.post enc Try.prog Try.f8 false true false false) := by
  refine returnsInHanded_of_change (C := Try.checked) wholeFloors_own started (by kernel_rfl) Try.func8
    (ChangeSpec.witness6 (enc := enc) (C := Try.checked) false ⟨#[], #[.int .i64 0, .int .i64 0], []⟩ 8 (by kernel_rfl) (by kernel_rfl) (by kernel_rfl) (by kernel_rfl)) ?_
  intro W base args ds gs before hval hW hcnd _
  exact law_step (b := 4) (base := base) (x := wholeFloorsC) wholeFloors_laid (by kernel_rfl) (by kernel_rfl) rfl rfl Try.underlying4 (fun l hl => by
    have hl' : l.length = 2 := hl
    match l, hl' with
    | [_, _], _ => exact ⟨rfl, rfl, rfl⟩) wholeFloorsC_holds wholeFloors_out hval hW

theorem wholeFloors_holds : Rows.WholeFloorsSaid :=
  OpenClaim.holds_of_wide 8 Try.f8 rfl rfl rfl rfl rfl rfl rfl ⟨rfl, rfl, rfl, rfl, rfl⟩ rfl rfl rfl rfl rfl (by kernel_rfl) Try.func8 (by kernel_rfl)
    (of_decide_eq_true (by kernel_rfl)) (by unfold Func.isWrapper; first | (rw [if_pos (by decide +kernel)]; kernel_rfl) | (rw [if_neg (by decide +kernel)]; exact ⟨rfl, rfl⟩))
    (fun os started H enc _ => wholeFloors_lifted os started H enc)
end Go.Proofs.Yteneneadfpkahaa
