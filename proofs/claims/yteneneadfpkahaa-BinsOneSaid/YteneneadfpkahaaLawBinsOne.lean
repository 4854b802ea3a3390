/- The law BinsOne: for every input its call returns true, and the arguments read behind it as before. No conditions. -/
import Derived.Test.YteneneadfpkahaaRows
import Derived.Test.YteneneadfpkahaaSxLaw
import Derived.Test.YteneneadfpkahaaBo
namespace Go.Proofs.Yteneneadfpkahaa
open Go Go.RowKit Go.Sx Go.ChangeShapes Go.WideShapes Go.ChangeAt
set_option maxRecDepth 100000
set_option linter.unusedVariables false



theorem binsOne_out (cs : List Value) (h : typed (binsOneC.params.flatMap (·.2)) cs) (hb : bounded cs) : binsOneC.out cs = .bool true := by
  obtain ⟨x0, _, rfl, x1, _, rfl, x2, _, rfl, x3, _, rfl, x4, _, rfl, x5, _, rfl, rfl⟩ := h
  have hbd : (-9223372036854775808 ≤ x0 ∧ x0 ≤ 9223372036854775807) ∧ (-9223372036854775808 ≤ x1 ∧ x1 ≤ 9223372036854775807) ∧ (-9223372036854775808 ≤ x2 ∧ x2 ≤ 9223372036854775807) ∧ (-9223372036854775808 ≤ x3 ∧ x3 ≤ 9223372036854775807) ∧ (-9223372036854775808 ≤ x4 ∧ x4 ≤ 9223372036854775807) ∧ (-9223372036854775808 ≤ x5 ∧ x5 ≤ 9223372036854775807) ∧ True := ⟨hb _ (by simp) x0 rfl, hb _ (by simp) x1 rfl, hb _ (by simp) x2 rfl, hb _ (by simp) x3 rfl, hb _ (by simp) x4 rfl, hb _ (by simp) x5 rfl, trivial⟩
  show Value.bool (binsOneF x0 x1 x2 x3 x4 x5) = .bool true
  rw [binsOne_true x0 x1 x2 x3 x4 x5]

theorem binsOne_own : ownKnob Try.prog.godebug = none := by kernel_rfl
theorem binsOne_laid : laidOutB Try.prog = true := by kernel_rfl
theorem binsOne_lifted (os : Os) (started : os.Started) (H : Type) (enc : TypeId × Value → H) :
    ReturnsInHanded {} Try.checked os 4 .any (Rows.binsOneSpec.pre6 enc Try.prog Try.f4 Rows.binsOneRow.domain false) (Rows.binsOneSpec.post enc Try.prog Try.f4 false true false false) := by
  refine returnsInHanded_of_change (C := Try.checked) binsOne_own started (by kernel_rfl) Try.func4
    (ChangeSpec.witness6 (enc := enc) (C := Try.checked) false ⟨#[], #[.int .i64 0, .int .i64 0, .int .i64 0, .int .i64 0, .int .i64 0, .int .i64 0], []⟩ 8 (by kernel_rfl) (by kernel_rfl) (by kernel_rfl) (by kernel_rfl)) ?_
  intro W base args ds gs before hval hW hcnd _
  exact law_step (b := 4) (base := base) (x := binsOneC) binsOne_laid (by kernel_rfl) (by kernel_rfl) rfl rfl Try.underlying4 (fun l hl => by
    have hl' : l.length = 6 := hl
    match l, hl' with
    | [_, _, _, _, _, _], _ => exact ⟨rfl, rfl, rfl⟩) binsOneC_holds binsOne_out hval hW

theorem binsOne_holds : Rows.BinsOneSaid :=
  OpenClaim.holds_of_wide 4 Try.f4 rfl rfl rfl rfl rfl rfl rfl ⟨rfl, rfl, rfl, rfl, rfl⟩ rfl rfl rfl rfl rfl (by kernel_rfl) Try.func4 (by kernel_rfl)
    (of_decide_eq_true (by kernel_rfl)) (by unfold Func.isWrapper; first | (rw [if_pos (by decide +kernel)]; kernel_rfl) | (rw [if_neg (by decide +kernel)]; exact ⟨rfl, rfl⟩))
    (fun os started H enc _ => binsOne_lifted os started H enc)
end Go.Proofs.Yteneneadfpkahaa
