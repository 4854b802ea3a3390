/- The law LinksArea: for every input its call returns true, and the arguments read behind it as before. No conditions. -/
import Derived.Test.YteneneadfpkahaaRows
import Derived.Test.YteneneadfpkahaaSxLaw
import Derived.Test.YteneneadfpkahaaFla
namespace Go.Proofs.Yteneneadfpkahaa
open Go Go.RowKit Go.Sx Go.ChangeShapes Go.WideShapes Go.ChangeAt
set_option maxRecDepth 100000
set_option linter.unusedVariables false

theorem linked_zero (c1 c2 c3 c4 c5 c6 c7 aY aT bY bT bA : Int) : linkedF c1 c2 c3 c4 c5 c6 c7 aY aT 0 bY bT bA = false := by
  rw [linkedF_eq]
  simp
theorem linked_comm (c1 c2 c3 c4 c5 c6 c7 aY aT aA bY bT bA : Int) : linkedF c1 c2 c3 c4 c5 c6 c7 aY aT aA bY bT bA = linkedF c1 c2 c3 c4 c5 c6 c7 bY bT bA aY aT aA := by
  rw [linkedF_eq, linkedF_eq, Int.max_comm (w64 (bY - aY)), Int.min_comm bT aT, Int.max_comm bY aY]
  generalize (decide (aY < -1099511627776) || decide (1099511627776 < aY)) = p
  generalize (decide (aT < -1099511627776) || decide (1099511627776 < aT)) = q
  generalize (decide (bY < -1099511627776) || decide (1099511627776 < bY)) = r
  generalize (decide (bT < -1099511627776) || decide (1099511627776 < bT)) = s
  generalize decide (0 < aA) = t
  generalize decide (0 < bA) = u
  cases p <;> cases q <;> cases r <;> cases s <;> cases t <;> cases u <;> simp
theorem linked_area (c1 c2 c3 c4 c5 c6 c7 aY aT aA bY bT bA area : Int) (h1 : 1 ≤ aA) (h2 : 1 ≤ area) : linkedF c1 c2 c3 c4 c5 c6 c7 aY aT area bY bT bA = linkedF c1 c2 c3 c4 c5 c6 c7 aY aT aA bY bT bA := by
  have e1 : decide (0 < aA) = true := by simp; omega
  have e2 : decide (0 < area) = true := by simp; omega
  rw [linkedF_eq, linkedF_eq, e1, e2]
theorem wakes13_true : wakes13F = true := by kernel_rfl
theorem linksArea_true (c1 c2 c3 c4 c5 c6 c7 aY aT aA bY bT bA area : Int) (_h : (-9223372036854775808 ≤ c1 ∧ c1 ≤ 9223372036854775807) ∧ (-9223372036854775808 ≤ c2 ∧ c2 ≤ 9223372036854775807) ∧ (-9223372036854775808 ≤ c3 ∧ c3 ≤ 9223372036854775807) ∧ (-9223372036854775808 ≤ c4 ∧ c4 ≤ 9223372036854775807) ∧ (-9223372036854775808 ≤ c5 ∧ c5 ≤ 9223372036854775807) ∧ (-9223372036854775808 ≤ c6 ∧ c6 ≤ 9223372036854775807) ∧ (-9223372036854775808 ≤ c7 ∧ c7 ≤ 9223372036854775807) ∧ (-9223372036854775808 ≤ aY ∧ aY ≤ 9223372036854775807) ∧ (-9223372036854775808 ≤ aT ∧ aT ≤ 9223372036854775807) ∧ (-9223372036854775808 ≤ aA ∧ aA ≤ 9223372036854775807) ∧ (-9223372036854775808 ≤ bY ∧ bY ≤ 9223372036854775807) ∧ (-9223372036854775808 ≤ bT ∧ bT ≤ 9223372036854775807) ∧ (-9223372036854775808 ≤ bA ∧ bA ≤ 9223372036854775807) ∧ (-9223372036854775808 ≤ area ∧ area ≤ 9223372036854775807) ∧ True) :
    linksAreaF c1 c2 c3 c4 c5 c6 c7 aY aT aA bY bT bA area = true := by
  rw [linksAreaF_eq, linked_zero, linked_comm c1 c2 c3 c4 c5 c6 c7 bY bT bA aY aT 0, linked_zero, linked_comm c1 c2 c3 c4 c5 c6 c7 bY bT bA aY aT aA, wakes13_true]
  by_cases h1 : aA < 1
  · simp [h1]
  · by_cases h2 : area < 1
    · simp [h2]
    · rw [linked_area c1 c2 c3 c4 c5 c6 c7 aY aT aA bY bT bA area (by omega) (by omega)]
      simp

theorem linksArea_out (cs : List Value) (h : typed (linksAreaC.params.flatMap (·.2)) cs) (hb : bounded cs) : linksAreaC.out cs = .bool true := by
  obtain ⟨x0, _, rfl, x1, _, rfl, x2, _, rfl, x3, _, rfl, x4, _, rfl, x5, _, rfl, x6, _, rfl, x7, _, rfl, x8, _, rfl, x9, _, rfl, x10, _, rfl, x11, _, rfl, x12, _, rfl, x13, _, rfl, rfl⟩ := h
  have hbd : (-9223372036854775808 ≤ x0 ∧ x0 ≤ 9223372036854775807) ∧ (-9223372036854775808 ≤ x1 ∧ x1 ≤ 9223372036854775807) ∧ (-9223372036854775808 ≤ x2 ∧ x2 ≤ 9223372036854775807) ∧ (-9223372036854775808 ≤ x3 ∧ x3 ≤ 9223372036854775807) ∧ (-9223372036854775808 ≤ x4 ∧ x4 ≤ 9223372036854775807) ∧ (-9223372036854775808 ≤ x5 ∧ x5 ≤ 9223372036854775807) ∧ (-9223372036854775808 ≤ x6 ∧ x6 ≤ 9223372036854775807) ∧ (-9223372036854775808 ≤ x7 ∧ x7 ≤ 9223372036854775807) ∧ (-9223372036854775808 ≤ x8 ∧ x8 ≤ 9223372036854775807) ∧ (-9223372036854775808 ≤ x9 ∧ x9 ≤ 9223372036854775807) ∧ (-9223372036854775808 ≤ x10 ∧ x10 ≤ 9223372036854775807) ∧ (-9223372036854775808 ≤ x11 ∧ x11 ≤ 9223372036854775807) ∧ (-9223372036854775808 ≤ x12 ∧ x12 ≤ 9223372036854775807) ∧ (-9223372036854775808 ≤ x13 ∧ x13 ≤ 9223372036854775807) ∧ True := ⟨hb _ (by simp) x0 rfl, hb _ (by simp) x1 rfl, hb _ (by simp) x2 rfl, hb _ (by simp) x3 rfl, hb _ (by simp) x4 rfl, hb _ (by simp) x5 rfl, hb _ (by simp) x6 rfl, hb _ (by simp) x7 rfl, hb _ (by simp) x8 rfl, hb _ (by simp) x9 rfl, hb _ (by simp) x10 rfl, hb _ (by simp) x11 rfl, hb _ (by simp) x12 rfl, hb _ (by simp) x13 rfl, trivial⟩
  show Value.bool (linksAreaF x0 x1 x2 x3 x4 x5 x6 x7 x8 x9 x10 x11 x12 x13) = .bool true
  rw [linksArea_true x0 x1 x2 x3 x4 x5 x6 x7 x8 x9 x10 x11 x12 x13 hbd]

theorem linksArea_own : ownKnob Try.prog.godebug = none := by kernel_rfl
theorem linksArea_laid : laidOutB Try.prog = true := by kernel_rfl
theorem linksArea_lifted (os : Os) (started : os.Started) (H : Type) (enc : TypeId × Value → H) :
    ReturnsInHanded {} Try.checked os 3 .any (Rows.linksAreaSpec.pre6 enc Try.prog Try.f3 Rows.linksAreaRow.domain false) (Rows.linksAreaSpec.post enc Try.prog Try.f3 false true false false) := by
  refine returnsInHanded_of_change (C := Try.checked) linksArea_own started (by kernel_rfl) Try.func3
    (ChangeSpec.witness6 (enc := enc) (C := Try.checked) false ⟨#[], #[.agg #[.int .i64 0, .int .i64 0, .int .i64 0, .int .i64 0, .int .i64 0, .int .i64 0, .int .i64 0], .agg #[.int .i64 0, .int .i64 0, .int .i64 0], .agg #[.int .i64 0, .int .i64 0, .int .i64 0], .int .i64 0], []⟩ 8 (by kernel_rfl) (by kernel_rfl) (by kernel_rfl) (by kernel_rfl)) ?_
  intro W base args ds gs before hval hW hcnd _
  exact law_step (b := 4) (base := base) (x := linksAreaC) linksArea_laid (by kernel_rfl) (by kernel_rfl) rfl rfl Try.underlying4 (fun l hl => by
    have hl' : l.length = 4 := hl
    match l, hl' with
    | [_, _, _, _], _ => exact ⟨rfl, rfl, rfl⟩) linksAreaC_holds linksArea_out hval hW

theorem linksArea_holds : Rows.LinksAreaSaid :=
  OpenClaim.holds_of_wide 3 Try.f3 rfl rfl rfl rfl rfl rfl rfl ⟨rfl, rfl, rfl, rfl, rfl⟩ rfl rfl rfl rfl rfl (by kernel_rfl) Try.func3 (by kernel_rfl)
    (of_decide_eq_true (by kernel_rfl)) (by unfold Func.isWrapper; first | (rw [if_pos (by decide +kernel)]; kernel_rfl) | (rw [if_neg (by decide +kernel)]; exact ⟨rfl, rfl⟩))
    (fun os started H enc _ => linksArea_lifted os started H enc)
end Go.Proofs.Yteneneadfpkahaa
