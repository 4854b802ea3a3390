/- links.Step and links.Linked, as calls. No conditions. -/
import Derived.Test.YtcdfojfafnecdaaMe
namespace Go.Proofs.Ytcdfojfafnecdaa
open Go Go.RowKit Go.Sx
theorem step_any (d : Int) (w : World) : Calls Try.prog 50 #[.int .i64 d] w fun en w' =>
    (match stepD d with
      | some (dx, dz) => en = .returned (.tuple #[.int .i64 dx, .int .i64 dz, .bool true])
      | none => en = .returned (.tuple #[.int .i64 0, .int .i64 0, .bool false])) ∧ Below w.heap.size w w' := by
  refine (stepC_holds [.int .i64 d] ⟨d, _, rfl, rfl⟩ w).mono fun en w' ⟨he, hb⟩ => ⟨?_, hb⟩
  rw [he]
  have ho : stepC.out [.int .i64 d] = .tuple #[.int .i64 (stepF0 d), .int .i64 (stepF1 d), .bool (stepF2 d)] := rfl
  rw [ho]
  unfold stepD
  by_cases h0 : d = 0
  · subst h0; rfl
  by_cases h1 : d = 1
  · subst h1; rfl
  by_cases h2 : d = 2
  · subst h2; rfl
  by_cases h3 : d = 3
  · subst h3; rfl
  rw [if_neg h0, if_neg h1, if_neg h2, if_neg h3]
  have e0 : stepF0 d = 0 := by simp [stepF0, stepI, h0, h2]
  have e1 : stepF1 d = 0 := by simp [stepF1, stepI, h1, h3]
  have e2 : stepF2 d = false := by simp [stepF2, stepB]; omega
  rw [e0, e1, e2]
theorem linked_any (c1 c2 c3 c4 c5 c6 c7 : Int) (a b : V3) (w : World) : Calls Try.prog 21 #[cfgv c1 c2 c3 c4 c5 c6 c7, .agg #[.int .i64 a.x, .int .i64 a.y, .int .i64 a.z], .agg #[.int .i64 b.x, .int .i64 b.y, .int .i64 b.z]] w fun en w' =>
    en = .returned (.bool (lkF c1 c2 c3 c4 c5 c6 c7 a b)) ∧ Below w.heap.size w w' :=
  linkedC_holds [.int .i64 c1, .int .i64 c2, .int .i64 c3, .int .i64 c4, .int .i64 c5, .int .i64 c6, .int .i64 c7, .int .i64 a.x, .int .i64 a.y, .int .i64 a.z, .int .i64 b.x, .int .i64 b.y, .int .i64 b.z]
    ⟨c1, _, rfl, c2, _, rfl, c3, _, rfl, c4, _, rfl, c5, _, rfl, c6, _, rfl, c7, _, rfl, _, _, rfl, _, _, rfl, _, _, rfl, _, _, rfl, _, _, rfl, _, _, rfl, rfl⟩ w
end Go.Proofs.Ytcdfojfafnecdaa
