/- The law FieldParts: for every input its call returns true, and the arguments read behind it as before. No conditions. -/
import Derived.Test.YtcdfojfafnecdaaRows
import Derived.Test.YtcdfojfafnecdaaSxLaw3
import Derived.Test.YtcdfojfafnecdaaKp
namespace Go.Proofs.Ytcdfojfafnecdaa
open Go Go.RowKit Go.Sx Go.ChangeShapes Go.WideShapes Go.ChangeAt
set_option maxRecDepth 100000
set_option linter.unusedVariables false

theorem fieldParts_own : ownKnob Try.prog.godebug = none := by kernel_rfl
theorem fieldParts_laid : laidOutB Try.prog = true := by kernel_rfl
theorem fieldParts_lifted (os : Os) (started : os.Started) (H : Type) (enc : TypeId × Value → H) :
    ReturnsInHanded {} Try.checked os 5 .any (Rows.fieldPartsSpec.pre6 enc Try.prog Try.f5 Rows.fieldPartsRow.domain false) (Rows.fieldPartsSpec.post enc Try.prog Try.f5 false true false false) := by
  refine returnsInHanded_of_change (C := Try.checked) fieldParts_own started (by kernel_rfl) Try.func5
    (ChangeSpec.witness6 (enc := enc) (C := Try.checked) false ⟨#[], #[.agg #[.int .i64 0, .int .i64 0, .int .i64 0, .int .i64 0, .int .i64 0, .int .i64 0, .int .i64 0], .agg #[.int .i64 0, .int .i64 0, .int .i64 0, .int .i64 0, .slice none 0 0], .int .i64 0, .int .i64 0, .int .i64 0, .int .i64 0], []⟩ 8 (by kernel_rfl) (by kernel_rfl) (by kernel_rfl) (by kernel_rfl)) ?_
  intro W base args ds gs before hval hW hcnd _
  have hW0 := hW
  have hlt : ∀ p ∈ before, p.block < W.heap.size := fun p hp => hW.lt p hp
  obtain ⟨p, q, hA, hV, hbe, _, _⟩ := hW0
  have hA0 : DataW.TrodAll enc Try.prog W 0 (fun _ => true) true [23, 26, 3, 3, 3, 3] args.toList ds p := hA
  have hlt : ∀ x ∈ p, x.block < W.heap.size := fun x hx => hlt x (by rw [hbe]; exact List.mem_append_left _ hx)
  obtain ⟨v0, vs0, d0, ds0, p0, q0, e0, _, t0, hA1, u0⟩ := Sx.trodAll_cons hA0
  obtain ⟨v1, vs1, d1, ds1, p1, q1, e1, _, t1, hA2, u1⟩ := Sx.trodAll_cons hA1
  obtain ⟨v2, vs2, d2, ds2, p2, q2, e2, _, t2, hA3, u2⟩ := Sx.trodAll_cons hA2
  obtain ⟨v3, vs3, d3, ds3, p3, q3, e3, _, t3, hA4, u3⟩ := Sx.trodAll_cons hA3
  obtain ⟨v4, vs4, d4, ds4, p4, q4, e4, _, t4, hA5, u4⟩ := Sx.trodAll_cons hA4
  obtain ⟨v5, vs5, d5, ds5, p5, q5, e5, _, t5, hA6, u5⟩ := Sx.trodAll_cons hA5
  have en := Sx.trodAll_nil hA6
  obtain rfl : args = #[v0, v1, v2, v3, v4, v5] := Array.toList_inj.1 (by rw [e0, e1, e2, e3, e4, e5, en])
  obtain ⟨c0, rfl, ⟨x0, _, rfl, x1, _, rfl, x2, _, rfl, x3, _, rfl, x4, _, rfl, x5, _, rfl, x6, _, rfl, rfl⟩, b0⟩ := flat_arg (us := [.i, .i, .i, .i, .i, .i, .i]) (by kernel_rfl) (by kernel_rfl) (hval 0 23 v0 rfl rfl) t0
  obtain ⟨gX1, gZ1, gW1, gD1, A1, rows1, cap1, rfl, hr1, hl1⟩ := grid_arg (i := 3) (s := 24) (e1 := 40) (e2 := 54) Try.underlying26 ⟨rfl, rfl⟩ ⟨rfl, rfl⟩ ⟨rfl, rfl⟩ ⟨rfl, rfl⟩ ⟨rfl, rfl⟩ (by kernel_rfl) (by kernel_rfl) (by kernel_rfl) (by kernel_rfl) Try.underlying24 (by kernel_rfl) Try.underlying40 (by kernel_rfl) (by kernel_rfl) (hval 1 26 v1 rfl rfl) (fun x hx => hlt _ (by rw [u0, u1]; simp [hx])) t1
  obtain ⟨y2, b2⟩ := flat_one (u := .i) (by kernel_rfl) (by kernel_rfl) (hval 2 3 v2 rfl rfl) t2
  obtain ⟨x7, _, ee2, rfl⟩ := y2
  obtain rfl := (List.cons.inj ee2).1
  obtain ⟨y3, b3⟩ := flat_one (u := .i) (by kernel_rfl) (by kernel_rfl) (hval 3 3 v3 rfl rfl) t3
  obtain ⟨x8, _, ee3, rfl⟩ := y3
  obtain rfl := (List.cons.inj ee3).1
  obtain ⟨y4, b4⟩ := flat_one (u := .i) (by kernel_rfl) (by kernel_rfl) (hval 4 3 v4 rfl rfl) t4
  obtain ⟨x9, _, ee4, rfl⟩ := y4
  obtain rfl := (List.cons.inj ee4).1
  obtain ⟨y5, b5⟩ := flat_one (u := .i) (by kernel_rfl) (by kernel_rfl) (hval 5 3 v5 rfl rfl) t5
  obtain ⟨x10, _, ee5, rfl⟩ := y5
  obtain rfl := (List.cons.inj ee5).1
  exact law_step_calls (b := 4) fieldParts_laid (by kernel_rfl) rfl rfl Try.underlying4 (fun l hl => by
    have hl' : l.length = 6 := hl
    match l, hl' with
    | [_, _, _, _, _, _], _ => exact ⟨rfl, rfl, rfl⟩) hW (fieldParts_calls x0 x1 x2 x3 x4 x5 x6 gX1 gZ1 gW1 gD1 x7 x8 x9 x10 rows1 A1 cap1 W hr1 hl1)

theorem fieldParts_holds : Rows.FieldPartsSaid :=
  OpenClaim.holds_of_wide 5 Try.f5 rfl rfl rfl rfl rfl rfl rfl ⟨rfl, rfl, rfl, rfl, rfl⟩ rfl rfl rfl rfl rfl (by kernel_rfl) Try.func5 (by kernel_rfl)
    (of_decide_eq_true (by kernel_rfl)) (by unfold Func.isWrapper; first | (rw [if_pos (by decide +kernel)]; kernel_rfl) | (rw [if_neg (by decide +kernel)]; exact ⟨rfl, rfl⟩))
    (fun os started H enc _ => fieldParts_lifted os started H enc)
end Go.Proofs.Ytcdfojfafnecdaa
