/- The law BinsOf: for every input its call returns true, and the arguments read behind it as before. No conditions. -/
import Derived.Test.YteneneadfpkahaaRows
import Derived.Test.YteneneadfpkahaaSxLaw2
import Derived.Test.YteneneadfpkahaaBf
namespace Go.Proofs.Yteneneadfpkahaa
open Go Go.RowKit Go.Sx Go.ChangeShapes Go.WideShapes Go.ChangeAt
set_option maxRecDepth 100000
set_option linter.unusedVariables false

theorem binsOf_own : ownKnob Try.prog.godebug = none := by kernel_rfl
theorem binsOf_laid : laidOutB Try.prog = true := by kernel_rfl
theorem binsOf_lifted (os : Os) (started : os.Started) (H : Type) (enc : TypeId × Value → H) :
    ReturnsInHanded {} Try.checked os 19 .any (Rows.binsOfSpec.pre6 enc Try.prog Try.f19 Rows.binsOfRow.domain false) (Rows.binsOfSpec.post enc Try.prog Try.f19 false true false false) := by
  refine returnsInHanded_of_change (C := Try.checked) binsOf_own started (by kernel_rfl) Try.func19
    (ChangeSpec.witness6 (enc := enc) (C := Try.checked) false ⟨#[], #[.agg #[.int .i64 0, .int .i64 0, .int .i64 0, .int .i64 0, .int .i64 0, .int .i64 0, .int .i64 0], .agg #[.int .i64 0, .int .i64 0, .int .i64 0, .int .i64 0, .int .i64 0, .int .i64 0, .int .i64 0, .int .i64 0, .int .i64 0, .int .i64 0], .agg #[.int .i64 0, .int .i64 0, .int .i64 0, .int .i64 0, .int .i64 0, .int .i64 0, .int .i64 0, .int .i64 0]], []⟩ 8 (by kernel_rfl) (by kernel_rfl) (by kernel_rfl) (by kernel_rfl)) ?_
  intro W base args ds gs before hval hW hcnd _
  have hW0 := hW
  have hlt : ∀ p ∈ before, p.block < W.heap.size := fun p hp => hW.lt p hp
  obtain ⟨p, q, hA, hV, hbe, _, _⟩ := hW0
  have hA0 : DataW.TrodAll enc Try.prog W 0 (fun _ => true) true [23, 60, 81] args.toList ds p := hA
  have hlt : ∀ x ∈ p, x.block < W.heap.size := fun x hx => hlt x (by rw [hbe]; exact List.mem_append_left _ hx)
  obtain ⟨v0, vs0, d0, ds0, p0, q0, e0, _, t0, hA1, u0⟩ := Sx.trodAll_cons hA0
  obtain ⟨v1, vs1, d1, ds1, p1, q1, e1, _, t1, hA2, u1⟩ := Sx.trodAll_cons hA1
  obtain ⟨v2, vs2, d2, ds2, p2, q2, e2, _, t2, hA3, u2⟩ := Sx.trodAll_cons hA2
  have en := Sx.trodAll_nil hA3
  obtain rfl : args = #[v0, v1, v2] := Array.toList_inj.1 (by rw [e0, e1, e2, en])
  obtain ⟨c0, rfl, ⟨x0, _, rfl, x1, _, rfl, x2, _, rfl, x3, _, rfl, x4, _, rfl, x5, _, rfl, x6, _, rfl, rfl⟩, b0⟩ := flat_arg (us := [.i, .i, .i, .i, .i, .i, .i]) (by kernel_rfl) (by kernel_rfl) (hval 0 23 v0 rfl rfl) t0
  obtain ⟨c1, rfl, ⟨x7, _, rfl, x8, _, rfl, x9, _, rfl, x10, _, rfl, x11, _, rfl, x12, _, rfl, x13, _, rfl, x14, _, rfl, x15, _, rfl, x16, _, rfl, rfl⟩, b1⟩ := flat_arg (us := [.i, .i, .i, .i, .i, .i, .i, .i, .i, .i]) (by kernel_rfl) (by kernel_rfl) (hval 1 60 v1 rfl rfl) t1
  obtain ⟨c2, rfl, ⟨x17, _, rfl, x18, _, rfl, x19, _, rfl, x20, _, rfl, x21, _, rfl, x22, _, rfl, x23, _, rfl, x24, _, rfl, rfl⟩, b2⟩ := flat_arg (us := [.i, .i, .i, .i, .i, .i, .i, .i]) (by kernel_rfl) (by kernel_rfl) (hval 2 81 v2 rfl rfl) t2
  exact law_step_calls (b := 4) binsOf_laid (by kernel_rfl) rfl rfl Try.underlying4 (fun l hl => by
    have hl' : l.length = 3 := hl
    match l, hl' with
    | [_, _, _], _ => exact ⟨rfl, rfl, rfl⟩) hW (binsOf_calls x0 x1 x2 x3 x4 x5 x6 x7 x8 x9 x10 x11 x12 x13 x14 x15 x16 x17 x18 x19 x20 x21 x22 x23 x24 W)

theorem binsOf_holds : Rows.BinsOfSaid :=
  OpenClaim.holds_of_wide 19 Try.f19 rfl rfl rfl rfl rfl rfl rfl ⟨rfl, rfl, rfl, rfl, rfl⟩ rfl rfl rfl rfl rfl (by kernel_rfl) Try.func19 (by kernel_rfl)
    (of_decide_eq_true (by kernel_rfl)) (by unfold Func.isWrapper; first | (rw [if_pos (by decide +kernel)]; kernel_rfl) | (rw [if_neg (by decide +kernel)]; exact ⟨rfl, rfl⟩))
    (fun os started H enc _ => binsOf_lifted os started H enc)
end Go.Proofs.Yteneneadfpkahaa
