/- The law GeomTurns: for every input its call returns true, and the arguments read behind it as before. No conditions. -/
import Derived.Test.YteneneadfpkahaaRows
import Derived.Test.YteneneadfpkahaaSxLaw2
import Derived.Test.YteneneadfpkahaaGt
namespace Go.Proofs.Yteneneadfpkahaa
open Go Go.RowKit Go.Sx Go.ChangeShapes Go.WideShapes Go.ChangeAt
set_option maxRecDepth 100000
set_option linter.unusedVariables false

theorem geomTurns_own : ownKnob Try.prog.godebug = none := by kernel_rfl
theorem geomTurns_laid : laidOutB Try.prog = true := by kernel_rfl
theorem geomTurns_lifted (os : Os) (started : os.Started) (H : Type) (enc : TypeId × Value → H) :
    ReturnsInHanded {} Try.checked os 15 .any (Rows.geomTurnsSpec.pre6 enc Try.prog Try.f15 Rows.geomTurnsRow.domain false) (Rows.geomTurnsSpec.post enc Try.prog Try.f15 false true false false) := by
  refine returnsInHanded_of_change (C := Try.checked) geomTurns_own started (by kernel_rfl) Try.func15
    (ChangeSpec.witness6 (enc := enc) (C := Try.checked) false ⟨#[], #[.agg #[.int .i64 0, .int .i64 0], .agg #[.int .i64 0, .int .i64 0], .agg #[.int .i64 0, .int .i64 0], .slice none 0 0], []⟩ 8 (by kernel_rfl) (by kernel_rfl) (by kernel_rfl) (by kernel_rfl)) ?_
  intro W base args ds gs before hval hW hcnd _
  have hW0 := hW
  have hlt : ∀ p ∈ before, p.block < W.heap.size := fun p hp => hW.lt p hp
  obtain ⟨p, q, hA, hV, hbe, _, _⟩ := hW0
  have hA0 : DataW.TrodAll enc Try.prog W 0 (fun _ => true) true [48, 48, 48, 73] args.toList ds p := hA
  have hlt : ∀ x ∈ p, x.block < W.heap.size := fun x hx => hlt x (by rw [hbe]; exact List.mem_append_left _ hx)
  obtain ⟨v0, vs0, d0, ds0, p0, q0, e0, _, t0, hA1, u0⟩ := Sx.trodAll_cons hA0
  obtain ⟨v1, vs1, d1, ds1, p1, q1, e1, _, t1, hA2, u1⟩ := Sx.trodAll_cons hA1
  obtain ⟨v2, vs2, d2, ds2, p2, q2, e2, _, t2, hA3, u2⟩ := Sx.trodAll_cons hA2
  obtain ⟨v3, vs3, d3, ds3, p3, q3, e3, _, t3, hA4, u3⟩ := Sx.trodAll_cons hA3
  have en := Sx.trodAll_nil hA4
  obtain rfl : args = #[v0, v1, v2, v3] := Array.toList_inj.1 (by rw [e0, e1, e2, e3, en])
  obtain ⟨c0, rfl, ⟨x0, _, rfl, x1, _, rfl, rfl⟩, b0⟩ := flat_arg (us := [.i, .i]) (by kernel_rfl) (by kernel_rfl) (hval 0 48 v0 rfl rfl) t0
  obtain ⟨c1, rfl, ⟨x2, _, rfl, x3, _, rfl, rfl⟩, b1⟩ := flat_arg (us := [.i, .i]) (by kernel_rfl) (by kernel_rfl) (hval 1 48 v1 rfl rfl) t1
  obtain ⟨c2, rfl, ⟨x4, _, rfl, x5, _, rfl, rfl⟩, b2⟩ := flat_arg (us := [.i, .i]) (by kernel_rfl) (by kernel_rfl) (hval 2 48 v2 rfl rfl) t2
  obtain ⟨xs3, hin3, hlen3, hbd3⟩ := slice_arg (e := 48) (us := [.i, .i]) (by kernel_rfl) (by kernel_rfl) (by kernel_rfl) (by decide) (hval 3 73 v3 rfl rfl) (fun x hx => hlt _ (by rw [u0, u1, u2, u3]; simp [hx])) t3
  exact law_step_calls (b := 4) geomTurns_laid (by kernel_rfl) rfl rfl Try.underlying4 (fun l hl => by
    have hl' : l.length = 4 := hl
    match l, hl' with
    | [_, _, _, _], _ => exact ⟨rfl, rfl, rfl⟩) hW (geomTurns_calls x0 x1 x2 x3 x4 x5 v3 xs3 W hin3 hlen3)

theorem geomTurns_holds : Rows.GeomTurnsSaid :=
  OpenClaim.holds_of_wide 15 Try.f15 rfl rfl rfl rfl rfl rfl rfl ⟨rfl, rfl, rfl, rfl, rfl⟩ rfl rfl rfl rfl rfl (by kernel_rfl) Try.func15 (by kernel_rfl)
    (of_decide_eq_true (by kernel_rfl)) (by unfold Func.isWrapper; first | (rw [if_pos (by decide +kernel)]; kernel_rfl) | (rw [if_neg (by decide +kernel)]; exact ⟨rfl, rfl⟩))
    (fun os started H enc _ => geomTurns_lifted os started H enc)
end Go.Proofs.Yteneneadfpkahaa
