/- The law SoupBack: for every input its call returns true, and the arguments read behind it as before. No conditions. -/
import Derived.Test.YtpbpbijjkmjjjaaRows
import Derived.Test.YtpbpbijjkmjjjaaVc
import Derived.Test.YtpbpbijjkmjjjaaVk
namespace Go.Proofs.Ytpbpbijjkmjjjaa
open Go Go.RowKit Go.Sx Go.ChangeShapes Go.WideShapes Go.ChangeAt
set_option maxRecDepth 100000
set_option linter.unusedVariables false

theorem soupBack_own : ownKnob Try.prog.godebug = none := by kernel_rfl
theorem soupBack_laid : laidOutB Try.prog = true := by kernel_rfl
theorem soupBack_lifted (os : Os) (started : os.Started) (H : Type) (enc : TypeId × Value → H) :
    ReturnsInHanded {} Try.checked os 4 .any (Rows.soupBackSpec.pre6 enc Try.prog Try.f4 Rows.soupBackRow.domain false) (Rows.soupBackSpec.post enc Try.prog Try.f4 false true false false) := by
  refine returnsInHanded_of_change (C := Try.checked) soupBack_own started (by kernel_rfl) Try.func4
    (ChangeSpec.witness6 (enc := enc) (C := Try.checked) false ⟨#[], #[.agg #[.int .i64 0, .int .i64 0, .int .i64 0, .int .i64 0, .int .i64 0, .int .i64 0, .int .i64 0], .agg #[.slice none 0 0, .slice none 0 0, .slice none 0 0], .agg #[.int .i64 0, .int .i64 0, .int .i64 0, .int .i64 0, .int .i64 0, .int .i64 0, .int .i64 0, .int .i64 0, .int .i64 0, .int .i64 0], .agg #[.int .i64 0, .int .i64 0, .int .i64 0, .int .i64 0, .int .i64 0, .int .i64 0, .int .i64 0, .int .i64 0, .int .i64 0, .int .i64 0]], []⟩ 8 (by kernel_rfl) (by kernel_rfl) (by kernel_rfl) (by kernel_rfl)) ?_
  intro W base args ds gs before hval hW hcnd _
  have hW0 := hW
  have hlt : ∀ p ∈ before, p.block < W.heap.size := fun p hp => hW.lt p hp
  obtain ⟨p, q, hA, hV, hbe, _, _⟩ := hW0
  have hA0 : DataW.TrodAll enc Try.prog W 0 (fun _ => true) true [23, 28, 33, 33] args.toList ds p := hA
  have hlt : ∀ x ∈ p, x.block < W.heap.size := fun x hx => hlt x (by rw [hbe]; exact List.mem_append_left _ hx)
  obtain ⟨v0, vs0, d0, ds0, p0, q0, e0, _, t0, hA1, u0⟩ := Sx.trodAll_cons hA0
  obtain ⟨v1, vs1, d1, ds1, p1, q1, e1, _, t1, hA2, u1⟩ := Sx.trodAll_cons hA1
  obtain ⟨v2, vs2, d2, ds2, p2, q2, e2, _, t2, hA3, u2⟩ := Sx.trodAll_cons hA2
  obtain ⟨v3, vs3, d3, ds3, p3, q3, e3, _, t3, hA4, u3⟩ := Sx.trodAll_cons hA3
  have en := Sx.trodAll_nil hA4
  obtain rfl : args = #[v0, v1, v2, v3] := Array.toList_inj.1 (by rw [e0, e1, e2, e3, en])
  obtain ⟨_, rfl, ⟨c0_0, _, rfl, c0_1, _, rfl, c0_2, _, rfl, c0_3, _, rfl, c0_4, _, rfl, c0_5, _, rfl, c0_6, _, rfl, rfl⟩, b0⟩ := flat_arg (us := [.i, .i, .i, .i, .i, .i, .i]) (by kernel_rfl) (by kernel_rfl) (hval 0 23 v0 rfl rfl) t0
  obtain ⟨A1, A2, A3, cc1, cc2, cc3, so, rfl, hso⟩ := soup_arg (s0 := 24) (s1 := 25) (s2 := 26) (e0 := 33) (e1 := 64) (e2 := 78) Try.underlying28 ⟨rfl, rfl⟩ ⟨rfl, rfl⟩ ⟨rfl, rfl⟩ (by kernel_rfl) (by kernel_rfl) (by kernel_rfl) (by kernel_rfl) Try.underlying24 Try.underlying25 Try.underlying26 (by kernel_rfl) (by kernel_rfl) (by kernel_rfl) (by kernel_rfl) (by kernel_rfl) (by kernel_rfl) (hval 1 28 v1 rfl rfl) (fun x hx => hlt _ (by rw [u0, u1]; simp [hx])) t1
  obtain ⟨_, rfl, ⟨t2_0, _, rfl, t2_1, _, rfl, t2_2, _, rfl, t2_3, _, rfl, t2_4, _, rfl, t2_5, _, rfl, t2_6, _, rfl, t2_7, _, rfl, t2_8, _, rfl, t2_9, _, rfl, rfl⟩, b2⟩ := flat_arg (us := [.i, .i, .i, .i, .i, .i, .i, .i, .i, .i]) (by kernel_rfl) (by kernel_rfl) (hval 2 33 v2 rfl rfl) t2
  obtain ⟨_, rfl, ⟨t3_0, _, rfl, t3_1, _, rfl, t3_2, _, rfl, t3_3, _, rfl, t3_4, _, rfl, t3_5, _, rfl, t3_6, _, rfl, t3_7, _, rfl, t3_8, _, rfl, t3_9, _, rfl, rfl⟩, b3⟩ := flat_arg (us := [.i, .i, .i, .i, .i, .i, .i, .i, .i, .i]) (by kernel_rfl) (by kernel_rfl) (hval 3 33 v3 rfl rfl) t3
  exact law_step_calls (b := 4) soupBack_laid (by kernel_rfl) rfl rfl Try.underlying4 (fun l hl => by
    have hl' : l.length = 4 := hl
    match l, hl' with
    | [_, _, _, _], _ => exact ⟨rfl, rfl, rfl⟩) hW (soupBack_calls c0_0 c0_1 c0_2 c0_3 c0_4 c0_5 c0_6 so ⟨t2_0, t2_1, t2_2, t2_3, t2_4, t2_5, t2_6, t2_7, t2_8, t2_9⟩ ⟨t3_0, t3_1, t3_2, t3_3, t3_4, t3_5, t3_6, t3_7, t3_8, t3_9⟩ A1 A2 A3 cc1 cc2 cc3 W hso)

theorem soupBack_holds : Rows.SoupBackSaid :=
  OpenClaim.holds_of_wide 4 Try.f4 rfl rfl rfl rfl rfl rfl rfl ⟨rfl, rfl, rfl, rfl, rfl⟩ rfl rfl rfl rfl rfl (by kernel_rfl) Try.func4 (by kernel_rfl)
    (of_decide_eq_true (by kernel_rfl)) (by unfold Func.isWrapper; first | (rw [if_pos (by decide +kernel)]; kernel_rfl) | (rw [if_neg (by decide +kernel)]; exact ⟨rfl, rfl⟩))
    (fun os started H enc _ => soupBack_lifted os started H enc)
end Go.Proofs.Ytpbpbijjkmjjjaa
