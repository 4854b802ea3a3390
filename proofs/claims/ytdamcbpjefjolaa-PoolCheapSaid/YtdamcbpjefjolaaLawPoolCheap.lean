/- The law PoolCheap: for every input its call returns true, and the arguments read behind it as before. No conditions. -/
import Derived.Test.YtdamcbpjefjolaaRows
import Derived.Test.YtdamcbpjefjolaaSxLaw2
import Derived.Test.YtdamcbpjefjolaaQc
namespace Go.Proofs.Ytdamcbpjefjolaa
open Go Go.RowKit Go.Sx Go.ChangeShapes Go.WideShapes Go.ChangeAt
set_option maxRecDepth 100000
set_option linter.unusedVariables false

theorem poolCheap_own : ownKnob Try.prog.godebug = none := by kernel_rfl
theorem poolCheap_laid : laidOutB Try.prog = true := by kernel_rfl
theorem poolCheap_lifted (os : Os) (started : os.Started) (H : Type) (enc : TypeId × Value → H) :
    ReturnsInHanded {} Try.checked os 6 .any (Rows.poolCheapSpec.pre6 enc Try.prog Try.f6 Rows.poolCheapRow.domain false) (Rows.poolCheapSpec.post enc Try.prog Try.f6 false true false false) := by
  refine returnsInHanded_of_change (C := Try.checked) poolCheap_own started (by kernel_rfl) Try.func6
    (ChangeSpec.witness6 (enc := enc) (C := Try.checked) false ⟨#[], #[.slice none 0 0], []⟩ 8 (by kernel_rfl) (by kernel_rfl) (by kernel_rfl) (by kernel_rfl)) ?_
  intro W base args ds gs before hval hW hcnd _
  have hW0 := hW
  have hlt : ∀ p ∈ before, p.block < W.heap.size := fun p hp => hW.lt p hp
  obtain ⟨p, q, hA, hV, hbe, _, _⟩ := hW0
  have hA0 : DataW.TrodAll enc Try.prog W 0 (fun _ => true) true [22] args.toList ds p := hA
  have hlt : ∀ x ∈ p, x.block < W.heap.size := fun x hx => hlt x (by rw [hbe]; exact List.mem_append_left _ hx)
  obtain ⟨v0, vs0, d0, ds0, p0, q0, e0, _, t0, hA1, u0⟩ := Sx.trodAll_cons hA0
  have en := Sx.trodAll_nil hA1
  obtain rfl : args = #[v0] := Array.toList_inj.1 (by rw [e0, en])
  obtain ⟨xs0, hin0, hlen0, hbd0⟩ := slice_arg (e := 30) (us := [.i, .i, .i]) (by kernel_rfl) (by kernel_rfl) (by kernel_rfl) (by decide) (hval 0 22 v0 rfl rfl) (fun x hx => hlt _ (by rw [u0]; simp [hx])) t0
  exact law_step_calls (b := 4) poolCheap_laid (by kernel_rfl) rfl rfl Try.underlying4 (fun l hl => by
    have hl' : l.length = 1 := hl
    match l, hl' with
    | [_], _ => exact ⟨rfl, rfl, rfl⟩) hW (poolCheap_calls v0 xs0 W hin0 hlen0)

theorem poolCheap_holds : Rows.PoolCheapSaid :=
  OpenClaim.holds_of_wide 6 Try.f6 rfl rfl rfl rfl rfl rfl rfl ⟨rfl, rfl, rfl, rfl, rfl⟩ rfl rfl rfl rfl rfl (by kernel_rfl) Try.func6 (by kernel_rfl)
    (of_decide_eq_true (by kernel_rfl)) (by unfold Func.isWrapper; first | (rw [if_pos (by decide +kernel)]; kernel_rfl) | (rw [if_neg (by decide +kernel)]; exact ⟨rfl, rfl⟩))
    (fun os started H enc _ => poolCheap_lifted os started H enc)
end Go.Proofs.Ytdamcbpjefjolaa
