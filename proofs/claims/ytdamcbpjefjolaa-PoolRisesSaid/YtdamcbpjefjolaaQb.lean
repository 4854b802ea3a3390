/- PoolRises's call tells true, whatever slices came in. No conditions but that they lie where they are said to lie. -/
import Derived.Test.YtdamcbpjefjolaaPy
import Derived.Test.YtdamcbpjefjolaaQa
namespace Go.Proofs.Ytdamcbpjefjolaa
open Go Go.RowKit Go.Sx
theorem poolRises_calls (v0 v1 : Value) (xs0 xs1 : List Value) (w : World) (h0 : InVal w.heap.size w v0 xs0 [.i, .i, .i]) (_ : xs0.length / 3 ≤ 9223372036854775807) (h1 : InVal w.heap.size w v1 xs1 [.b]) (hb1 : xs1.length / 1 ≤ 9223372036854775807) :
    Calls Try.prog 3 #[v0, v1] w fun en w' => en = .returned (.bool true) ∧ Below w.heap.size w w' := by
  obtain ⟨A0, c0, rfl, r0⟩ := v3s_ok h0
  obtain ⟨A1, c1, bs, rfl, rfl, r1⟩ := b1_ok h1
  refine rises_any (v3s xs0) A0 c0 bs A1 c1 w r0 r1 ?_ wakes26_any
  simpa [bcs1] using hb1
end Go.Proofs.Ytdamcbpjefjolaa
