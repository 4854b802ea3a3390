/- PoolCheap's call tells true, whatever slice came in. No conditions but that it lies where it is said to lie. -/
import Derived.Test.YtdamcbpjefjolaaRk
import Derived.Test.YtdamcbpjefjolaaQa
namespace Go.Proofs.Ytdamcbpjefjolaa
open Go Go.RowKit Go.Sx
theorem poolCheap_calls (v0 : Value) (xs0 : List Value) (w : World) (h0 : InVal w.heap.size w v0 xs0 [.i, .i, .i]) (_ : xs0.length / 3 ≤ 9223372036854775807) :
    Calls Try.prog 6 #[v0] w fun en w' => en = .returned (.bool true) ∧ Below w.heap.size w w' := by
  obtain ⟨A0, c0, rfl, r0⟩ := v3s_ok h0
  exact cheap_any (v3s xs0) A0 c0 w r0 wakes26_any
end Go.Proofs.Ytdamcbpjefjolaa
