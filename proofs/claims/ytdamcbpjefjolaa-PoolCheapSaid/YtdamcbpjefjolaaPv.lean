/- pool.New, by a walk. No conditions. -/
import Derived.Test.YtdamcbpjefjolaaPu
namespace Go.Proofs.Ytdamcbpjefjolaa
open Go Go.RowKit Go.Sx Go.Mp
attribute [local go_sem] Oper.semAt_some
set_option maxHeartbeats 1000000 in
set_option maxRecDepth 100000 in
theorem new_any (room : Int) (h1 : 1 ≤ room) (h2 : room ≤ 16384) (w : World) :
    Calls Try.prog 8 #[.int .i64 room] w fun en w' => en = .returned (.tuple #[.pointer (some ⟨w.heap.size + 1, 0, none⟩), .int .i64 0]) ∧
      PoolIn w' w.heap.size (w.heap.size + 1) w.heap.size (.slice none 0 0) room [] [] ∧ Below w.heap.size w w' := by
  have hmm := @run_makeMap Try.prog
  have hr1 : ¬ room < 1 := by omega
  have hr2 : ¬ 16384 < room := by omega
  refine (callsIn_wide (n := 6)).1 ?_
  refine callsIn_of_wp Try.func8 rfl trivial ?_
  simp only [Try.ntmps8, List.size_toArray, List.length_cons, List.length_nil, Nat.reduceAdd, Nat.reduceSub, Array.replicate_succ, Array.replicate_zero, List.push_toArray, List.append_toArray, List.nil_append, List.cons_append]
  gi_wp2
  go_ret2
  refine ⟨rfl, ⟨?_, ?_, by simp, World.ownsRow_nil _ _ _ _, by simp, by simp, by omega, Nat.le_refl _, by simp⟩, ((Below.refl _ _).alloc (Nat.le_refl _) _).alloc (by simp) _⟩
  · exact alloc2_new w _ _
  · exact (MapAt.made w).of_block (two_alloc w _ _ |>.trans (World.alloc_heap_new w _).symm)
end Go.Proofs.Ytdamcbpjefjolaa
