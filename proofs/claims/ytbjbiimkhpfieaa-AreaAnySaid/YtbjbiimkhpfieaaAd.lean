/- bins.Each: what it tells. No conditions. -/
import Derived.Test.YtbjbiimkhpfieaaAc
namespace Go.Proofs.Ytbjbiimkhpfieaa
open Go Go.RowKit Go.Sx Go.Shelf
attribute [local go_sem] Oper.semAt_some
section
variable (a b c d e f g x0 z0 x1 z1 : Int)
set_option maxHeartbeats 1000000 in
theorem each_any (w : World) : Calls Try.prog 50 #[cfgv a b c d e f g, .int .i64 x0, .int .i64 z0, .int .i64 x1, .int .i64 z1] w fun en w' =>
    en = .returned (.func (.func 52) #[] #[.pointer (some ⟨w.heap.size, 0, none⟩), .pointer (some ⟨w.heap.size + 1, 0, none⟩), .pointer (some ⟨w.heap.size + 2, 0, none⟩), .pointer (some ⟨w.heap.size + 3, 0, none⟩), .pointer (some ⟨w.heap.size + 4, 0, none⟩)]) ∧
    EachAt w.heap.size a b c d e f g x0 z0 x1 z1 w' ∧ Below w.heap.size w w' := by
  unfold cfgv
  go_enter Try.func50, Try.ntmps50
  go_wp2
  go_ret
  refine ⟨rfl, ⟨?_, ?_, ?_, ?_, ?_, by simp⟩, ?_⟩
  · refine (CfgAt.new a b c d e f g w 23).below (N := w.heap.size + 1) ?_ (Nat.lt_succ_self _)
    exact ((((Below.refl _ _).alloc (by simp) _).alloc (by simp) _).alloc (by simp <;> omega) _).alloc (by simp <;> omega) _
  · rw [World.cell?_alloc_past _ _ _ (by simp), World.cell?_alloc_past _ _ _ (by simp), World.cell?_alloc_past _ _ _ (by simp), World.cell?_alloc_at _ _ _ _ (by simp)]; rfl
  · rw [World.cell?_alloc_past _ _ _ (by simp), World.cell?_alloc_past _ _ _ (by simp), World.cell?_alloc_at _ _ _ _ (by simp)]; rfl
  · rw [World.cell?_alloc_past _ _ _ (by simp), World.cell?_alloc_at _ _ _ _ (by simp)]; rfl
  · rw [World.cell?_alloc_at _ _ _ _ (by simp)]; rfl
  · exact (((((Below.refl _ _).alloc (Nat.le_refl _) _).alloc (by simp) _).alloc (by simp <;> omega) _).alloc (by simp <;> omega) _).alloc (by simp <;> omega) _
theorem each_stops (n : Nat) (hn : 1 ≤ n) (B : Nat) (T : Int → Bool) (hT : T = fun i => touchF a b c d e f g i x0 z0 x1 z1) (N : Nat) (hN : countF a b c d e f g = N) (hN16 : N ≤ 16) (w : World) (hE : EachAt B a b c d e f g x0 z0 x1 z1 w) :
    SeqStopsK Fence.wide n Try.prog 52 #[.pointer (some ⟨B, 0, none⟩), .pointer (some ⟨B + 1, 0, none⟩), .pointer (some ⟨B + 2, 0, none⟩), .pointer (some ⟨B + 3, 0, none⟩), .pointer (some ⟨B + 4, 0, none⟩)]
      (fun x : Int => #[Value.int .i64 x]) (Keep5 B) (fun ys => ys = hits T N) (fun pre => pre <+: hits T N) (hits T N).length w := fun l J Jx W hW hJ _ hY h0 =>
  each1_in n hn l B a b c d e f g x0 z0 x1 z1 T hT N hN hN16 J Jx hY W hJ (hE.keep (Keep5.below hW hE.lt)) h0
end
end Go.Proofs.Ytbjbiimkhpfieaa
