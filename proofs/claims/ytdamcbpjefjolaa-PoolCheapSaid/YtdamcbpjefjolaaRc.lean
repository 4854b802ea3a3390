/- slices.Sorted(maps.Keys(m)) at a map of ints: the map's keys, in some order. No conditions but that the map lies where it is said to lie. -/
import Derived.Test.YtdamcbpjefjolaaRl
import Derived.Test.YtdamcbpjefjolaaRa
namespace Go.Proofs.Ytdamcbpjefjolaa
open Go Go.RowKit Go.Sx Go.Mp Go.Maps Go.Sort Go.Shelf
theorem sortsL (m : Nat) : AnyZI.SortsIn Try.prog Try.sortedL_ren Fence.wide m :=
  ⟨fun blk off cap ss W hH hblk hsz => callsIn_wide.2 (AnyM.slices_Sort_int Try.sortL blk off cap ss W hH hblk hsz),
   fun p cap W => callsIn_wide.2 (AnyM.slices_Sort_int_none Try.sortL p cap W)⟩
/-- maps.Keys: the map is boxed. -/
theorem keys_any (mb : Option Nat) (W : World) : Calls Try.prog 91 #[.map mb] W fun e w' => e = .returned (.func (.func 104) #[] #[.pointer (some ⟨W.heap.size, 0, none⟩)]) ∧ w' = W.alloc (.cells #[.map mb] 67) :=
  (callsIn_wide (n := 5)).1 (AnyZI.keys_in Try.keysL Fence.wide 5 trivial rfl mb W)
set_option maxHeartbeats 1000000 in
/-- slices.Sorted of it. -/
theorem sorted_any {bm : Nat} {m : List (Int × Value)} {w : World} (h : MapAt iv w bm m) (hw : ∀ p ∈ m, (Lit.int .i64 p.1).wf = true) (hl : m.length < 1000000) :
    Calls Try.prog 90 #[.func (.func 104) #[] #[.pointer (some ⟨w.heap.size, 0, none⟩)]] (w.alloc (.cells #[.map (some bm)] 67)) fun e w' => ∃ (v : Value) (ss : List Int), e = .returned v ∧ ss.Perm (m.map (·.1)) ∧
      w'.ownsRow (w.heap.size + 1) 3 1 v ss.length (ss.map (Value.int .i64)) ∧ Below (w.heap.size + 1) (w.alloc (.cells #[.map (some bm)] 67)) w' := by
  have hmx : maxLen = 9223372036854775807 := rfl
  obtain ⟨D0, hown, hp, hsz⟩ := h.owns (P := Try.prog) (k := 3) Try.underlying3 hw (by omega)
  have hbl := hown.lt
  have hseq : SeqGives Fence.wide 2 Try.prog 104 #[.pointer (some ⟨w.heap.size, 0, none⟩)] encZ (fun ss => ss.Perm (intKeys D0)) (Maps.size D0) (w.alloc (.cells #[.map (some bm)] 67)) :=
    AnyZI.keys_gives (ρ := Try.keysL_ren) { Try.keysL with } Fence.wide _ trivial rfl (by omega) w.heap.size bm m.length D0 _ (by simp) (by simp) (by
      obtain ⟨es, clock, hb, Ft, hs, hD⟩ := hown
      exact ⟨es, clock, (Below.heap_alloc _ _ bm hbl).trans hb, Ft, hs, hD⟩)
  have cS := AnyZI.sorted_in Try.sortedL Fence.wide 5 trivial trivial trivial trivial rfl (by omega) (sortsL _) (enters_of Try.func103 (by kernel_rfl) rfl) 104 #[.pointer (some ⟨w.heap.size, 0, none⟩)] trivial (enters_of Try.func104 (by kernel_rfl) rfl) _ _ (by omega) (by omega) _ hseq
  refine ((callsIn_wide (n := 5)).1 cS).mono ?_
  rintro e w' ⟨v, ss, rfl, hS, hrow, _, hb⟩
  have hpm := List.mergeSort_perm ss (fun x y => decide (x ≤ y))
  refine ⟨v, ss.mergeSort (fun x y => decide (x ≤ y)), rfl, hpm.trans (hS.trans hp), ?_, by simpa using hb⟩
  have hl' : (ss.mergeSort (fun x y => decide (x ≤ y))).length = ss.length := hpm.length_eq
  rw [hl']
  rw [World.size_alloc] at hrow
  exact hrow
end Go.Proofs.Ytdamcbpjefjolaa
