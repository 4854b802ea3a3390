/- slices.Clone of floors by a walk. No conditions but that they lie where they are said to lie. -/
import Derived.Test.YtbjbiimkhpfieaaAi
import Derived.Maps.AppendAt
namespace Go.Proofs.Ytbjbiimkhpfieaa
open Go Go.RowKit Go.Sx
theorem info39 : (Try.prog.info? 39).map (fun i => (i.zero, i.size, i.bytes)) = some (some (.agg #[.int .i64 0, .int .i64 0, .int .i64 0]), 3, 24) := by kernel_rfl
set_option maxHeartbeats 2000000 in
set_option maxRecDepth 100000 in
theorem clone_any (r : List V3) (A : Option Addr) (cap : Nat) (w : World) (hr : Reads w w.heap.size 3 A r.length (vcs r)) (hl : r.length ≤ 8) :
    Calls Try.prog 46 #[.slice A r.length cap] w fun en w' => ∃ v, en = .returned v ∧ w'.ownsRow w.heap.size 39 3 v r.length (vcs r) ∧ Below w.heap.size w w' := by
  obtain ⟨i0, hi, hz0, hz1, hz2⟩ := info_parts info39
  have hmx : maxLen = 9223372036854775807 := rfl
  have hn1 : ∀ (n c : Nat) (w : World), (binOp BinOp.eql 36 (Value.slice none n c) (Value.slice none 0 0)).run Try.prog w = .ok (.bool true) w := fun _ _ _ => by kernel_rfl
  have hn2 : ∀ (ad : Addr) (n c : Nat) (w : World), (binOp BinOp.eql 36 (Value.slice (some ad) n c) (Value.slice none 0 0)).run Try.prog w = .ok (.bool false) w := fun _ _ _ _ => by kernel_rfl
  go_enter Try.func46, Try.ntmps46
  cases A with
  | none =>
    have h0 : r = [] := by
      cases r with
      | nil => rfl
      | cons a l => obtain ⟨ad, h, _⟩ := hr.2 (by simp); cases h
    subst h0
    go_wp2
    go_ret
    exact ⟨_, rfl, World.ownsRow_nil _ _ _ _, Below.refl _ _⟩
  | some ad =>
    have hcell : ∀ j u, (vcs r)[j]? = some u → (w.alloc (.cells #[] 39)).cell? (ad.add j) = some u := fun j u hj => by
      by_cases h0 : 0 < r.length
      · obtain ⟨ad', e, hb, hc⟩ := hr.2 h0
        injection e with e
        subst e
        rw [World.cell?_alloc_lt w _ _ (by rw [block_of_add]; exact hb)]
        exact hc j u hj
      · have : r = [] := List.eq_nil_of_length_eq_zero (by omega)
        subst this
        simp [vcs] at hj
    have hown : (w.alloc (.cells #[] 39)).ownsRow w.heap.size 39 3 (.slice (some ⟨w.heap.size, 0, none⟩) 0 0) 0 [] := ⟨rfl, .inr ⟨w.heap.size, 0, #[], rfl, Nat.le_refl _, World.alloc_heap_new _ _, Nat.le_refl _, by omega, rfl, rfl⟩⟩
    have hone : ∀ u ∈ vcs r, u.oneCell' = true := fun u hu => by
      obtain ⟨v, _, h⟩ := List.mem_flatMap.1 hu
      simp only [V3.cs, List.mem_cons, List.not_mem_nil, or_false] at h
      rcases h with rfl | rfl | rfl <;> rfl
    have hlen := vcs_length r
    go_wp2_with (at_builtin; refine wpList_append_own_at _ rfl _ _ 36 rfl w.heap.size 39 i0 (.agg #[.int .i64 0, .int .i64 0, .int .i64 0]) 3 24 Try.underlying36 hi hz0 hz1 hz2 rfl (by decide) (.slice (some ⟨w.heap.size, 0, none⟩) 0 0) 0 [] rfl hown ad r.length cap (vcs r) rfl hlen hcell hone (by omega) (by omega) (by simp) ?_; intro v' w2 hown' hgrow _ _)
    go_ret
    rw [Nat.zero_add, List.nil_append] at hown'
    refine ⟨v', rfl, hown', ?_⟩
    refine ((Below.refl w.heap.size w).alloc (Nat.le_refl _) (.cells #[] 39)).grown hgrow (by simp) (fun j e => ?_)
    obtain rfl : w.heap.size = j := by simpa [Value.ownBlock] using e
    exact Nat.le_refl _
end Go.Proofs.Ytbjbiimkhpfieaa
