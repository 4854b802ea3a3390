/- footpathlaw26.wakes, by a walk: it is true. No conditions. -/
import Derived.Test.YtdamcbpjefjolaaPz
namespace Go.Proofs.Ytdamcbpjefjolaa
open Go Go.RowKit Go.Sx Go.Mp
attribute [local go_sem] Oper.semAt_some
theorem two_perm {D h' h : List V3} {y A B : V3} (hp : (D ++ y :: h').Perm h) (hh : h.Perm [A, B]) (hD : D = []) : (y = A ∧ h'.Perm [B]) ∨ (y = B ∧ h'.Perm [A]) := by
  subst hD
  have h1 : (y :: h').Perm [A, B] := hp.trans hh
  have hy : y ∈ [A, B] := h1.mem_iff.1 (by simp)
  simp only [List.mem_cons, List.not_mem_nil, or_false] at hy
  rcases hy with rfl | rfl
  · exact .inl ⟨rfl, h1.cons_inv⟩
  · exact .inr ⟨rfl, (h1.trans (List.Perm.swap _ _ _)).cons_inv⟩
theorem split2 {a b e : En} {E1 E2 : List En} (h : [a, b] = E1 ++ e :: E2) : (E1 = [] ∧ e = a ∧ E2 = [b]) ∨ (E1 = [a] ∧ e = b ∧ E2 = []) := by
  cases E1 with
  | nil => simp at h; exact .inl ⟨rfl, h.1.symm, h.2.symm⟩
  | cons c E1 =>
    cases E1 with
    | nil => simp at h; exact .inr ⟨by rw [h.1], h.2.1.symm, h.2.2⟩
    | cons d E1 => simp at h
theorem take1 {base b bm p5 p6 : Nat} {v : Value} {h : List V3} {w : World} (H : PoolIn w base b bm v 2 [⟨5, p5, ⟨5, 3, -1⟩, false⟩, ⟨6, p6, ⟨6, 3, 5⟩, false⟩] h) (hh : h.Perm [⟨5, 3, -1⟩, ⟨6, 3, 5⟩]) (hp : Heap h) :
    Calls Try.prog 10 #[.pointer (some ⟨b, 0, none⟩)] w fun en w' => en = .returned (.tuple #[.agg #[.int .i64 5, .int .i64 3, .int .i64 (-1)], .int .i64 0]) ∧ ∃ v' h', PoolIn w' base b bm v' 2 [⟨5, p5, ⟨5, 3, -1⟩, true⟩, ⟨6, p6, ⟨6, 3, 5⟩, false⟩] h' ∧ h'.Perm [⟨6, 3, 5⟩] ∧ Heap h' ∧ PFr base v w w' ∧ v'.ownBlock = v.ownBlock := by
  have hl := hh.length_eq
  have vA : Valid [⟨5, p5, ⟨5, 3, -1⟩, false⟩, ⟨6, p6, ⟨6, 3, 5⟩, false⟩] ⟨5, 3, -1⟩ := ⟨⟨5, p5, ⟨5, 3, -1⟩, false⟩, by simp, rfl, rfl, rfl⟩
  have vB : Valid [⟨5, p5, ⟨5, 3, -1⟩, false⟩, ⟨6, p6, ⟨6, 3, 5⟩, false⟩] ⟨6, 3, 5⟩ := ⟨⟨6, p6, ⟨6, 3, 5⟩, false⟩, by simp, rfl, rfl, rfl⟩
  have hall : ∀ y ∈ h, Valid [⟨5, p5, ⟨5, 3, -1⟩, false⟩, ⟨6, p6, ⟨6, 3, 5⟩, false⟩] y := fun y hy => by
    have := hh.mem_iff.1 hy
    simp only [List.mem_cons, List.not_mem_nil, or_false] at this
    rcases this with rfl | rfl
    · exact vA
    · exact vB
  refine (take_any base b bm v 2 _ h w H (by simp at hl; omega) hp (fun y hy => by obtain ⟨e, he, h1, _⟩ := hall y hy; exact ⟨e, he, h1⟩)).mono fun en w' ⟨E', h', v', hT, hP, hF, hv⟩ => ?_
  rcases hT with ⟨_, _, _, hn⟩ | ⟨y, D, E1, e, E2, he, hE, hk, ht, hx, rfl, hpm, hD, hmin, hh'⟩
  · exact absurd vA (hn _ (hh.mem_iff.2 (by simp)))
  · have hD0 : D = [] := List.eq_nil_iff_forall_not_mem.2 fun z hz => hD z hz (hall z (hpm.mem_iff.1 (by simp [hz])))
    rcases two_perm hpm hh hD0 with ⟨rfl, h1⟩ | ⟨rfl, h1⟩
    · rcases split2 hE with ⟨rfl, rfl, rfl⟩ | ⟨rfl, rfl, rfl⟩
      · exact ⟨he, v', h', hP, h1, hh', hF, hv⟩
      · cases hk
    · have := hmin ⟨5, 3, -1⟩ (h1.mem_iff.2 (by simp))
      exact absurd this (by decide)
theorem take2 {base b bm p5 p6 : Nat} {v : Value} {h : List V3} {w : World} (H : PoolIn w base b bm v 2 [⟨5, p5, ⟨5, 3, -1⟩, true⟩, ⟨6, p6, ⟨6, 2, 5⟩, false⟩] h) (hh : h.Perm [⟨6, 3, 5⟩, ⟨6, 2, 5⟩]) (hp : Heap h) :
    Calls Try.prog 10 #[.pointer (some ⟨b, 0, none⟩)] w fun en w' => en = .returned (.tuple #[.agg #[.int .i64 6, .int .i64 2, .int .i64 5], .int .i64 0]) ∧ ∃ v' h', PoolIn w' base b bm v' 2 [⟨5, p5, ⟨5, 3, -1⟩, true⟩, ⟨6, p6, ⟨6, 2, 5⟩, true⟩] h' ∧ PFr base v w w' ∧ v'.ownBlock = v.ownBlock := by
  have hl := hh.length_eq
  have hall : ∀ y ∈ h, ∃ e ∈ [(⟨5, p5, ⟨5, 3, -1⟩, true⟩ : En), ⟨6, p6, ⟨6, 2, 5⟩, false⟩], e.k = y.x := fun y hy => by
    have := hh.mem_iff.1 hy
    simp only [List.mem_cons, List.not_mem_nil, or_false] at this
    rcases this with rfl | rfl <;> exact ⟨⟨6, p6, ⟨6, 2, 5⟩, false⟩, by simp, rfl⟩
  refine (take_any base b bm v 2 _ h w H (by simp at hl; omega) hp hall).mono fun en w' ⟨E', h', v', hT, hP, hF, hv⟩ => ?_
  rcases hT with ⟨_, _, _, hn⟩ | ⟨y, D, E1, e, E2, he, hE, hk, ht, hx, rfl, hpm, hD, hmin, hh'⟩
  · exact absurd ⟨⟨6, p6, ⟨6, 2, 5⟩, false⟩, by simp, rfl, rfl, rfl⟩ (hn ⟨6, 2, 5⟩ (hh.mem_iff.2 (by simp)))
  · rcases split2 hE with ⟨rfl, rfl, rfl⟩ | ⟨rfl, rfl, rfl⟩
    · cases ht
    · simp only at hx
      subst hx
      exact ⟨he, v', h', hP, hF, hv⟩
set_option maxHeartbeats 2000000 in
set_option maxRecDepth 100000 in
theorem wakes26_any (w : World) : Calls Try.prog 7 #[] w fun en w' => en = .returned (.bool true) ∧ Below w.heap.size w w' := by
  have c0 := new_any 2 (by decide) (by decide) w
  refine (callsIn_wide (n := 6)).1 ?_
  refine callsIn_of_wp Try.func7 rfl trivial ?_
  simp only [Try.ntmps7, List.size_toArray, List.length_nil, Nat.reduceSub, Array.replicate_succ, Array.replicate_zero, List.push_toArray, List.append_toArray, List.nil_append, List.cons_append]
  gi_wp2_with (refine ⟨trivial, ?_⟩; gi_at_call 8; refine (callsIn_wide.2 c0).mono ?_; rintro en w1 ⟨rfl, H1, hb1⟩)
  refine ⟨trivial, (callsIn_wide.2 (put_no ⟨5, 3, -1⟩ _ _ _ _ _ _ _ _ (by decide) H1 (by decide) hb1.size (by simp))).mono ?_⟩
  rintro en w2 hp2
  rw [if_pos (by decide)] at hp2
  obtain ⟨rfl, p5, v2, h2, H2, hh2, hq2, hF2, hV2⟩ := hp2
  have l2 := hq2.length_eq
  simp at l2
  gi_wp2
  refine ⟨trivial, (callsIn_wide.2 (put_no ⟨6, 3, 5⟩ _ _ _ _ _ _ _ _ (by decide) H2 (by omega) (Nat.le_trans hb1.size hF2.size) (by simp))).mono ?_⟩
  rintro en w3 hp3
  rw [if_pos (by simp)] at hp3
  obtain ⟨rfl, p6, v3, h3, H3, hh3, hq3, hF3, hV3⟩ := hp3
  have l3 := hq3.length_eq
  simp at l3
  gi_wp2
  refine ⟨trivial, (callsIn_wide.2 (put_no ⟨7, 1, 0⟩ _ _ _ _ _ _ _ _ (by decide) H3 (by omega) (Nat.le_trans (Nat.le_trans hb1.size hF2.size) hF3.size) (by simp))).mono ?_⟩
  rintro en w4 hp4
  rw [if_neg (by simp)] at hp4
  obtain ⟨rfl, H4, hF4⟩ := hp4
  have hq3' : h3.Perm [⟨5, 3, -1⟩, ⟨6, 3, 5⟩] := hq3.trans (List.Perm.append_right _ hq2)
  gi_wp2
  refine ⟨trivial, (callsIn_wide.2 (take1 (p5 := p5) (p6 := p6) H4 hq3' (hh3 (hh2 Inv26.start.heap)))).mono ?_⟩
  rintro en w5 ⟨rfl, v5, h5, H5, hq5, hh5, hF5, hv5⟩
  have l5 := hq5.length_eq
  simp at l5
  have sz5 : w.heap.size ≤ w5.heap.size := Nat.le_trans (Nat.le_trans (Nat.le_trans (Nat.le_trans hb1.size hF2.size) hF3.size) hF4.size) hF5.size
  gi_wp2
  obtain ⟨W5, hW5⟩ : ∃ W5, w5.alloc (.cells #[.int .i64 5, .int .i64 3, .int .i64 (-1)] 30) = W5 := ⟨_, rfl⟩
  have hX5 : W5.heap[w5.heap.size]? = some (.cells #[.int .i64 5, .int .i64 3, .int .i64 (-1)] 30 (0, 0)) := by rw [← hW5]; exact World.alloc_heap_new _ _
  have H5' : PoolIn W5 w.heap.size (w.heap.size + 1) w.heap.size v5 2 ([⟨5, p5, ⟨5, 3, -1⟩, true⟩] ++ ⟨6, p6, ⟨6, 3, 5⟩, false⟩ :: []) h5 := by rw [← hW5]; exact H5.alloc _
  have b5 : Below w.heap.size w W5 := by
    rw [← hW5]
    exact ((((hb1.trans (hF2.low hb1.size)).trans (hF3.low (Nat.le_trans hb1.size hF2.size))).trans (hF4.low (Nat.le_trans (Nat.le_trans hb1.size hF2.size) hF3.size))).trans (hF5.low (Nat.le_trans (Nat.le_trans (Nat.le_trans hb1.size hF2.size) hF3.size) hF4.size))).alloc sz5 _
  have vN5 : v5.ownBlock ≠ some w5.heap.size := fun e => by have := (H5.row.lt _ e).2; omega
  rw [hW5]
  clear hW5
  refine ⟨trivial, (callsIn_wide.2 (put_yes ⟨6, 2, 5⟩ _ _ _ _ _ _ _ _ _ _ (by decide) H5' (by omega) b5.size rfl)).mono ?_⟩
  rintro en w6 hp6
  rw [if_neg (by simp)] at hp6
  obtain ⟨rfl, v6, h6, H6, hh6, hq6, hF6, hV6⟩ := hp6
  have b6 : Below w.heap.size w w6 := b5.trans (hF6.low b5.size)
  have hX6 := hF6.keep hX5 (.inr ⟨_, _, _, hX5, by decide, by decide, fun _ => vN5⟩)
  have vN6 : v6.ownBlock ≠ some w5.heap.size := by
    rcases hV6 with h | h
    · rw [h]; exact vN5
    · intro e
      have := h _ e
      have := lt_of_block hX5
      omega
  have hq6' : h6.Perm [⟨6, 3, 5⟩, ⟨6, 2, 5⟩] := hq6.trans (List.Perm.append_right _ hq5)
  gi_wp2
  refine ⟨trivial, (callsIn_wide.2 (take2 (p5 := p5) (p6 := p6) H6 hq6' (hh6 hh5))).mono ?_⟩
  rintro en w7 ⟨rfl, v7, h7, H7, hF7, hv7⟩
  have b7 : Below w.heap.size w w7 := b6.trans (hF7.low b6.size)
  have hX7 := hF7.keep hX6 (.inr ⟨_, _, _, hX6, by decide, by decide, fun _ => vN6⟩)
  gi_wp2
  obtain ⟨W7, hW7⟩ : ∃ W7, w7.alloc (.cells #[.int .i64 6, .int .i64 2, .int .i64 5] 30) = W7 := ⟨_, rfl⟩
  have hY7 : W7.heap[w7.heap.size]? = some (.cells #[.int .i64 6, .int .i64 2, .int .i64 5] 30 (0, 0)) := by rw [← hW7]; exact World.alloc_heap_new _ _
  have H7' : PoolIn W7 w.heap.size (w.heap.size + 1) w.heap.size v7 2 [⟨5, p5, ⟨5, 3, -1⟩, true⟩, ⟨6, p6, ⟨6, 2, 5⟩, true⟩] h7 := by rw [← hW7]; exact H7.alloc _
  have b7' : Below w.heap.size w W7 := by rw [← hW7]; exact b7.alloc b7.size _
  have hX7' : W7.heap[w5.heap.size]? = some (.cells #[.int .i64 5, .int .i64 3, .int .i64 (-1)] 30 (0, 0)) := by rw [← hW7]; exact World.cells_alloc_lt hX7 _
  rw [hW7]
  clear hW7
  refine ⟨trivial, (callsIn_wide.2 (back_any H7')).mono ?_⟩
  rintro en w8 ⟨g, cap, rfl, hg0, hb8⟩
  have hX8 := (hb8.block _ (lt_of_block hX7')).trans hX7'
  have hY8 := (hb8.block _ (lt_of_block hY7)).trans hY7
  have x0 := cell_of hX8 (j := 0) rfl
  have y0 := cell_of hY8 (j := 0) rfl
  have y1 := cell_of hY8 (j := 1) rfl
  gi_wp2
  go_ret
  exact ⟨rfl, b7'.trans (hb8.mono b7'.size)⟩
end Go.Proofs.Ytdamcbpjefjolaa
