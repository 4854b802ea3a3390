/- links.Build by a walk. No conditions but that the grid lies where it is said to lie. -/
import Derived.Test.YtcdfojfafnecdaaFc
import Derived.Test.YtcdfojfafnecdaaFd
namespace Go.Proofs.Ytcdfojfafnecdaa
open Go Go.RowKit Go.Sx
/-- Where the floors of the column i lead. -/
noncomputable def colL (a b c d e f g X Z W D : Int) (rows : List (List V3)) (i : Nat) : List Value := lcs (fun k d' => toF (lkF a b c d e f g) (colOf X Z W D rows) (X + (i : Int) % W) (Z + (i : Int) / W) k d') (rows.getD i []).length
set_option maxHeartbeats 2000000 in
set_option maxRecDepth 100000 in
theorem lbuild_any (a b c d e f g X Z W D : Int) (rows : List (List V3)) (A : Option Addr) (cap : Nat) (w : World) (hr : RowsAt w w.heap.size A rows) (hl : lensOk rows) :
    Calls Try.prog 27 #[cfgv a b c d e f g, .agg #[.int .i64 X, .int .i64 Z, .int .i64 W, .int .i64 D, .slice A rows.length cap]] w fun en w' =>
      ((checkF a b c d e f g = 0 ∧ gridOk X Z W D rows) ∧ (∃ v, en = .returned (.tuple #[v, .int .i64 0]) ∧ LRows w' w.heap.size v rows.length (fun i => (rows.getD i []).length) (colL a b c d e f g X Z W D rows)) ∨
        ¬ (checkF a b c d e f g = 0 ∧ gridOk X Z W D rows) ∧ en = .returned (.tuple #[.slice none 0 0, .int .i64 (if checkF a b c d e f g = 0 then 2 else 20)])) ∧ Below w.heap.size w w' := by
  obtain ⟨W2, hW2⟩ : ∃ W2, ((w.alloc (.cells #[.int .i64 a, .int .i64 b, .int .i64 c, .int .i64 d, .int .i64 e, .int .i64 f, .int .i64 g] 23)).alloc (.cells #[.int .i64 X, .int .i64 Z, .int .i64 W, .int .i64 D, .slice A rows.length cap] 26)) = W2 := ⟨_, rfl⟩
  have hC : W2.heap[w.heap.size]? = some (.cells #[.int .i64 a, .int .i64 b, .int .i64 c, .int .i64 d, .int .i64 e, .int .i64 f, .int .i64 g] 23 (0, 0)) := by rw [← hW2]; exact two_alloc w _ _
  have hG : W2.heap[w.heap.size + 1]? = some (.cells #[.int .i64 X, .int .i64 Z, .int .i64 W, .int .i64 D, .slice A rows.length cap] 26 (0, 0)) := by rw [← hW2]; exact alloc2_new w _ _
  have q0 : W2.cell? ⟨w.heap.size, 0, none⟩ = some (.int .i64 a) := cell_of hC rfl
  have q1 : W2.cell? ⟨w.heap.size, 1, none⟩ = some (.int .i64 b) := cell_of hC rfl
  have q2 : W2.cell? ⟨w.heap.size, 2, none⟩ = some (.int .i64 c) := cell_of hC rfl
  have q3 : W2.cell? ⟨w.heap.size, 3, none⟩ = some (.int .i64 d) := cell_of hC rfl
  have q4 : W2.cell? ⟨w.heap.size, 4, none⟩ = some (.int .i64 e) := cell_of hC rfl
  have q5 : W2.cell? ⟨w.heap.size, 5, none⟩ = some (.int .i64 f) := cell_of hC rfl
  have q6 : W2.cell? ⟨w.heap.size, 6, none⟩ = some (.int .i64 g) := cell_of hC rfl
  unfold cfgv
  go_enter Try.func27, Try.ntmps27
  have hb2 : Below w.heap.size w W2 := by rw [← hW2]; exact ((Below.refl _ _).alloc (Nat.le_refl _) _).alloc (by simp) _
  have hs2 : W2.heap.size = w.heap.size + 2 := by rw [← hW2]; simp
  have hgt : GAt (w.heap.size + 1) X Z W D A rows.length cap W2 := ⟨cell_of hG rfl, cell_of hG rfl, cell_of hG rfl, cell_of hG rfl, cell_of hG rfl, by omega⟩
  have hr2 := (hr.below hb2).more hb2.size
  have hlk := look2_any a b c d e f g (w.heap.size + 1) X Z W D rows A cap W2 hgt hr2 hl
  unfold cfgv at hlk
  by_cases hp : checkF a b c d e f g = 0 ∧ gridOk X Z W D rows
  · have hlk2 : Calls Try.prog 37 #[.agg #[.int .i64 a, .int .i64 b, .int .i64 c, .int .i64 d, .int .i64 e, .int .i64 f, .int .i64 g], .pointer (some ⟨w.heap.size + 1, 0, none⟩)] W2 fun en w' =>
        en = .returned (.tuple #[.agg #[.int .i64 a, .int .i64 b, .int .i64 c, .int .i64 d, .int .i64 e, .int .i64 f, .int .i64 g, .pointer (some ⟨w.heap.size + 1, 0, none⟩)], .int .i64 0]) ∧ Below W2.heap.size W2 w' := by
      refine hlk.mono fun en w' ⟨h, hb⟩ => ⟨?_, hb⟩
      rcases h with ⟨_, h⟩ | ⟨h, _⟩
      · exact h
      · exact absurd hp h
    clear hlk
    have hE := fun (w3 : World) (hb3 : Below W2.heap.size W2 w3) => each_any a b c d e f g (w.heap.size + 1) w3.heap.size X Z W D rows A cap (w3.alloc (.cells #[.int .i64 a, .int .i64 b, .int .i64 c, .int .i64 d, .int .i64 e, .int .i64 f, .int .i64 g, .pointer (some ⟨w.heap.size + 1, 0, none⟩)] 83))
      (hgt.below (hb3.alloc hb3.size _) hgt.lt) ((hr2.below (hb3.alloc hb3.size _)).more (by simp; have := hb3.size; omega)) hp.2 (World.alloc_heap_new _ _)
    go_wp2_with (first
      | (go_at_call 37; refine hlk2.mono ?_; rintro en w3 ⟨rfl, hb3⟩)
      | (go_at_call 38; refine (hE w3 hb3).mono ?_; rintro en w5 ⟨v5, rfl, hL, hb5⟩))
    go_ret2
    have hb4 := (hb2.trans (hb3.mono hb2.size)).alloc (by have := hb3.size; omega) (.cells #[.int .i64 a, .int .i64 b, .int .i64 c, .int .i64 d, .int .i64 e, .int .i64 f, .int .i64 g, .pointer (some ⟨w.heap.size + 1, 0, none⟩)] 83)
    refine ⟨⟨v5, rfl, ?_⟩, hb4.trans (hb5.mono hb4.size)⟩
    obtain ⟨hd, h1, h2⟩ := hL
    refine ⟨hd, own_base h1 hb4.size, fun i hi => ?_⟩
    obtain ⟨u, h3, h4⟩ := h2 i hi
    exact ⟨u, h3, own_base h4 hb4.size⟩
  · have hlk2 : Calls Try.prog 37 #[.agg #[.int .i64 a, .int .i64 b, .int .i64 c, .int .i64 d, .int .i64 e, .int .i64 f, .int .i64 g], .pointer (some ⟨w.heap.size + 1, 0, none⟩)] W2 fun en w' =>
        en = .returned (.tuple #[.agg #[.int .i64 0, .int .i64 0, .int .i64 0, .int .i64 0, .int .i64 0, .int .i64 0, .int .i64 0, .pointer none], .int .i64 (if checkF a b c d e f g = 0 then 2 else 20)]) ∧ Below W2.heap.size W2 w' := by
      refine hlk.mono fun en w' ⟨h, hb⟩ => ⟨?_, hb⟩
      rcases h with ⟨h, _⟩ | ⟨_, h⟩
      · exact absurd h hp
      · exact h
    clear hlk
    obtain ⟨er, her⟩ : ∃ er : Int, (if checkF a b c d e f g = 0 then 2 else 20) = er := ⟨_, rfl⟩
    have hne : (er == 0) = false := by rw [← her]; split <;> rfl
    rw [her] at hlk2 ⊢
    clear her
    go_wp2_with (go_at_call 37; refine hlk2.mono ?_; rintro en w3 ⟨rfl, hb3⟩)
    go_ret2
    exact ⟨.inr ⟨hp, rfl⟩, (hb2.trans (hb3.mono hb2.size)).alloc (by have := hb3.size; omega) _⟩
end Go.Proofs.Ytcdfojfafnecdaa
