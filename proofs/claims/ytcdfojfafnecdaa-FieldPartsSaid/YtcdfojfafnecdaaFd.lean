/- links.look by a walk, with the very error. No conditions but that the grid lies where it is said to lie. -/
import Derived.Test.YtcdfojfafnecdaaMd
namespace Go.Proofs.Ytcdfojfafnecdaa
open Go Go.RowKit Go.Sx
def LookRet2 (en : Ending) (a b c d e f g : Int) (B : Nat) (p : Prop) : Prop :=
  (p ∧ en = .returned (.tuple #[.agg #[.int .i64 a, .int .i64 b, .int .i64 c, .int .i64 d, .int .i64 e, .int .i64 f, .int .i64 g, .pointer (some ⟨B, 0, none⟩)], .int .i64 0])) ∨
  (¬ p ∧ en = .returned (.tuple #[.agg #[.int .i64 0, .int .i64 0, .int .i64 0, .int .i64 0, .int .i64 0, .int .i64 0, .int .i64 0, .pointer none], .int .i64 (if checkF a b c d e f g = 0 then 2 else 20)]))
set_option maxHeartbeats 1000000 in
set_option maxRecDepth 100000 in
theorem look2_any (a b c d e f g : Int) (B : Nat) (X Z W D : Int) (rows : List (List V3)) (A : Option Addr) (cap : Nat) (w : World) (hg : GAt B X Z W D A rows.length cap w) (hr : RowsAt w w.heap.size A rows) (hl : lensOk rows) :
    Calls Try.prog 37 #[cfgv a b c d e f g, .pointer (some ⟨B, 0, none⟩)] w fun en w' =>
      LookRet2 en a b c d e f g B (checkF a b c d e f g = 0 ∧ gridOk X Z W D rows) ∧ Below w.heap.size w w' := by
  have h1 := fun w => chk_any a b c d e f g w
  unfold cfgv at h1 ⊢
  have hlt2 : ∀ o o' : Obj, Below w.heap.size w ((w.alloc o).alloc o') := fun o o' => ((Below.refl _ _).alloc (Nat.le_refl _) _).alloc (by simp) _
  go_enter Try.func37, Try.ntmps37
  have hblk : ((w.alloc (.cells #[.int .i64 a, .int .i64 b, .int .i64 c, .int .i64 d, .int .i64 e, .int .i64 f, .int .i64 g] 23)).alloc (.cells #[.int .i64 0, .int .i64 0, .int .i64 0, .int .i64 0, .int .i64 0, .int .i64 0, .int .i64 0, .pointer none] 83)).heap[w.heap.size + 1]? = some (.cells #[.int .i64 0, .int .i64 0, .int .i64 0, .int .i64 0, .int .i64 0, .int .i64 0, .int .i64 0, .pointer none] 83 (0, 0)) := by
    have h2 := World.alloc_heap_new (w.alloc (.cells #[.int .i64 a, .int .i64 b, .int .i64 c, .int .i64 d, .int .i64 e, .int .i64 f, .int .i64 g] 23)) (.cells #[.int .i64 0, .int .i64 0, .int .i64 0, .int .i64 0, .int .i64 0, .int .i64 0, .int .i64 0, .pointer none] 83)
    simpa using h2
  by_cases hk : checkF a b c d e f g = 0
  · rw [hk] at h1
    obtain ⟨g0, g1, g2, g3, g4, g5⟩ := id hg
    go_wp2_with (first
      | (go_at_call 32; refine (h1 _).mono ?_; rintro en w1 ⟨rfl, hb1⟩; have hb01 := (hlt2 _ _).trans (hb1.mono (by simp <;> omega)); obtain ⟨g10, g11, g12, g13, g14, g15⟩ := hg.below hb01 g5; have hr1 := (hr.below hb01).more hb01.size; have hblk1 := (hb1.block (w.heap.size + 1) (by simp)).trans hblk; have hcf : CfgB w.heap.size a b c d e f g w1 := CfgB.below (CfgB.new a b c d e f g w _ _) hb1 (by simp <;> omega); obtain ⟨q0, q1, q2, q3, q4, q5, q6⟩ := id hcf)
      | (go_at_call 48; refine (ocheck_any X Z W D rows A cap _ hr1 hl).mono ?_; rintro en w2 ⟨⟨er, rfl, hei⟩, hb2⟩; have hb02 := hb01.trans (hb2.mono hb01.size); obtain ⟨c0, c1, c2, c3, c4, c5, c6, c7, f0, f1, f2, f3, f4, f5, f6, f7, lt⟩ := MBox.of ((hb2.block (w.heap.size + 1) (by have := hb1.size; simp at this; omega)).trans hblk1); obtain ⟨r0, r1, r2, r3, r4, r5, r6⟩ := CfgB.below hcf hb2 (by have := hb1.size; simp at this; omega)))
    · have hne : er ≠ 0 := by simp_all
      refine bodyPost_ret (results_m rfl _ _ (w.heap.size + 1) (.int .i64 0) (.int .i64 0) (.int .i64 0) (.int .i64 0) (.int .i64 0) (.int .i64 0) (.int .i64 0) (.pointer none) rfl ?_ ?_ ?_ ?_ ?_ ?_ ?_ ?_) rfl ?_
      iterate 8 (go_simp)
      exact ⟨.inr ⟨fun h => hne (hei.2 h.2), (by rw [if_pos hk]; rfl)⟩, set8_below hb02 (by omega)⟩
    · have hne : er = 0 := by simp_all
      refine bodyPost_ret (results_m rfl _ _ (w.heap.size + 1) (.int .i64 a) (.int .i64 b) (.int .i64 c) (.int .i64 d) (.int .i64 e) (.int .i64 f) (.int .i64 g) (.pointer (some ⟨B, 0, none⟩)) rfl ?_ ?_ ?_ ?_ ?_ ?_ ?_ ?_) rfl ?_
      iterate 8 (go_simp)
      exact ⟨.inl ⟨⟨hk, hei.1 hne⟩, rfl⟩, set8_below hb02 (by omega)⟩
  · have hk' : (checkF a b c d e f g != 0) = true := by simpa using hk
    go_wp2_with (go_at_call 32; refine (h1 _).mono ?_; rintro en w1 ⟨rfl, hb1⟩; obtain ⟨c0, c1, c2, c3, c4, c5, c6, c7, f0, f1, f2, f3, f4, f5, f6, f7, lt⟩ := MBox.of ((hb1.block (w.heap.size + 1) (by simp)).trans hblk))
    have hb01 := (hlt2 (.cells #[.int .i64 a, .int .i64 b, .int .i64 c, .int .i64 d, .int .i64 e, .int .i64 f, .int .i64 g] 23) (.cells #[.int .i64 0, .int .i64 0, .int .i64 0, .int .i64 0, .int .i64 0, .int .i64 0, .int .i64 0, .pointer none] 83)).trans (hb1.mono (by simp <;> omega))
    refine bodyPost_ret (results_m rfl _ _ (w.heap.size + 1) (.int .i64 0) (.int .i64 0) (.int .i64 0) (.int .i64 0) (.int .i64 0) (.int .i64 0) (.int .i64 0) (.pointer none) rfl ?_ ?_ ?_ ?_ ?_ ?_ ?_ ?_) rfl ?_
    iterate 8 (go_simp)
    exact ⟨.inr ⟨fun h => hk h.1, (by rw [if_neg hk]; rfl)⟩, set8_below hb01 (by omega)⟩
end Go.Proofs.Ytcdfojfafnecdaa
