/- links.To and links.Diagonal by walks. The place is not far off. -/
import Derived.Test.YtbjbiimkhpfieaaMi
namespace Go.Proofs.Ytbjbiimkhpfieaa
open Go Go.RowKit Go.Sx
/-- What is told, if p; else none. -/
def OptIf (en : Ending) (p : Prop) (o : Option Nat) : Prop := (p → OptRet en o) ∧ (¬ p → OptRet en none)
def gridv (X Z W D : Int) (A : Option Addr) (n cap : Nat) : Value := .agg #[.int .i64 X, .int .i64 Z, .int .i64 W, .int .i64 D, .slice A n cap]
set_option maxHeartbeats 2000000 in
set_option maxRecDepth 100000 in
theorem lto_any (a b c d e f g X Z W D x z k d1 : Int) (rows : List (List V3)) (A : Option Addr) (cap : Nat) (w : World) (hr : RowsAt w w.heap.size A rows) (hl : lensOk rows) (hx : -700 ≤ x ∧ x ≤ 700) (hz : -700 ≤ z ∧ z ≤ 700) :
    Calls Try.prog 12 #[cfgv a b c d e f g, gridv X Z W D A rows.length cap, .int .i64 x, .int .i64 z, .int .i64 k, .int .i64 d1] w fun en w' =>
      OptIf en (checkF a b c d e f g = 0 ∧ gridOk X Z W D rows) (toF (lkF a b c d e f g) (colOf X Z W D rows) x z k d1) ∧ Below w.heap.size w w' := by
  obtain ⟨W0, hW0⟩ : ∃ W0, (w.alloc (.cells #[.int .i64 a, .int .i64 b, .int .i64 c, .int .i64 d, .int .i64 e, .int .i64 f, .int .i64 g] 23)).alloc (.cells #[.int .i64 X, .int .i64 Z, .int .i64 W, .int .i64 D, .slice A rows.length cap] 26) = W0 := ⟨_, rfl⟩
  have hb0 : Below w.heap.size w W0 := by rw [← hW0]; exact ((Below.refl _ _).alloc (Nat.le_refl _) _).alloc (by simp) _
  have hz0 : w.heap.size + 2 ≤ W0.heap.size := by rw [← hW0]; simp
  have hg0 : GAt (w.heap.size + 1) X Z W D A rows.length cap W0 := by
    rw [← hW0]
    have := GAt.new X Z W D A rows.length cap (w.alloc (.cells #[.int .i64 a, .int .i64 b, .int .i64 c, .int .i64 d, .int .i64 e, .int .i64 f, .int .i64 g] 23)) 26
    simpa using this
  have hc0 : CfgB w.heap.size a b c d e f g W0 := by rw [← hW0]; exact CfgB.new a b c d e f g w 23 _
  have hlo := look_any a b c d e f g (w.heap.size + 1) X Z W D rows A cap W0 hg0 ((hr.below hb0).more hb0.size) hl
  have hto := fun (W' : World) (hb : Below W0.heap.size W0 W') (ho : gridOk X Z W D rows) => to_any a b c d e f g (w.heap.size + 1) X Z W D x z k d1 rows A cap W' (hg0.below hb (by omega)) ((hr.below (hb0.trans (hb.mono hb0.size))).more (hb0.trans (hb.mono hb0.size)).size) ho (by omega) (by omega)
  unfold modv at hto
  unfold cfgv at hlo ⊢
  unfold gridv
  by_cases hp : checkF a b c d e f g = 0 ∧ gridOk X Z W D rows
  · have hto' := fun W' hb => hto W' hb hp.2
    clear hto
    generalize toF (lkF a b c d e f g) (colOf X Z W D rows) x z k d1 = res at hto' ⊢
    obtain ⟨q0, q1, q2, q3, q4, q5, q6⟩ := id hc0
    go_enter Try.func12, Try.ntmps12
    cases res with
    | none =>
      go_wp2_with (first
        | (go_at_call 26; refine hlo.mono ?_; rintro en w1 ⟨⟨_, rfl⟩ | ⟨hn, _⟩, hb1⟩; rotate_left; exact absurd hp hn; have hto2 := hto' ((w1.alloc (.cells #[.int .i64 a, .int .i64 b, .int .i64 c, .int .i64 d, .int .i64 e, .int .i64 f, .int .i64 g, .pointer (some ⟨w.heap.size + 1, 0, none⟩)] 64))) (hb1.alloc hb1.size _))
        | (go_at_call 27; refine hto2.mono ?_; rintro en w2 ⟨rfl, hb2⟩))
      refine bodyPost_ret (results_tmp2 rfl _ _ _) rfl ?_
      exact ⟨⟨fun _ => rfl, fun h => absurd hp h⟩, hb0.trans (((hb1.alloc hb1.size _).trans (hb2.mono (by have := hb1.size; simp; omega))).mono hb0.size)⟩
    | some n =>
      go_wp2_with (first
        | (go_at_call 26; refine hlo.mono ?_; rintro en w1 ⟨⟨_, rfl⟩ | ⟨hn, _⟩, hb1⟩; rotate_left; exact absurd hp hn; have hto2 := hto' ((w1.alloc (.cells #[.int .i64 a, .int .i64 b, .int .i64 c, .int .i64 d, .int .i64 e, .int .i64 f, .int .i64 g, .pointer (some ⟨w.heap.size + 1, 0, none⟩)] 64))) (hb1.alloc hb1.size _))
        | (go_at_call 27; refine hto2.mono ?_; rintro en w2 ⟨rfl, hb2⟩))
      refine bodyPost_ret (results_tmp2 rfl _ _ _) rfl ?_
      exact ⟨⟨fun _ => rfl, fun h => absurd hp h⟩, hb0.trans (((hb1.alloc hb1.size _).trans (hb2.mono (by have := hb1.size; simp; omega))).mono hb0.size)⟩
  · obtain ⟨q0, q1, q2, q3, q4, q5, q6⟩ := id hc0
    go_enter Try.func12, Try.ntmps12
    go_wp2_with (go_at_call 26; refine hlo.mono ?_; rintro en w1 ⟨⟨hn, _⟩ | ⟨_, er, her, rfl⟩, hb1⟩; exact absurd hn hp; have her' : (er != 0) = true := (by simpa using her))
    refine bodyPost_ret (results_tmp2 rfl _ _ _) rfl ?_
    exact ⟨⟨fun h => absurd h hp, fun _ => rfl⟩, hb0.trans ((hb1.alloc hb1.size _).mono hb0.size)⟩
set_option maxHeartbeats 2000000 in
set_option maxRecDepth 100000 in
theorem ldiag_any (a b c d e f g X Z W D x z k d1 d2 : Int) (rows : List (List V3)) (A : Option Addr) (cap : Nat) (w : World) (hr : RowsAt w w.heap.size A rows) (hl : lensOk rows) (hx : -700 ≤ x ∧ x ≤ 700) (hz : -700 ≤ z ∧ z ≤ 700) :
    Calls Try.prog 15 #[cfgv a b c d e f g, gridv X Z W D A rows.length cap, .int .i64 x, .int .i64 z, .int .i64 k, .int .i64 d1, .int .i64 d2] w fun en w' =>
      OptIf en (checkF a b c d e f g = 0 ∧ gridOk X Z W D rows) (diagF (lkF a b c d e f g) (colOf X Z W D rows) x z k d1 d2) ∧ Below w.heap.size w w' := by
  obtain ⟨W0, hW0⟩ : ∃ W0, (w.alloc (.cells #[.int .i64 a, .int .i64 b, .int .i64 c, .int .i64 d, .int .i64 e, .int .i64 f, .int .i64 g] 23)).alloc (.cells #[.int .i64 X, .int .i64 Z, .int .i64 W, .int .i64 D, .slice A rows.length cap] 26) = W0 := ⟨_, rfl⟩
  have hb0 : Below w.heap.size w W0 := by rw [← hW0]; exact ((Below.refl _ _).alloc (Nat.le_refl _) _).alloc (by simp) _
  have hz0 : w.heap.size + 2 ≤ W0.heap.size := by rw [← hW0]; simp
  have hg0 : GAt (w.heap.size + 1) X Z W D A rows.length cap W0 := by
    rw [← hW0]
    have := GAt.new X Z W D A rows.length cap (w.alloc (.cells #[.int .i64 a, .int .i64 b, .int .i64 c, .int .i64 d, .int .i64 e, .int .i64 f, .int .i64 g] 23)) 26
    simpa using this
  have hc0 : CfgB w.heap.size a b c d e f g W0 := by rw [← hW0]; exact CfgB.new a b c d e f g w 23 _
  have hlo := look_any a b c d e f g (w.heap.size + 1) X Z W D rows A cap W0 hg0 ((hr.below hb0).more hb0.size) hl
  have hto := fun (W' : World) (hb : Below W0.heap.size W0 W') (ho : gridOk X Z W D rows) => diag_any a b c d e f g (w.heap.size + 1) X Z W D x z k d1 d2 rows A cap W' (hg0.below hb (by omega)) ((hr.below (hb0.trans (hb.mono hb0.size))).more (hb0.trans (hb.mono hb0.size)).size) ho (by omega) (by omega)
  unfold modv at hto
  unfold cfgv at hlo ⊢
  unfold gridv
  by_cases hp : checkF a b c d e f g = 0 ∧ gridOk X Z W D rows
  · have hto' := fun W' hb => hto W' hb hp.2
    clear hto
    generalize diagF (lkF a b c d e f g) (colOf X Z W D rows) x z k d1 d2 = res at hto' ⊢
    obtain ⟨q0, q1, q2, q3, q4, q5, q6⟩ := id hc0
    go_enter Try.func15, Try.ntmps15
    cases res with
    | none =>
      go_wp2_with (first
        | (go_at_call 26; refine hlo.mono ?_; rintro en w1 ⟨⟨_, rfl⟩ | ⟨hn, _⟩, hb1⟩; rotate_left; exact absurd hp hn; have hto2 := hto' ((w1.alloc (.cells #[.int .i64 a, .int .i64 b, .int .i64 c, .int .i64 d, .int .i64 e, .int .i64 f, .int .i64 g, .pointer (some ⟨w.heap.size + 1, 0, none⟩)] 64))) (hb1.alloc hb1.size _))
        | (go_at_call 29; refine hto2.mono ?_; rintro en w2 ⟨rfl, hb2⟩))
      refine bodyPost_ret (results_tmp2 rfl _ _ _) rfl ?_
      exact ⟨⟨fun _ => rfl, fun h => absurd hp h⟩, hb0.trans (((hb1.alloc hb1.size _).trans (hb2.mono (by have := hb1.size; simp; omega))).mono hb0.size)⟩
    | some n =>
      go_wp2_with (first
        | (go_at_call 26; refine hlo.mono ?_; rintro en w1 ⟨⟨_, rfl⟩ | ⟨hn, _⟩, hb1⟩; rotate_left; exact absurd hp hn; have hto2 := hto' ((w1.alloc (.cells #[.int .i64 a, .int .i64 b, .int .i64 c, .int .i64 d, .int .i64 e, .int .i64 f, .int .i64 g, .pointer (some ⟨w.heap.size + 1, 0, none⟩)] 64))) (hb1.alloc hb1.size _))
        | (go_at_call 29; refine hto2.mono ?_; rintro en w2 ⟨rfl, hb2⟩))
      refine bodyPost_ret (results_tmp2 rfl _ _ _) rfl ?_
      exact ⟨⟨fun _ => rfl, fun h => absurd hp h⟩, hb0.trans (((hb1.alloc hb1.size _).trans (hb2.mono (by have := hb1.size; simp; omega))).mono hb0.size)⟩
  · obtain ⟨q0, q1, q2, q3, q4, q5, q6⟩ := id hc0
    go_enter Try.func15, Try.ntmps15
    go_wp2_with (go_at_call 26; refine hlo.mono ?_; rintro en w1 ⟨⟨hn, _⟩ | ⟨_, er, her, rfl⟩, hb1⟩; exact absurd hn hp; have her' : (er != 0) = true := (by simpa using her))
    refine bodyPost_ret (results_tmp2 rfl _ _ _) rfl ?_
    exact ⟨⟨fun h => absurd h hp, fun _ => rfl⟩, hb0.trans ((hb1.alloc hb1.size _).mono hb0.size)⟩
end Go.Proofs.Ytbjbiimkhpfieaa
