/- footpathlaw06.BinsTouch by a walk: it tells true. No conditions. -/
import Derived.Test.YteneneadfpkahaaGo
import Derived.Deep.RegionHeld3
namespace Go.Proofs.Yteneneadfpkahaa
open Go Go.RowKit Go.Sx
def S7 (B : Nat) (a b c d e f g : Int) (W0 w : World) : Prop :=
  w.cell? ⟨B, 0, none⟩ = some (.int .i64 a) ∧ w.cell? ⟨B, 1, none⟩ = some (.int .i64 b) ∧ w.cell? ⟨B, 2, none⟩ = some (.int .i64 c) ∧ w.cell? ⟨B, 3, none⟩ = some (.int .i64 d) ∧ w.cell? ⟨B, 4, none⟩ = some (.int .i64 e) ∧ w.cell? ⟨B, 5, none⟩ = some (.int .i64 f) ∧ w.cell? ⟨B, 6, none⟩ = some (.int .i64 g) ∧ Below (B + 1) W0 w ∧ B < w.heap.size
theorem S7.keep {B : Nat} {a b c d e f g : Int} {W0 w w' : World} (h : S7 B a b c d e f g W0 w) (hb : Below w.heap.size w w') : S7 B a b c d e f g W0 w' := by
  obtain ⟨h0, h1, h2, h3, h4, h5, h6, h7, h8⟩ := h
  obtain ⟨g0, g1, g2, g3, g4, g5, g6, g7⟩ := CfgAt.below (B := B) ⟨h0, h1, h2, h3, h4, h5, h6, h8⟩ hb h8
  exact ⟨g0, g1, g2, g3, g4, g5, g6, h7.trans (hb.mono h8), g7⟩
set_option maxRecDepth 100000 in
set_option maxHeartbeats 1000000 in
theorem binsTouch_calls (a b c d e f g x0 z0 x1 z1 leave : Int) (w : World) :
    Calls Try.prog 6 #[cfgv a b c d e f g, .int .i64 x0, .int .i64 z0, .int .i64 x1, .int .i64 z1, .int .i64 leave] w fun en w' => en = .returned (.bool true) ∧ Below w.heap.size w w' := by
  obtain ⟨T, hT⟩ : ∃ T, T = fun i => touchF a b c d e f g i x0 z0 x1 z1 := ⟨_, rfl⟩
  have hcb := count_bd a b c d e f g
  obtain ⟨N, hN⟩ : ∃ N : Nat, countF a b c d e f g = N := ⟨(countF a b c d e f g).toNat, by omega⟩
  have hN16 : N ≤ 16 := by omega
  have h1 := fun w => count_any a b c d e f g w
  have h2 := fun w => rcount_any a b c d e f g w
  have h3 := fun w => rall_any a b c d e f g x0 z0 x1 z1 w T hT N hN hN16
  have h4 := fun A cap w hcap hrd => goes_any a b c d e f g x0 z0 x1 z1 leave T hT N hN hN16 A cap w hcap hrd
  clear hT
  have h5 := fun i w => touch_any a b c d e f g i x0 z0 x1 z1 w
  have h6 := fun i w => rtouch_any a b c d e f g i x0 z0 x1 z1 w
  rw [hN] at h1 h2
  unfold cfgv at h1 h2 h3 h4 h5 h6 ⊢
  go_enter Try.func6, Try.ntmps6
  obtain ⟨W0, hW0⟩ : ∃ W0, w.alloc (.cells #[.int .i64 a, .int .i64 b, .int .i64 c, .int .i64 d, .int .i64 e, .int .i64 f, .int .i64 g] 23) = W0 := ⟨_, rfl⟩
  have hs0 : S7 w.heap.size a b c d e f g W0 W0 := by
    subst hW0
    obtain ⟨g0, g1, g2, g3, g4, g5, g6, g7⟩ := CfgAt.new a b c d e f g w 23
    exact ⟨g0, g1, g2, g3, g4, g5, g6, Below.refl _ _, g7⟩
  have hb0 : Below w.heap.size w W0 := by subst hW0; exact (Below.refl _ _).alloc (Nat.le_refl _) _
  obtain ⟨c00, c01, c02, c03, c04, c05, c06, c07, c08⟩ := id hs0
  go_wp2_with (first
    | (go_at_call 26; refine (h3 _).mono ?_; rintro en w1 ⟨A, cap, rfl, hcap, hrd, hb1⟩; have hs1 := hs0.keep hb1; obtain ⟨c10, c11, c12, c13, c14, c15, c16, c17, c18⟩ := id hs1)
    | (go_at_call 23; refine (h1 _).mono ?_; rintro en w2 ⟨rfl, hb2⟩; have hs2 := hs1.keep hb2; obtain ⟨c20, c21, c22, c23, c24, c25, c26, c27, c28⟩ := id hs2)
    | (go_at_call 27; refine (h2 _).mono ?_; rintro en w3 ⟨rfl, hb3⟩; have hs3 := hs2.keep hb3; obtain ⟨c30, c31, c32, c33, c34, c35, c36, c37, c38⟩ := id hs3)
    | (go_at_call 28; refine (h4 _ _ _ hcap ((hrd.below (hb2.trans (hb3.mono hb2.size))).more (Nat.le_trans hb2.size hb3.size))).mono ?_; rintro en w4 ⟨rfl, hb4⟩; have hs4 := hs3.keep hb4))
  go_loopw [15] (fun x wr => ∃ i : Int, x = .int .i64 i ∧ -1 ≤ i ∧ i ≤ N + 1 ∧ S7 w.heap.size a b c d e f g W0 wr) (fun x _ => (N + 1 - intOf x).toNat)
  case atStart => exact ⟨-1, rfl, by omega, by omega, hs4⟩
  case round =>
    obtain ⟨i, rfl, hi0, hi1, hs5⟩ := hrel
    have h5i := h5 i
    have h6i := h6 i
    generalize touchF a b c d e f g i x0 z0 x1 z1 = t at h5i h6i
    clear h1 h2 h3 h4 h5 h6 c00 c01 c02 c03 c04 c05 c06 c07 c08 c10 c11 c12 c13 c14 c15 c16 c17 c18 c20 c21 c22 c23 c24 c25 c26 c27 c28 c30 c31 c32 c33 c34 c35 c36 c37 c38
    by_cases hin : i ≤ N
    · go_wp2
      go_region_held3 (fun w' => w'.cell? ⟨w.heap.size, 0, none⟩ = some (.int .i64 a) ∧ w'.cell? ⟨w.heap.size, 1, none⟩ = some (.int .i64 b) ∧ w'.cell? ⟨w.heap.size, 2, none⟩ = some (.int .i64 c) ∧ w'.cell? ⟨w.heap.size, 3, none⟩ = some (.int .i64 d) ∧ w'.cell? ⟨w.heap.size, 4, none⟩ = some (.int .i64 e) ∧ w'.cell? ⟨w.heap.size, 5, none⟩ = some (.int .i64 f) ∧ w'.cell? ⟨w.heap.size, 6, none⟩ = some (.int .i64 g) ∧ Below (w.heap.size + 1) W0 w' ∧ w.heap.size < w'.heap.size)
        (first | exact hs5 | exact S7.keep hs5 ((Below.refl _ _).drew) | exact S7.keep (by assumption) (by assumption))
        (first | (go_at_call 24; refine (h5i _).mono ?_; rintro en w5 ⟨rfl, hb5⟩) | (go_at_call 29; refine (h6i _).mono ?_; rintro en w6 ⟨rfl, hb6⟩))
      have hs6 : S7 w.heap.size a b c d e f g W0 w6 := by assumption
      have htt : (t != t) = false := by cases t <;> rfl
      go_wp2
      go_roundw
      case rel => exact ⟨i + 1, by go_num, by omega, by omega, hs6⟩
      case measure => simp [intOf]; omega
    · go_wp2_with (first | (go_at_call 25; refine (wakes6_any _).mono ?_; rintro en w5 ⟨rfl, hb5⟩))
      go_ret
      obtain ⟨_, _, _, _, _, _, _, hbl, hlt⟩ := hs5
      exact ⟨rfl, (hb0.trans (hbl.mono (Nat.le_succ _))).trans (hb5.mono (by omega))⟩
end Go.Proofs.Yteneneadfpkahaa
