/- footpathlaw06.BinsOf by a walk: it tells true. No conditions. -/
import Derived.Test.YteneneadfpkahaaBd
import Derived.Test.YteneneadfpkahaaIn
namespace Go.Proofs.Yteneneadfpkahaa
open Go Go.RowKit Go.Sx
def S25 (B : Nat) (a b c d e f g i x0 y0 z0 x1 y1 z1 x2 y2 z2 j u0 v0 u1 v1 r0 r1 ar : Int) (w : World) : Prop :=
  w.cell? ⟨B, 0, none⟩ = some (.int .i64 a) ∧ w.cell? ⟨B, 1, none⟩ = some (.int .i64 b) ∧ w.cell? ⟨B, 2, none⟩ = some (.int .i64 c) ∧ w.cell? ⟨B, 3, none⟩ = some (.int .i64 d) ∧ w.cell? ⟨B, 4, none⟩ = some (.int .i64 e) ∧ w.cell? ⟨B, 5, none⟩ = some (.int .i64 f) ∧ w.cell? ⟨B, 6, none⟩ = some (.int .i64 g) ∧ w.cell? ⟨B + 1, 0, none⟩ = some (.int .i64 i) ∧ w.cell? ⟨B + 1, 1, none⟩ = some (.int .i64 x0) ∧ w.cell? ⟨B + 1, 2, none⟩ = some (.int .i64 y0) ∧ w.cell? ⟨B + 1, 3, none⟩ = some (.int .i64 z0) ∧ w.cell? ⟨B + 1, 4, none⟩ = some (.int .i64 x1) ∧ w.cell? ⟨B + 1, 5, none⟩ = some (.int .i64 y1) ∧ w.cell? ⟨B + 1, 6, none⟩ = some (.int .i64 z1) ∧ w.cell? ⟨B + 1, 7, none⟩ = some (.int .i64 x2) ∧ w.cell? ⟨B + 1, 8, none⟩ = some (.int .i64 y2) ∧ w.cell? ⟨B + 1, 9, none⟩ = some (.int .i64 z2) ∧ w.cell? ⟨B + 2, 0, none⟩ = some (.int .i64 j) ∧ w.cell? ⟨B + 2, 1, none⟩ = some (.int .i64 u0) ∧ w.cell? ⟨B + 2, 2, none⟩ = some (.int .i64 v0) ∧ w.cell? ⟨B + 2, 3, none⟩ = some (.int .i64 u1) ∧ w.cell? ⟨B + 2, 4, none⟩ = some (.int .i64 v1) ∧ w.cell? ⟨B + 2, 5, none⟩ = some (.int .i64 r0) ∧ w.cell? ⟨B + 2, 6, none⟩ = some (.int .i64 r1) ∧ w.cell? ⟨B + 2, 7, none⟩ = some (.int .i64 ar) ∧ B + 3 ≤ w.heap.size
theorem S25.keep {B : Nat} {a b c d e f g i x0 y0 z0 x1 y1 z1 x2 y2 z2 j u0 v0 u1 v1 r0 r1 ar : Int} {w w' : World} (h : S25 B a b c d e f g i x0 y0 z0 x1 y1 z1 x2 y2 z2 j u0 v0 u1 v1 r0 r1 ar w) (hb : Below w.heap.size w w') : S25 B a b c d e f g i x0 y0 z0 x1 y1 z1 x2 y2 z2 j u0 v0 u1 v1 r0 r1 ar w' := by
  obtain ⟨p0, p1, p2, p3, p4, p5, p6, p7, p8, p9, p10, p11, p12, p13, p14, p15, p16, p17, p18, p19, p20, p21, p22, p23, p24, hl⟩ := h
  have e : ∀ q r, q < B + 3 → w'.cell? ⟨q, r, none⟩ = w.cell? ⟨q, r, none⟩ := fun q r hq => hb.cell (by show q < _; omega)
  exact ⟨(e _ _ (by omega)).trans p0, (e _ _ (by omega)).trans p1, (e _ _ (by omega)).trans p2, (e _ _ (by omega)).trans p3, (e _ _ (by omega)).trans p4, (e _ _ (by omega)).trans p5, (e _ _ (by omega)).trans p6, (e _ _ (by omega)).trans p7, (e _ _ (by omega)).trans p8, (e _ _ (by omega)).trans p9, (e _ _ (by omega)).trans p10, (e _ _ (by omega)).trans p11, (e _ _ (by omega)).trans p12, (e _ _ (by omega)).trans p13, (e _ _ (by omega)).trans p14, (e _ _ (by omega)).trans p15, (e _ _ (by omega)).trans p16, (e _ _ (by omega)).trans p17, (e _ _ (by omega)).trans p18, (e _ _ (by omega)).trans p19, (e _ _ (by omega)).trans p20, (e _ _ (by omega)).trans p21, (e _ _ (by omega)).trans p22, (e _ _ (by omega)).trans p23, (e _ _ (by omega)).trans p24, Nat.le_trans hl hb.size⟩
set_option maxRecDepth 100000 in
theorem tri_same {a b c d e f g i x0 y0 z0 x1 y1 z1 x2 y2 z2 er1 er2 : Int} {L1 L2 : List Int} {N : Nat}
    (h1 : (btris_c0 a b c d e f g i x0 y0 z0 x1 y1 z1 x2 y2 z2 = true ∧ L1 = [] ∧ er1 = tcheckF a b c d e f g i x0 y0 z0 x1 y1 z1 x2 y2 z2) ∨ (btris_c0 a b c d e f g i x0 y0 z0 x1 y1 z1 x2 y2 z2 = false ∧ L1 = hits (fun j => touchF a b c d e f g j (wrap64 (tboundsF0 i x0 y0 z0 x1 y1 z1 x2 y2 z2 - 1)) (wrap64 (tboundsF2 i x0 y0 z0 x1 y1 z1 x2 y2 z2 - 1)) (tboundsF3 i x0 y0 z0 x1 y1 z1 x2 y2 z2) (tboundsF5 i x0 y0 z0 x1 y1 z1 x2 y2 z2)) N ∧ er1 = 0))
    (h2 : (rtris_c0 a b c d e f g i x0 y0 z0 x1 y1 z1 x2 y2 z2 = true ∧ L2 = [] ∧ er2 = rTCheckF a b c d e f g i x0 y0 z0 x1 y1 z1 x2 y2 z2) ∨ (rtris_c0 a b c d e f g i x0 y0 z0 x1 y1 z1 x2 y2 z2 = false ∧ L2 = hits (fun j => touchF a b c d e f g j (wrap64 (rBoundsF0 i x0 y0 z0 x1 y1 z1 x2 y2 z2 - 1)) (wrap64 (rBoundsF2 i x0 y0 z0 x1 y1 z1 x2 y2 z2 - 1)) (rBoundsF3 i x0 y0 z0 x1 y1 z1 x2 y2 z2) (rBoundsF5 i x0 y0 z0 x1 y1 z1 x2 y2 z2)) N ∧ er2 = 0)) : L2 = L1 ∧ er2 = er1 ∧ L1.length ≤ N := by
  unfold btris_c0 at h1
  unfold rtris_c0 at h2
  obtain ⟨q0, q1, q2, q3⟩ := rBounds_eqs i x0 y0 z0 x1 y1 z1 x2 y2 z2
  rw [rTCheck_eq, q0, q1, q2, q3] at h2
  rcases h1 with ⟨k, rfl, rfl⟩ | ⟨k, rfl, rfl⟩ <;> rcases h2 with ⟨k', rfl, rfl⟩ | ⟨k', rfl, rfl⟩ <;> first | exact ⟨rfl, rfl, Nat.zero_le _⟩ | exact ⟨rfl, rfl, hits_le _ _⟩ | (rw [k] at k'; cases k')
set_option maxRecDepth 100000 in
theorem boxes_same {a b c d e f g j u0 v0 u1 v1 r0 r1 ar er1 er2 : Int} {L1 L2 : List Int} {N : Nat}
    (h1 : (checkF a b c d e f g ≠ 0 ∧ L1 = [] ∧ er1 = checkF a b c d e f g) ∨ (checkF a b c d e f g = 0 ∧ boxBad f g j u0 v0 u1 v1 r0 r1 ar = true ∧ L1 = [] ∧ er1 = 2) ∨ (checkF a b c d e f g = 0 ∧ boxBad f g j u0 v0 u1 v1 r0 r1 ar = false ∧ L1 = hits (fun i => touchF a b c d e f g i u0 v0 u1 v1) N ∧ er1 = 0))
    (h2 : (rboxes_c0 a b c d e f g = true ∧ L2 = [] ∧ er2 = checkRF a b c d e f g) ∨ (rboxes_c0 a b c d e f g = false ∧ rboxes_c1 a b c d e f g j u0 v0 u1 v1 r0 r1 ar = true ∧ L2 = [] ∧ er2 = 2) ∨ (rboxes_c0 a b c d e f g = false ∧ rboxes_c1 a b c d e f g j u0 v0 u1 v1 r0 r1 ar = false ∧ L2 = hits (fun j => touchF a b c d e f g j u0 v0 u1 v1) N ∧ er2 = 0)) : L2 = L1 ∧ er2 = er1 ∧ L1.length ≤ N := by
  unfold rboxes_c0 rboxes_c1 at h2
  rw [← checkF_checkRF] at h2
  by_cases hk : checkF a b c d e f g = 0
  · rw [← box_same hk, hk] at h2
    rcases h1 with ⟨k, _⟩ | ⟨_, k, rfl, rfl⟩ | ⟨_, k, rfl, rfl⟩
    · exact absurd hk k
    · rcases h2 with ⟨k', _⟩ | ⟨_, k', rfl, rfl⟩ | ⟨_, k', rfl, rfl⟩
      · simp at k'
      · exact ⟨rfl, rfl, Nat.zero_le _⟩
      · rw [k] at k'; cases k'
    · rcases h2 with ⟨k', _⟩ | ⟨_, k', rfl, rfl⟩ | ⟨_, k', rfl, rfl⟩
      · simp at k'
      · rw [k] at k'; cases k'
      · exact ⟨rfl, rfl, hits_le _ _⟩
  · rcases h1 with ⟨_, rfl, rfl⟩ | ⟨k, _⟩ | ⟨k, _⟩
    · rcases h2 with ⟨_, rfl, rfl⟩ | ⟨k', _⟩ | ⟨k', _⟩
      · exact ⟨rfl, rfl, Nat.zero_le _⟩
      · exact absurd (by simpa using k') hk
      · exact absurd (by simpa using k') hk
    · exact absurd k hk
    · exact absurd k hk
set_option maxRecDepth 100000 in
set_option maxHeartbeats 2000000 in
theorem binsOf_calls (a b c d e f g i x0 y0 z0 x1 y1 z1 x2 y2 z2 j u0 v0 u1 v1 r0 r1 ar : Int) (w : World) :
    Calls Try.prog 19 #[.agg #[.int .i64 a, .int .i64 b, .int .i64 c, .int .i64 d, .int .i64 e, .int .i64 f, .int .i64 g], .agg #[.int .i64 i, .int .i64 x0, .int .i64 y0, .int .i64 z0, .int .i64 x1, .int .i64 y1, .int .i64 z1, .int .i64 x2, .int .i64 y2, .int .i64 z2], .agg #[.int .i64 j, .int .i64 u0, .int .i64 v0, .int .i64 u1, .int .i64 v1, .int .i64 r0, .int .i64 r1, .int .i64 ar]] w fun en w' => en = .returned (.bool true) ∧ Below w.heap.size w w' := by
  have hcb := count_bd a b c d e f g
  obtain ⟨N, hN⟩ : ∃ N : Nat, countF a b c d e f g = N := ⟨(countF a b c d e f g).toNat, by omega⟩
  have hN16 : N ≤ 16 := by omega
  have hT := hits_le
  have h1 := fun w => btris_any a b c d e f g i x0 y0 z0 x1 y1 z1 x2 y2 z2 w N hN hN16
  have h2 := fun w => rtris_any a b c d e f g i x0 y0 z0 x1 y1 z1 x2 y2 z2 w N hN hN16
  have h3 := fun w => boxes_any a b c d e f g j u0 v0 u1 v1 r0 r1 ar w _ rfl N hN hN16
  have h4 := fun w => rboxes_any a b c d e f g j u0 v0 u1 v1 r0 r1 ar w N hN hN16
  unfold cfgv at h3
  obtain ⟨W0, hW0⟩ : ∃ W0, ((w.alloc (.cells #[.int .i64 a, .int .i64 b, .int .i64 c, .int .i64 d, .int .i64 e, .int .i64 f, .int .i64 g] 23)).alloc (.cells #[.int .i64 i, .int .i64 x0, .int .i64 y0, .int .i64 z0, .int .i64 x1, .int .i64 y1, .int .i64 z1, .int .i64 x2, .int .i64 y2, .int .i64 z2] 60)).alloc (.cells #[.int .i64 j, .int .i64 u0, .int .i64 v0, .int .i64 u1, .int .i64 v1, .int .i64 r0, .int .i64 r1, .int .i64 ar] 81) = W0 := ⟨_, rfl⟩
  have hs0 : S25 w.heap.size a b c d e f g i x0 y0 z0 x1 y1 z1 x2 y2 z2 j u0 v0 u1 v1 r0 r1 ar W0 := by
    subst hW0
    refine ⟨?_, ?_, ?_, ?_, ?_, ?_, ?_, ?_, ?_, ?_, ?_, ?_, ?_, ?_, ?_, ?_, ?_, ?_, ?_, ?_, ?_, ?_, ?_, ?_, ?_, by simp⟩
    iterate 7 (rw [World.cell?_alloc_past _ _ _ (by simp <;> omega), World.cell?_alloc_past _ _ _ (by simp <;> omega), World.cell?_alloc_at _ _ _ _ rfl]; rfl)
    iterate 10 (rw [World.cell?_alloc_past _ _ _ (by simp), World.cell?_alloc_at _ _ _ _ (by simp)]; rfl)
    iterate 8 (rw [World.cell?_alloc_at _ _ _ _ (by simp)]; rfl)
  have hb0 : Below w.heap.size w W0 := by subst hW0; exact (((Below.refl _ _).alloc (Nat.le_refl _) _).alloc (by simp) _).alloc (by simp <;> omega) _
  go_enter Try.func19, Try.ntmps19
  obtain ⟨p0, p1, p2, p3, p4, p5, p6, p7, p8, p9, p10, p11, p12, p13, p14, p15, p16, p17, p18, p19, p20, p21, p22, p23, p24, p99⟩ := id hs0
  go_wp2_with (first
    | (go_at_call 73; refine (h1 _).mono ?_; rintro en w1 ⟨L1, er1, A1, cap1, rfl, hrd1, hb1, hc1⟩; have hs1 := hs0.keep hb1; clear p0 p1 p2 p3 p4 p5 p6 p7 p8 p9 p10 p11 p12 p13 p14 p15 p16 p17 p18 p19 p20 p21 p22 p23 p24 hW0; obtain ⟨p0, p1, p2, p3, p4, p5, p6, p7, p8, p9, p10, p11, p12, p13, p14, p15, p16, p17, p18, p19, p20, p21, p22, p23, p24, p99⟩ := id hs1)
    | (go_at_call 74; refine (h2 _).mono ?_; rintro en w2 ⟨L2, er2, A2, cap2, rfl, hrd2, hb2, hc2⟩; have hs2 := hs1.keep hb2; clear p0 p1 p2 p3 p4 p5 p6 p7 p8 p9 p10 p11 p12 p13 p14 p15 p16 p17 p18 p19 p20 p21 p22 p23 p24; obtain ⟨p0, p1, p2, p3, p4, p5, p6, p7, p8, p9, p10, p11, p12, p13, p14, p15, p16, p17, p18, p19, p20, p21, p22, p23, p24, p99⟩ := id hs2)
    | (go_at_call 75; refine (h3 _).mono ?_; rintro en w3 ⟨L3, er3, A3, cap3, rfl, hrd3, hb3, hc3⟩; have hs3 := hs2.keep hb3; clear p0 p1 p2 p3 p4 p5 p6 p7 p8 p9 p10 p11 p12 p13 p14 p15 p16 p17 p18 p19 p20 p21 p22 p23 p24; obtain ⟨p0, p1, p2, p3, p4, p5, p6, p7, p8, p9, p10, p11, p12, p13, p14, p15, p16, p17, p18, p19, p20, p21, p22, p23, p24, p99⟩ := id hs3)
    | (go_at_call 76; refine (h4 _).mono ?_; rintro en w4 ⟨L4, er4, A4, cap4, rfl, hrd4, hb4, hc4⟩; obtain ⟨rfl, rfl, hl1⟩ := tri_same hc1 hc2; obtain ⟨rfl, rfl, hl3⟩ := boxes_same hc3 hc4; have hb34 := hb3.trans (hb4.mono hb3.size); have hb24 := hb2.trans (hb34.mono hb2.size); have hI1 := fun m => ints6_any L2 L2 A1 A2 cap1 cap2 (w4.drewN m) (by exact (hrd1.below hb24).more hb24.size) (by exact (hrd2.below hb34).more hb34.size) (by omega); have hI3 := fun m => ints6_any L4 L4 A3 A4 cap3 cap4 (w4.drewN m) (by exact (hrd3.below hb4).more hb4.size) (by exact hrd4) (by omega); rw [decide_eq_true rfl] at hI1 hI3)
    | (go_at_call 77; first | (refine (hI1 0).mono ?_; rintro en w5 ⟨rfl, n5, rfl⟩) | (refine (hI3 _).mono ?_; rintro en w6 ⟨rfl, n6, rfl⟩))
    | (go_at_call 25; refine (wakes6_any _).mono ?_; rintro en w7 ⟨rfl, hb7⟩))
  have hz := p99
  go_ret
  refine ⟨rfl, ?_⟩
  have hb14 := hb1.trans (hb24.mono hb1.size)
  have hz0 := hb0.size
  have hz1 := hb1.size
  have hz2 := hb24.size
  exact ((hb0.trans (hb14.mono (by omega))).trans (below_drewN (Below.refl _ _) (n5 + n6))).trans (hb7.mono (by simp; omega))
end Go.Proofs.Yteneneadfpkahaa
