/- (links.model).diagonal by a walk. The grid may be; the place is not far off. -/
import Derived.Test.YtbjbiimkhpfieaaMh
namespace Go.Proofs.Ytbjbiimkhpfieaa
open Go Go.RowKit Go.Sx
theorem diagF_none1 {lk : V3 → V3 → Bool} {col : Int → Int → List V3} {x z k d e : Int} (h : stepD d = none) : diagF lk col x z k d e = none := by unfold diagF; rw [h]
theorem diagF_none2 {lk : V3 → V3 → Bool} {col : Int → Int → List V3} {x z k d e : Int} (h : stepD e = none) : diagF lk col x z k d e = none := by
  unfold diagF; rw [h]
  cases stepD d with
  | none => rfl
  | some p => rfl
theorem diagF_eq {lk : V3 → V3 → Bool} {col : Int → Int → List V3} {x z k d e dx dz ex ez : Int} (hd : stepD d = some (dx, dz)) (he : stepD e = some (ex, ez)) :
    diagF lk col x z k d e = if (dx = 0 ↔ ex = 0) then none else match roundF lk col x z k d e dx dz, roundF lk col x z k e d ex ez with
    | some p, some q => if p = q then some p else none
    | _, _ => none := by unfold diagF; rw [hd, he]; rfl
set_option maxHeartbeats 2000000 in
set_option maxRecDepth 100000 in
theorem diag_any (a b c d e f g : Int) (B : Nat) (X Z W D x z k d1 d2 : Int) (rows : List (List V3)) (A : Option Addr) (cap : Nat) (w : World) (hg : GAt B X Z W D A rows.length cap w) (hr : RowsAt w w.heap.size A rows) (ho : gridOk X Z W D rows) (hx : -700 ≤ x ∧ x ≤ 700) (hz : -700 ≤ z ∧ z ≤ 700) :
    Calls Try.prog 29 #[modv a b c d e f g B, .int .i64 x, .int .i64 z, .int .i64 k, .int .i64 d1, .int .i64 d2] w fun en w' =>
      OptRet en (diagF (lkF a b c d e f g) (colOf X Z W D rows) x z k d1 d2) ∧ Below w.heap.size w w' := by
  have hs1 := fun w => step_any d1 w
  have hs2 := fun w => step_any d2 w
  obtain ⟨hc0, hp0⟩ := modb a b c d e f g (.pointer (some ⟨B, 0, none⟩)) w 64
  have hlt2 : ∀ o o' : Obj, Below w.heap.size w ((w.alloc o).alloc o') := fun o o' => ((Below.refl _ _).alloc (Nat.le_refl _) _).alloc (by simp) _
  obtain ⟨W0, hW0⟩ : ∃ W0, (w.alloc (.cells #[.int .i64 a, .int .i64 b, .int .i64 c, .int .i64 d, .int .i64 e, .int .i64 f, .int .i64 g, .pointer (some ⟨B, 0, none⟩)] 64)).alloc (.cells #[.int .i64 k] 3) = W0 := ⟨_, rfl⟩
  have hb0 : Below w.heap.size w W0 := by rw [← hW0]; exact hlt2 _ _
  have hz0 : w.heap.size + 2 ≤ W0.heap.size := by rw [← hW0]; simp
  have hk0 : W0.cell? ⟨w.heap.size + 1, 0, none⟩ = some (.int .i64 k) := by rw [← hW0]; exact World.cell?_alloc_at _ _ _ _ (by simp)
  have hc1 : CfgB w.heap.size a b c d e f g W0 := by rw [← hW0]; exact CfgB.below hc0 ((Below.refl _ _).alloc (Nat.le_refl _) _) (by simp)
  have hp1 : W0.cell? ⟨w.heap.size, 7, none⟩ = some (.pointer (some ⟨B, 0, none⟩)) := by rw [← hW0, World.cell?_alloc_past _ _ _ (by simp)]; exact hp0
  have hrd := fun (W' : World) (hb : Below W0.heap.size W0 W') (a1 a2 ax az : Int) (h1 : -1 ≤ ax ∧ ax ≤ 1) (h2 : -1 ≤ az ∧ az ≤ 1) =>
    round_any a b c d e f g B X Z W D x z k a1 a2 ax az rows A cap W' (hg.below (hb0.trans (hb.mono hb0.size)) hg.lt) ((hr.below (hb0.trans (hb.mono hb0.size))).more (hb0.trans (hb.mono hb0.size)).size) ho (by omega) (by omega) h1 h2 w.heap.size (w.heap.size + 1)
      (CfgB.below hc1 hb (by omega)) ((hb.cell (p := ⟨w.heap.size, 7, none⟩) (by show w.heap.size < _; omega)).trans hp1) (by have := hb.size; omega) ((hb.cell (p := ⟨w.heap.size + 1, 0, none⟩) (by show w.heap.size + 1 < _; omega)).trans hk0)
  unfold modv
  have hfin : ∀ w3 : World, Below W0.heap.size W0 w3 → Below w.heap.size w w3 := fun w3 h => hb0.trans (h.mono hb0.size)
  cases hd : stepD d1 with
  | none =>
    rw [diagF_none1 hd]
    rw [hd] at hs1
    cases hd2 : stepD d2 with
    | none =>
      rw [hd2] at hs2
      go_enter Try.func29, Try.ntmps29
      go_wp2_with (go_at_call 11; first | (refine (hs1 W0).mono ?_; rintro en w1 ⟨rfl, hb1⟩; clear hs1) | (refine (hs2 w1).mono ?_; rintro en w2 ⟨rfl, hb2⟩))
      refine bodyPost_ret (results_tmp2 rfl _ _ _) rfl ?_
      exact ⟨rfl, hfin _ (hb1.trans (hb2.mono hb1.size))⟩
    | some p =>
      obtain ⟨ex, ez⟩ := p
      rw [hd2] at hs2
      go_enter Try.func29, Try.ntmps29
      go_wp2_with (go_at_call 11; first | (refine (hs1 W0).mono ?_; rintro en w1 ⟨rfl, hb1⟩; clear hs1) | (refine (hs2 w1).mono ?_; rintro en w2 ⟨rfl, hb2⟩))
      refine bodyPost_ret (results_tmp2 rfl _ _ _) rfl ?_
      exact ⟨rfl, hfin _ (hb1.trans (hb2.mono hb1.size))⟩
  | some p =>
    obtain ⟨dx, dz⟩ := p
    obtain ⟨_, _, _, s1, s2, s3, s4⟩ := stepD_opp hd
    rw [hd] at hs1
    cases hd2 : stepD d2 with
    | none =>
      rw [diagF_none2 hd2]
      rw [hd2] at hs2
      go_enter Try.func29, Try.ntmps29
      go_wp2_with (go_at_call 11; first | (refine (hs1 W0).mono ?_; rintro en w1 ⟨rfl, hb1⟩; clear hs1) | (refine (hs2 w1).mono ?_; rintro en w2 ⟨rfl, hb2⟩))
      refine bodyPost_ret (results_tmp2 rfl _ _ _) rfl ?_
      exact ⟨rfl, hfin _ (hb1.trans (hb2.mono hb1.size))⟩
    | some p =>
      obtain ⟨ex, ez⟩ := p
      obtain ⟨_, _, _, t1, t2, t3, t4⟩ := stepD_opp hd2
      rw [hd2] at hs2
      rw [diagF_eq hd hd2]
      by_cases hax : (dx = 0 ↔ ex = 0)
      · rw [if_pos hax]
        have hb00 : ((dx == 0) == (ex == 0)) = true := by
          by_cases h0 : dx = 0
          · have := hax.1 h0; simp [h0, this]
          · have h1 : ex ≠ 0 := fun h => h0 (hax.2 h)
            have e1 : (dx == 0) = false := by simpa using h0
            have e2 : (ex == 0) = false := by simpa using h1
            rw [e1, e2]; rfl
        go_enter Try.func29, Try.ntmps29
        go_wp2_with (go_at_call 11; first | (refine (hs1 W0).mono ?_; rintro en w1 ⟨rfl, hb1⟩; clear hs1) | (refine (hs2 w1).mono ?_; rintro en w2 ⟨rfl, hb2⟩))
        refine bodyPost_ret (results_tmp2 rfl _ _ _) rfl ?_
        exact ⟨rfl, hfin _ (hb1.trans (hb2.mono hb1.size))⟩
      rw [if_neg hax]
      have hb00 : ((dx == 0) == (ex == 0)) = false := by
        by_cases h0 : dx = 0
        · have h1 : ex ≠ 0 := fun h => hax ⟨fun _ => h, fun _ => h0⟩
          have e2 : (ex == 0) = false := by simpa using h1
          rw [h0, e2]; rfl
        · have h1 : ex = 0 := Classical.not_not.1 fun h => hax ⟨fun h' => absurd h' h0, fun h' => absurd h' h⟩
          have e1 : (dx == 0) = false := by simpa using h0
          rw [h1, e1]; rfl
      have hA := fun W' hb => hrd W' hb d1 d2 dx dz ⟨s1, s2⟩ ⟨s3, s4⟩
      have hB := fun W' hb => hrd W' hb d2 d1 ex ez ⟨t1, t2⟩ ⟨t3, t4⟩
      clear hrd
      generalize roundF (lkF a b c d e f g) (colOf X Z W D rows) x z k d1 d2 dx dz = o1 at hA ⊢
      generalize roundF (lkF a b c d e f g) (colOf X Z W D rows) x z k d2 d1 ex ez = o2 at hB ⊢
      cases o1 with
      | none =>
        cases o2 with
        | none =>
          go_enter Try.func29, Try.ntmps29
          go_wp2_with (first
              | (go_at_call 11; first | (refine (hs1 W0).mono ?_; rintro en w1 ⟨rfl, hb1⟩; clear hs1) | (refine (hs2 w1).mono ?_; rintro en w2 ⟨rfl, hb2⟩; have hb02 := hb1.trans (hb2.mono hb1.size); have hA' := hA w2 hb02; clear hA))
              | (go_at_call 41; first | (refine hA'.mono ?_; rintro en w3 ⟨rfl, hb3⟩; have hb03 := hb02.trans (hb3.mono hb02.size); have hB' := hB w3 hb03; clear hB hA') | (refine hB'.mono ?_; rintro en w4 ⟨rfl, hb4⟩; have hb04 := hb03.trans (hb4.mono hb03.size))))
          refine bodyPost_ret (results_tmp2 rfl _ _ _) rfl ?_
          exact ⟨rfl, hfin _ hb04⟩
        | some q =>
          go_enter Try.func29, Try.ntmps29
          go_wp2_with (first
              | (go_at_call 11; first | (refine (hs1 W0).mono ?_; rintro en w1 ⟨rfl, hb1⟩; clear hs1) | (refine (hs2 w1).mono ?_; rintro en w2 ⟨rfl, hb2⟩; have hb02 := hb1.trans (hb2.mono hb1.size); have hA' := hA w2 hb02; clear hA))
              | (go_at_call 41; first | (refine hA'.mono ?_; rintro en w3 ⟨rfl, hb3⟩; have hb03 := hb02.trans (hb3.mono hb02.size); have hB' := hB w3 hb03; clear hB hA') | (refine hB'.mono ?_; rintro en w4 ⟨rfl, hb4⟩; have hb04 := hb03.trans (hb4.mono hb03.size))))
          refine bodyPost_ret (results_tmp2 rfl _ _ _) rfl ?_
          exact ⟨rfl, hfin _ hb04⟩
      | some p =>
        cases o2 with
        | none =>
          go_enter Try.func29, Try.ntmps29
          go_wp2_with (first
              | (go_at_call 11; first | (refine (hs1 W0).mono ?_; rintro en w1 ⟨rfl, hb1⟩; clear hs1) | (refine (hs2 w1).mono ?_; rintro en w2 ⟨rfl, hb2⟩; have hb02 := hb1.trans (hb2.mono hb1.size); have hA' := hA w2 hb02; clear hA))
              | (go_at_call 41; first | (refine hA'.mono ?_; rintro en w3 ⟨rfl, hb3⟩; have hb03 := hb02.trans (hb3.mono hb02.size); have hB' := hB w3 hb03; clear hB hA') | (refine hB'.mono ?_; rintro en w4 ⟨rfl, hb4⟩; have hb04 := hb03.trans (hb4.mono hb03.size))))
          refine bodyPost_ret (results_tmp2 rfl _ _ _) rfl ?_
          exact ⟨rfl, hfin _ hb04⟩
        | some q =>
          dsimp only
          by_cases hpq : p = q
          · rw [if_pos hpq]
            subst hpq
            go_enter Try.func29, Try.ntmps29
            go_wp2_with (first
              | (go_at_call 11; first | (refine (hs1 W0).mono ?_; rintro en w1 ⟨rfl, hb1⟩; clear hs1) | (refine (hs2 w1).mono ?_; rintro en w2 ⟨rfl, hb2⟩; have hb02 := hb1.trans (hb2.mono hb1.size); have hA' := hA w2 hb02; clear hA))
              | (go_at_call 41; first | (refine hA'.mono ?_; rintro en w3 ⟨rfl, hb3⟩; have hb03 := hb02.trans (hb3.mono hb02.size); have hB' := hB w3 hb03; clear hB hA') | (refine hB'.mono ?_; rintro en w4 ⟨rfl, hb4⟩; have hb04 := hb03.trans (hb4.mono hb03.size))))
            refine bodyPost_ret (results_tmp2 rfl _ _ _) rfl ?_
            exact ⟨rfl, hfin _ hb04⟩
          · rw [if_neg hpq]
            have hpq' : ((p : Int) != (q : Int)) = true := by simp; omega
            go_enter Try.func29, Try.ntmps29
            go_wp2_with (first
              | (go_at_call 11; first | (refine (hs1 W0).mono ?_; rintro en w1 ⟨rfl, hb1⟩; clear hs1) | (refine (hs2 w1).mono ?_; rintro en w2 ⟨rfl, hb2⟩; have hb02 := hb1.trans (hb2.mono hb1.size); have hA' := hA w2 hb02; clear hA))
              | (go_at_call 41; first | (refine hA'.mono ?_; rintro en w3 ⟨rfl, hb3⟩; have hb03 := hb02.trans (hb3.mono hb02.size); have hB' := hB w3 hb03; clear hB hA') | (refine hB'.mono ?_; rintro en w4 ⟨rfl, hb4⟩; have hb04 := hb03.trans (hb4.mono hb03.size))))
            refine bodyPost_ret (results_tmp2 rfl _ _ _) rfl ?_
            exact ⟨rfl, hfin _ hb04⟩
end Go.Proofs.Ytbjbiimkhpfieaa
