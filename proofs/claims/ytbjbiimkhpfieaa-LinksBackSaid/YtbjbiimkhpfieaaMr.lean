/- The law LinksBack by a walk: where there are links. No conditions. -/
import Derived.Test.YtbjbiimkhpfieaaMq
namespace Go.Proofs.Ytbjbiimkhpfieaa
open Go Go.RowKit Go.Sx
theorem far_facts {a b c d e f g X Z W D x z k d1 d2 dx dz ex ez : Int} {rows : List (List V3)} {m : Nat} (ho : gridOk X Z W D rows) (hd1 : stepD d1 = some (dx, dz)) (hd2 : stepD d2 = some (ex, ez)) (h : diagF (lkF a b c d e f g) (colOf X Z W D rows) x z k d1 d2 = some m) :
    ∃ kn : Nat, k = kn ∧ diagF (lkF a b c d e f g) (colOf X Z W D rows) (x + dx + ex) (z + dz + ez) m ((d1 + 2) % 4) ((d2 + 2) % 4) = some kn ∧ diagF (lkF a b c d e f g) (colOf X Z W D rows) x z k d2 d1 = some m := by
  obtain ⟨h1, h2, h3⟩ := diagF_back (fun _ _ => lkF_comm ..) (lk_one ho) hd1 hd2 h
  exact ⟨k.toNat, by omega, h2, h3⟩
theorem mod_facts {d : Int} (h0 : 0 ≤ d) (h3 : d ≤ 3) : ∃ t e : Int, wrap64 (d + 2) = t ∧ IntKind.i64.wrap (d + 2) = t ∧ Int.tmod t 4 = e ∧ wrap64 e = e ∧ IntKind.i64.wrap e = e ∧ (d + 2) % 4 = e := by
  obtain ⟨a1, a2⟩ := w64e (n := d + 2) (by omega) (by omega)
  obtain ⟨a3, a4⟩ := w64e (n := (d + 2) % 4) (by omega) (by omega)
  exact ⟨d + 2, (d + 2) % 4, a1, a2, by rw [Int.tmod_eq_emod_of_nonneg (by omega)], a3, a4, rfl⟩
set_option maxHeartbeats 8000000 in
set_option maxRecDepth 100000 in
theorem back_in (a b c d e f g X Z W D x z k d1 d2 : Int) (rows : List (List V3)) (A : Option Addr) (cap : Nat) (w : World) (hr : RowsAt w w.heap.size A rows) (hl : lensOk rows)
    (hgp : ¬ greatP W D rows) (hv : checkRF a b c d e f g = 0) (ho : gridOk X Z W D rows) (kx : -100 ≤ x ∧ x ≤ 100) (kz : -100 ≤ z ∧ z ≤ 100) (dx dz ex ez : Int) (hd1 : stepD d1 = some (dx, dz)) (hd2 : stepD d2 = some (ex, ez)) :
    Calls Try.prog 3 #[cfgv a b c d e f g, gridv X Z W D A rows.length cap, .int .i64 x, .int .i64 z, .int .i64 k, .int .i64 d1, .int .i64 d2] w fun en w' => en = .returned (.bool true) ∧ Below w.heap.size w w' := by
  obtain ⟨W0, hW0⟩ : ∃ W0, (w.alloc (.cells #[.int .i64 a, .int .i64 b, .int .i64 c, .int .i64 d, .int .i64 e, .int .i64 f, .int .i64 g] 23)).alloc (.cells #[.int .i64 X, .int .i64 Z, .int .i64 W, .int .i64 D, .slice A rows.length cap] 26) = W0 := ⟨_, rfl⟩
  have hb0 : Below w.heap.size w W0 := by rw [← hW0]; exact ((Below.refl _ _).alloc (Nat.le_refl _) _).alloc (by simp) _
  have hz0 : w.heap.size + 2 ≤ W0.heap.size := by rw [← hW0]; simp
  have hc0 : C12 w.heap.size (w.heap.size + 1) a b c d e f g X Z W D A rows.length cap W0 := by rw [← hW0]; exact C12.new ..
  have hC : ∀ {W' : World}, Below W0.heap.size W0 W' → C12 w.heap.size (w.heap.size + 1) a b c d e f g X Z W D A rows.length cap W' := fun h => hc0.below h (by omega) (by omega)
  have up : ∀ {W' : World}, Below W0.heap.size W0 W' → Below w.heap.size w W' := fun h => hb0.trans (h.mono hb0.size)
  have on : ∀ {W' W'' : World}, Below W0.heap.size W0 W' → Below W'.heap.size W' W'' → Below W0.heap.size W0 W'' := fun h h' => h.trans (h'.mono h.size)
  have hRo : ∀ {W' : World}, Below W0.heap.size W0 W' → RowsAt W' W'.heap.size A rows := fun h => (hr.below (up h)).more (up h).size
  have hWk : ∀ {W' : World}, Below W0.heap.size W0 W' → Calls Try.prog 10 #[] W' fun en w' => en = .returned (.bool true) ∧ Below W0.heap.size W0 w' := fun h => (wakes_any _).mono fun _ _ h' => ⟨h'.1, on h h'.2⟩
  have hB := Below.refl W0.heap.size W0
  unfold cfgv gridv
  obtain ⟨_, m1, m2, m3, m4, m5, m6⟩ := stepD_opp hd1
  obtain ⟨_, n1, n2, n3, n4, n5, n6⟩ := stepD_opp hd2
  have hGr : ∀ {W' : World}, Below W0.heap.size W0 W' → Calls Try.prog 7 #[.agg #[.int .i64 X, .int .i64 Z, .int .i64 W, .int .i64 D, .slice A rows.length cap]] W' fun en w' => en = .returned (.bool false) ∧ Below W0.heap.size W0 w' := fun h => (great_any X Z W D rows A cap _ (hRo h) hl).mono fun _ _ h' => ⟨h'.1.ff hgp, on h h'.2⟩
  have hCk : ∀ {W' : World}, Below W0.heap.size W0 W' → Calls Try.prog 8 #[.agg #[.int .i64 a, .int .i64 b, .int .i64 c, .int .i64 d, .int .i64 e, .int .i64 f, .int .i64 g]] W' fun en w' => en = .returned (.int .i64 (checkRF a b c d e f g)) ∧ Below W0.heap.size W0 w' := fun h => (rchk_any a b c d e f g _).mono fun _ _ h' => ⟨h'.1, on h h'.2⟩
  rw [hv] at hCk
  have hRc : ∀ {W' : World}, Below W0.heap.size W0 W' → Calls Try.prog 9 #[.agg #[.int .i64 X, .int .i64 Z, .int .i64 W, .int .i64 D, .slice A rows.length cap]] W' fun en w' => en = .returned (.int .i64 0) ∧ Below W0.heap.size W0 w' := fun h => (rcheck_any X Z W D rows A cap _ (hRo h) hl).mono fun _ _ h' => ⟨h'.1.zero ho, on h h'.2⟩
  have hS1 : ∀ {W' : World}, Below W0.heap.size W0 W' → Calls Try.prog 11 #[.int .i64 d1] W' fun en w' => en = .returned (.tuple #[.int .i64 dx, .int .i64 dz, .bool true]) ∧ Below W0.heap.size W0 w' := fun h => (step_any d1 _).mono fun _ _ h' => ⟨by have h1 := h'.1; rw [hd1] at h1; exact h1, on h h'.2⟩
  have hS2 : ∀ {W' : World}, Below W0.heap.size W0 W' → Calls Try.prog 11 #[.int .i64 d2] W' fun en w' => en = .returned (.tuple #[.int .i64 ex, .int .i64 ez, .bool true]) ∧ Below W0.heap.size W0 w' := fun h => (step_any d2 _).mono fun _ _ h' => ⟨by have h1 := h'.1; rw [hd2] at h1; exact h1, on h h'.2⟩
  have key : ∃ o1 o2 : Option Nat, (∀ n, o1 = some n → checkF a b c d e f g = 0 ∧ toF (lkF a b c d e f g) (colOf X Z W D rows) x z k d1 = some n) ∧ (∀ m, o2 = some m → checkF a b c d e f g = 0 ∧ diagF (lkF a b c d e f g) (colOf X Z W D rows) x z k d1 d2 = some m) ∧
      (checkF a b c d e f g = 0 → toF (lkF a b c d e f g) (colOf X Z W D rows) x z k d1 = o1 ∧ diagF (lkF a b c d e f g) (colOf X Z W D rows) x z k d1 d2 = o2) ∧ (¬ checkF a b c d e f g = 0 → o1 = none ∧ o2 = none) := by
    by_cases hk : checkF a b c d e f g = 0
    · exact ⟨_, _, (fun n h => ⟨hk, h⟩), (fun n h => ⟨hk, h⟩), fun _ => ⟨rfl, rfl⟩, fun h => absurd hk h⟩
    · exact ⟨none, none, (fun n h => by cases h), (fun n h => by cases h), fun h => absurd h hk, fun _ => ⟨rfl, rfl⟩⟩
  obtain ⟨o1, o2, hs1, hs2, hky, hkn⟩ := key
  have hT : ∀ {W' : World}, Below W0.heap.size W0 W' → Calls Try.prog 12 #[.agg #[.int .i64 a, .int .i64 b, .int .i64 c, .int .i64 d, .int .i64 e, .int .i64 f, .int .i64 g], .agg #[.int .i64 X, .int .i64 Z, .int .i64 W, .int .i64 D, .slice A rows.length cap], .int .i64 x, .int .i64 z, .int .i64 k, .int .i64 d1] W' fun en w' => OptRet en o1 ∧ Below W0.heap.size W0 w' := fun h => (lto_any a b c d e f g X Z W D x z k d1 rows A cap _ (hRo h) hl (by omega) (by omega)).mono fun _ _ h' => ⟨by
    by_cases hk : checkF a b c d e f g = 0
    · rw [← (hky hk).1]; exact h'.1.1 ⟨hk, ho⟩
    · rw [(hkn hk).1]; exact h'.1.2 fun h => hk h.1, on h h'.2⟩
  have hD : ∀ {W' : World}, Below W0.heap.size W0 W' → Calls Try.prog 15 #[.agg #[.int .i64 a, .int .i64 b, .int .i64 c, .int .i64 d, .int .i64 e, .int .i64 f, .int .i64 g], .agg #[.int .i64 X, .int .i64 Z, .int .i64 W, .int .i64 D, .slice A rows.length cap], .int .i64 x, .int .i64 z, .int .i64 k, .int .i64 d1, .int .i64 d2] W' fun en w' => OptRet en o2 ∧ Below W0.heap.size W0 w' := fun h => (ldiag_any a b c d e f g X Z W D x z k d1 d2 rows A cap _ (hRo h) hl (by omega) (by omega)).mono fun _ _ h' => ⟨by
    by_cases hk : checkF a b c d e f g = 0
    · rw [← (hky hk).2]; exact h'.1.1 ⟨hk, ho⟩
    · rw [(hkn hk).2]; exact h'.1.2 fun h => hk h.1, on h h'.2⟩
  clear hky hkn
  obtain ⟨t1, e1, a1, a2, a3, a4, a5, a6⟩ := mod_facts m1 m2
  obtain ⟨t2, e2, b1, b2, b3, b4, b5, b6⟩ := mod_facts n1 n2
  obtain ⟨xd, hxd⟩ : ∃ v, x + dx = v := ⟨_, rfl⟩
  obtain ⟨zd, hzd⟩ : ∃ v, z + dz = v := ⟨_, rfl⟩
  obtain ⟨xe, hxe⟩ : ∃ v, xd + ex = v := ⟨_, rfl⟩
  obtain ⟨ze, hze⟩ : ∃ v, zd + ez = v := ⟨_, rfl⟩
  obtain ⟨c1, c2⟩ := w64e (n := x + dx) (by omega) (by omega)
  obtain ⟨c3, c4⟩ := w64e (n := z + dz) (by omega) (by omega)
  obtain ⟨c5, c6⟩ := w64e (n := xd + ex) (by omega) (by omega)
  obtain ⟨c7, c8⟩ := w64e (n := zd + ez) (by omega) (by omega)
  have rx : -101 ≤ xd ∧ xd ≤ 101 := by omega
  have rz : -101 ≤ zd ∧ zd ≤ 101 := by omega
  have rxe : -102 ≤ xe ∧ xe ≤ 102 := by omega
  have rze : -102 ≤ ze ∧ ze ≤ 102 := by omega
  have hthere : ∀ n, o1 = some n → ∃ kn : Nat, k = kn ∧ kn < (colOf X Z W D rows x z).length ∧ toF (lkF a b c d e f g) (colOf X Z W D rows) xd zd n e1 = some kn ∧
      ∀ hk : kn < (colOf X Z W D rows x z).length, ((colOf X Z W D rows xd zd).filter fun q => lkF a b c d e f g (colOf X Z W D rows x z)[kn] q).length = 1 := fun n h => by
    have h1 := there_facts ho hd1 (hs1 n h).2
    rw [hxd, hzd, a6] at h1
    exact h1
  have hfar : ∀ m, o2 = some m → ∃ kn : Nat, k = kn ∧ diagF (lkF a b c d e f g) (colOf X Z W D rows) xe ze m e1 e2 = some kn ∧ diagF (lkF a b c d e f g) (colOf X Z W D rows) x z k d2 d1 = some m := fun m h => by
    have h1 := far_facts ho hd1 hd2 (hs2 m h).2
    rw [hxd, hzd, hxe, hze, a6, b6] at h1
    exact h1
  rw [hxd] at c1 c2
  rw [hzd] at c3 c4
  rw [hxe] at c5 c6
  rw [hze] at c7 c8
  have c1 : wrap64 (x + dx) = xd := by rw [hxd]; exact c1
  have c2 : IntKind.i64.wrap (x + dx) = xd := by rw [hxd]; exact c2
  have c3 : wrap64 (z + dz) = zd := by rw [hzd]; exact c3
  have c4 : IntKind.i64.wrap (z + dz) = zd := by rw [hzd]; exact c4
  have c5 : wrap64 (xd + ex) = xe := by rw [hxe]; exact c5
  have c6 : IntKind.i64.wrap (xd + ex) = xe := by rw [hxe]; exact c6
  have c7 : wrap64 (zd + ez) = ze := by rw [hze]; exact c7
  have c8 : IntKind.i64.wrap (zd + ez) = ze := by rw [hze]; exact c8
  have q0 : decide (x < -100) = false := decide_eq_false (by omega)
  have q1 : decide (100 < x) = false := decide_eq_false (by omega)
  have q2 : decide (z < -100) = false := decide_eq_false (by omega)
  have q3 : decide (100 < z) = false := decide_eq_false (by omega)
  clear hxd hzd hxe hze a6 b6 hd1 hd2
  replace ho := Lib.hid ho
  cases o1 with
  | none =>
    replace hT : ∀ {W' : World}, Below W0.heap.size W0 W' → Calls Try.prog 12 #[.agg #[.int .i64 a, .int .i64 b, .int .i64 c, .int .i64 d, .int .i64 e, .int .i64 f, .int .i64 g], .agg #[.int .i64 X, .int .i64 Z, .int .i64 W, .int .i64 D, .slice A rows.length cap], .int .i64 x, .int .i64 z, .int .i64 k, .int .i64 d1] W' fun en w' => en = .returned (.tuple #[.int .i64 0, .bool false]) ∧ Below W0.heap.size W0 w' := hT
    clear hthere hs1
    cases o2 with
    | none =>
      replace hD : ∀ {W' : World}, Below W0.heap.size W0 W' → Calls Try.prog 15 #[.agg #[.int .i64 a, .int .i64 b, .int .i64 c, .int .i64 d, .int .i64 e, .int .i64 f, .int .i64 g], .agg #[.int .i64 X, .int .i64 Z, .int .i64 W, .int .i64 D, .slice A rows.length cap], .int .i64 x, .int .i64 z, .int .i64 k, .int .i64 d1, .int .i64 d2] W' fun en w' => en = .returned (.tuple #[.int .i64 0, .bool false]) ∧ Below W0.heap.size W0 w' := hD
      replace hfar := Lib.hid hfar
      clear hs2
      go_enter Try.func3, Try.ntmps3
      obtain ⟨s0, s1, s2, s3, s4, s5, s6, s7, s8, s9, s10, s11⟩ := hC hB
      go_wp2_with (first | (go_at_call 7; refine (hGr hB).mono ?_; rintro en w1 ⟨rfl, hB⟩; clear s0 s1 s2 s3 s4 s5 s6 s7 s8 s9 s10 s11; obtain ⟨s0, s1, s2, s3, s4, s5, s6, s7, s8, s9, s10, s11⟩ := hC hB; clear hGr) | (go_at_call 8; refine (hCk hB).mono ?_; rintro en w1 ⟨rfl, hB⟩; clear s0 s1 s2 s3 s4 s5 s6 s7 s8 s9 s10 s11; obtain ⟨s0, s1, s2, s3, s4, s5, s6, s7, s8, s9, s10, s11⟩ := hC hB; clear hCk) | (go_at_call 9; refine (hRc hB).mono ?_; rintro en w1 ⟨rfl, hB⟩; clear s0 s1 s2 s3 s4 s5 s6 s7 s8 s9 s10 s11; obtain ⟨s0, s1, s2, s3, s4, s5, s6, s7, s8, s9, s10, s11⟩ := hC hB; clear hRc) | (go_at_call 11; refine (hS1 hB).mono ?_; rintro en w1 ⟨rfl, hB⟩; clear s0 s1 s2 s3 s4 s5 s6 s7 s8 s9 s10 s11; obtain ⟨s0, s1, s2, s3, s4, s5, s6, s7, s8, s9, s10, s11⟩ := hC hB; clear hS1) | (go_at_call 11; refine (hS2 hB).mono ?_; rintro en w1 ⟨rfl, hB⟩; clear s0 s1 s2 s3 s4 s5 s6 s7 s8 s9 s10 s11; obtain ⟨s0, s1, s2, s3, s4, s5, s6, s7, s8, s9, s10, s11⟩ := hC hB; clear hS2) | (go_at_call 12; refine (hT hB).mono ?_; rintro en w1 ⟨rfl, hB⟩; clear s0 s1 s2 s3 s4 s5 s6 s7 s8 s9 s10 s11; obtain ⟨s0, s1, s2, s3, s4, s5, s6, s7, s8, s9, s10, s11⟩ := hC hB; clear hT) | (go_at_call 15; refine (hD hB).mono ?_; rintro en w1 ⟨rfl, hB⟩; clear s0 s1 s2 s3 s4 s5 s6 s7 s8 s9 s10 s11; obtain ⟨s0, s1, s2, s3, s4, s5, s6, s7, s8, s9, s10, s11⟩ := hC hB; clear hD) | (go_at_call 10; refine (hWk hB).mono ?_; rintro en w1 ⟨rfl, hB⟩; clear s0 s1 s2 s3 s4 s5 s6 s7 s8 s9 s10 s11; obtain ⟨s0, s1, s2, s3, s4, s5, s6, s7, s8, s9, s10, s11⟩ := hC hB; clear hWk))
      go_ret
      exact ⟨rfl, up hB⟩
    | some m =>
      obtain ⟨kn', hkk, hf1, hf2⟩ := hfar m rfl
      have hk2 := (hs2 m rfl).1
      subst hkk
      replace hD : ∀ {W' : World}, Below W0.heap.size W0 W' → Calls Try.prog 15 #[.agg #[.int .i64 a, .int .i64 b, .int .i64 c, .int .i64 d, .int .i64 e, .int .i64 f, .int .i64 g], .agg #[.int .i64 X, .int .i64 Z, .int .i64 W, .int .i64 D, .slice A rows.length cap], .int .i64 x, .int .i64 z, .int .i64 (kn' : Int), .int .i64 d1, .int .i64 d2] W' fun en w' => en = .returned (.tuple #[.int .i64 m, .bool true]) ∧ Below W0.heap.size W0 w' := hD
      have hD2 : ∀ {W' : World}, Below W0.heap.size W0 W' → Calls Try.prog 15 #[.agg #[.int .i64 a, .int .i64 b, .int .i64 c, .int .i64 d, .int .i64 e, .int .i64 f, .int .i64 g], .agg #[.int .i64 X, .int .i64 Z, .int .i64 W, .int .i64 D, .slice A rows.length cap], .int .i64 xe, .int .i64 ze, .int .i64 m, .int .i64 e1, .int .i64 e2] W' fun en w' => en = .returned (.tuple #[.int .i64 kn', .bool true]) ∧ Below W0.heap.size W0 w' := fun h => (ldiag_any a b c d e f g X Z W D xe ze m e1 e2 rows A cap _ (hRo h) hl (by omega) (by omega)).mono fun _ _ h' => ⟨by have h1 := h'.1.1 ⟨hk2, ho.out⟩; rw [hf1] at h1; exact h1, on h h'.2⟩
      have hD3 : ∀ {W' : World}, Below W0.heap.size W0 W' → Calls Try.prog 15 #[.agg #[.int .i64 a, .int .i64 b, .int .i64 c, .int .i64 d, .int .i64 e, .int .i64 f, .int .i64 g], .agg #[.int .i64 X, .int .i64 Z, .int .i64 W, .int .i64 D, .slice A rows.length cap], .int .i64 x, .int .i64 z, .int .i64 (kn' : Int), .int .i64 d2, .int .i64 d1] W' fun en w' => en = .returned (.tuple #[.int .i64 m, .bool true]) ∧ Below W0.heap.size W0 w' := fun h => (ldiag_any a b c d e f g X Z W D x z kn' d2 d1 rows A cap _ (hRo h) hl (by omega) (by omega)).mono fun _ _ h' => ⟨by have h1 := h'.1.1 ⟨hk2, ho.out⟩; rw [hf2] at h1; exact h1, on h h'.2⟩
      replace hfar := Lib.hid hfar
      clear hf1 hf2
      replace hk2 := Lib.hid hk2
      clear hs2
      go_enter Try.func3, Try.ntmps3
      obtain ⟨s0, s1, s2, s3, s4, s5, s6, s7, s8, s9, s10, s11⟩ := hC hB
      go_wp2_with (first | (go_at_call 7; refine (hGr hB).mono ?_; rintro en w1 ⟨rfl, hB⟩; clear s0 s1 s2 s3 s4 s5 s6 s7 s8 s9 s10 s11; obtain ⟨s0, s1, s2, s3, s4, s5, s6, s7, s8, s9, s10, s11⟩ := hC hB; clear hGr) | (go_at_call 8; refine (hCk hB).mono ?_; rintro en w1 ⟨rfl, hB⟩; clear s0 s1 s2 s3 s4 s5 s6 s7 s8 s9 s10 s11; obtain ⟨s0, s1, s2, s3, s4, s5, s6, s7, s8, s9, s10, s11⟩ := hC hB; clear hCk) | (go_at_call 9; refine (hRc hB).mono ?_; rintro en w1 ⟨rfl, hB⟩; clear s0 s1 s2 s3 s4 s5 s6 s7 s8 s9 s10 s11; obtain ⟨s0, s1, s2, s3, s4, s5, s6, s7, s8, s9, s10, s11⟩ := hC hB; clear hRc) | (go_at_call 11; refine (hS1 hB).mono ?_; rintro en w1 ⟨rfl, hB⟩; clear s0 s1 s2 s3 s4 s5 s6 s7 s8 s9 s10 s11; obtain ⟨s0, s1, s2, s3, s4, s5, s6, s7, s8, s9, s10, s11⟩ := hC hB; clear hS1) | (go_at_call 11; refine (hS2 hB).mono ?_; rintro en w1 ⟨rfl, hB⟩; clear s0 s1 s2 s3 s4 s5 s6 s7 s8 s9 s10 s11; obtain ⟨s0, s1, s2, s3, s4, s5, s6, s7, s8, s9, s10, s11⟩ := hC hB; clear hS2) | (go_at_call 12; refine (hT hB).mono ?_; rintro en w1 ⟨rfl, hB⟩; clear s0 s1 s2 s3 s4 s5 s6 s7 s8 s9 s10 s11; obtain ⟨s0, s1, s2, s3, s4, s5, s6, s7, s8, s9, s10, s11⟩ := hC hB; clear hT) | (go_at_call 15; refine (hD hB).mono ?_; rintro en w1 ⟨rfl, hB⟩; clear s0 s1 s2 s3 s4 s5 s6 s7 s8 s9 s10 s11; obtain ⟨s0, s1, s2, s3, s4, s5, s6, s7, s8, s9, s10, s11⟩ := hC hB; clear hD) | (go_at_call 15; refine (hD2 hB).mono ?_; rintro en w1 ⟨rfl, hB⟩; clear s0 s1 s2 s3 s4 s5 s6 s7 s8 s9 s10 s11; obtain ⟨s0, s1, s2, s3, s4, s5, s6, s7, s8, s9, s10, s11⟩ := hC hB; clear hD2) | (go_at_call 15; refine (hD3 hB).mono ?_; rintro en w1 ⟨rfl, hB⟩; clear s0 s1 s2 s3 s4 s5 s6 s7 s8 s9 s10 s11; obtain ⟨s0, s1, s2, s3, s4, s5, s6, s7, s8, s9, s10, s11⟩ := hC hB; clear hD3) | (go_at_call 10; refine (hWk hB).mono ?_; rintro en w1 ⟨rfl, hB⟩; clear s0 s1 s2 s3 s4 s5 s6 s7 s8 s9 s10 s11; obtain ⟨s0, s1, s2, s3, s4, s5, s6, s7, s8, s9, s10, s11⟩ := hC hB; clear hWk))
      go_ret
      exact ⟨rfl, up hB⟩
  | some n =>
    obtain ⟨kn, rfl, hkn, hback, hcount⟩ := hthere n rfl
    have hk1 := (hs1 n rfl).1
    clear hthere hs1
    have hcount := hcount hkn
    obtain ⟨ad, Ai, ci, ki, hA, hbl, i0, i1, i2, i3, hki, hcell, hrd⟩ := col_in hr ho.out hkn
    replace hT : ∀ {W' : World}, Below W0.heap.size W0 W' → Calls Try.prog 12 #[.agg #[.int .i64 a, .int .i64 b, .int .i64 c, .int .i64 d, .int .i64 e, .int .i64 f, .int .i64 g], .agg #[.int .i64 X, .int .i64 Z, .int .i64 W, .int .i64 D, .slice A rows.length cap], .int .i64 x, .int .i64 z, .int .i64 kn, .int .i64 d1] W' fun en w' => en = .returned (.tuple #[.int .i64 n, .bool true]) ∧ Below W0.heap.size W0 w' := hT
    have hT2 : ∀ {W' : World}, Below W0.heap.size W0 W' → Calls Try.prog 12 #[.agg #[.int .i64 a, .int .i64 b, .int .i64 c, .int .i64 d, .int .i64 e, .int .i64 f, .int .i64 g], .agg #[.int .i64 X, .int .i64 Z, .int .i64 W, .int .i64 D, .slice A rows.length cap], .int .i64 xd, .int .i64 zd, .int .i64 n, .int .i64 e1] W' fun en w' => en = .returned (.tuple #[.int .i64 kn, .bool true]) ∧ Below W0.heap.size W0 w' := fun h => (lto_any a b c d e f g X Z W D xd zd n e1 rows A cap _ (hRo h) hl (by omega) (by omega)).mono fun _ _ h' => ⟨by have h1 := h'.1.1 ⟨hk1, ho.out⟩; rw [hback] at h1; exact h1, on h h'.2⟩
    clear hback
    have hAI : ∀ {W' : World}, Below W0.heap.size W0 W' → Calls Try.prog 13 #[.agg #[.int .i64 X, .int .i64 Z, .int .i64 W, .int .i64 D, .slice A rows.length cap], .int .i64 x, .int .i64 z] W' fun en w' => en = .returned (.slice Ai (colOf X Z W D rows x z).length ci) ∧ Below W'.heap.size W' w' := fun h => by
      subst hA
      exact rat_in X Z W D x z rows ad cap Ai ci _ ki _ (hRo h) hl ho.out i0 i1 i2 i3 hki (Nat.lt_of_lt_of_le hbl (up h).size) (((up h).cell (p := ad.add ki) (by rw [block_of_add]; exact hbl)).trans hcell)
    have hAt : ∀ {W' : World}, Below W0.heap.size W0 W' → Calls Try.prog 13 #[.agg #[.int .i64 X, .int .i64 Z, .int .i64 W, .int .i64 D, .slice A rows.length cap], .int .i64 xd, .int .i64 zd] W' fun en w' => RowRet W' w' en (colOf X Z W D rows xd zd) := fun h => rat_any X Z W D xd zd rows A cap _ (hRo h) hl ho.out (by omega) (by omega)
    have hl2 : (colOf X Z W D rows xd zd).length ≤ 8 := (colOf_ok ho.out _ _).2
    clear hA hcell hki i0 i1 i2 i3 hbl
    generalize colOf X Z W D rows x z = r1 at hkn hcount hrd hAI
    generalize colOf X Z W D rows xd zd = r2 at hcount hAt hl2
    have hkn' : (kn : Int) < (r1.length : Int) := by omega
    obtain ⟨ad1, rfl, hbl1, x0, x1, x2⟩ := v3_at hrd hkn
    generalize hP1 : ad1.add (kn * 3) = P1 at hbl1 x0 x1 x2
    obtain ⟨⟨fx, fy, fz⟩, hfl⟩ : ∃ fl, r1[kn] = fl := ⟨_, rfl⟩
    rw [hfl] at hcount x0 x1 x2
    dsimp only at x0 x1 x2
    have hli := fun (q : V3) (w' : World) => linked_any a b c d e f g ⟨fx, fy, fz⟩ q w'
    unfold cfgv at hli
    dsimp only at hli
    replace hk1 := Lib.hid hk1
    replace hcount := Lib.hid hcount
    clear hfl hrd
    have X0 := fun (W' : World) (h : Below W0.heap.size W0 W') => ((up h).cell hbl1).trans x0
    have X1 := fun (W' : World) (h : Below W0.heap.size W0 W') => ((up h).cell (p := ⟨P1.block, P1.off + 1, none⟩) hbl1).trans x1
    have X2 := fun (W' : World) (h : Below W0.heap.size W0 W') => ((up h).cell (p := ⟨P1.block, P1.off + 2, none⟩) hbl1).trans x2
    clear x0 x1 x2
    have hbl1 : P1.block < w.heap.size := hbl1
    cases o2 with
    | none =>
      replace hD : ∀ {W' : World}, Below W0.heap.size W0 W' → Calls Try.prog 15 #[.agg #[.int .i64 a, .int .i64 b, .int .i64 c, .int .i64 d, .int .i64 e, .int .i64 f, .int .i64 g], .agg #[.int .i64 X, .int .i64 Z, .int .i64 W, .int .i64 D, .slice A rows.length cap], .int .i64 x, .int .i64 z, .int .i64 (kn : Int), .int .i64 d1, .int .i64 d2] W' fun en w' => en = .returned (.tuple #[.int .i64 0, .bool false]) ∧ Below W0.heap.size W0 w' := hD
      replace hfar := Lib.hid hfar
      clear hs2
      go_enter Try.func3, Try.ntmps3
      obtain ⟨s0, s1, s2, s3, s4, s5, s6, s7, s8, s9, s10, s11⟩ := hC hB
      go_wp2_with (first | (go_at_call 7; refine (hGr hB).mono ?_; rintro en w1 ⟨rfl, hB⟩; clear s0 s1 s2 s3 s4 s5 s6 s7 s8 s9 s10 s11; obtain ⟨s0, s1, s2, s3, s4, s5, s6, s7, s8, s9, s10, s11⟩ := hC hB; clear hGr) | (go_at_call 8; refine (hCk hB).mono ?_; rintro en w1 ⟨rfl, hB⟩; clear s0 s1 s2 s3 s4 s5 s6 s7 s8 s9 s10 s11; obtain ⟨s0, s1, s2, s3, s4, s5, s6, s7, s8, s9, s10, s11⟩ := hC hB; clear hCk) | (go_at_call 9; refine (hRc hB).mono ?_; rintro en w1 ⟨rfl, hB⟩; clear s0 s1 s2 s3 s4 s5 s6 s7 s8 s9 s10 s11; obtain ⟨s0, s1, s2, s3, s4, s5, s6, s7, s8, s9, s10, s11⟩ := hC hB; clear hRc) | (go_at_call 11; refine (hS1 hB).mono ?_; rintro en w1 ⟨rfl, hB⟩; clear s0 s1 s2 s3 s4 s5 s6 s7 s8 s9 s10 s11; obtain ⟨s0, s1, s2, s3, s4, s5, s6, s7, s8, s9, s10, s11⟩ := hC hB; clear hS1) | (go_at_call 11; refine (hS2 hB).mono ?_; rintro en w1 ⟨rfl, hB⟩; clear s0 s1 s2 s3 s4 s5 s6 s7 s8 s9 s10 s11; obtain ⟨s0, s1, s2, s3, s4, s5, s6, s7, s8, s9, s10, s11⟩ := hC hB; clear hS2) | (go_at_call 12; refine (hT hB).mono ?_; rintro en w1 ⟨rfl, hB⟩; clear s0 s1 s2 s3 s4 s5 s6 s7 s8 s9 s10 s11; obtain ⟨s0, s1, s2, s3, s4, s5, s6, s7, s8, s9, s10, s11⟩ := hC hB; clear hT) | (go_at_call 12; refine (hT2 hB).mono ?_; rintro en w1 ⟨rfl, hB⟩; clear s0 s1 s2 s3 s4 s5 s6 s7 s8 s9 s10 s11; obtain ⟨s0, s1, s2, s3, s4, s5, s6, s7, s8, s9, s10, s11⟩ := hC hB; clear hT2) | (go_at_call 13; refine (hAt hB).mono ?_; rintro en w8 ⟨A3, c3, rfl, hrd3, hb8⟩; have hB8 := on hB hb8; have hB := hB8; clear s0 s1 s2 s3 s4 s5 s6 s7 s8 s9 s10 s11; obtain ⟨s0, s1, s2, s3, s4, s5, s6, s7, s8, s9, s10, s11⟩ := hC hB; clear hAt))
      have hX0 := Lib.hid X0
      have hX1 := Lib.hid X1
      have hX2 := Lib.hid X2
      clear X0 X1 X2
      go_loopw [25, 125] (fun cn xi wr => ∃ i : Nat, xi = .int .i64 i ∧ i ≤ r2.length ∧ cn = .int .i64 ((r2.take i).filter fun q => lkF a b c d e f g ⟨fx, fy, fz⟩ q).length ∧ Below w8.heap.size w8 wr)
        (fun _ xi _ => r2.length - (intOf xi).toNat)
      case atStart => exact ⟨0, rfl, Nat.zero_le _, rfl, Below.refl _ _⟩
      case round =>
        obtain ⟨i, rfl, hi, rfl, hb⟩ := hrel
        have hBr := on hB8 hb
        clear s0 s1 s2 s3 s4 s5 s6 s7 s8 s9 s10 s11
        by_cases hin : i < r2.length
        · obtain ⟨ad3, rfl, hbl3, y0, y1, y2⟩ := v3_at (hrd3.below hb) hin
          generalize hP3 : ad3.add (i * 3) = P3 at hbl3 y0 y1 y2
          have htk : ((r2.take (i + 1)).filter (fun q => lkF a b c d e f g ⟨fx, fy, fz⟩ q)).length = ((r2.take i).filter (fun q => lkF a b c d e f g ⟨fx, fy, fz⟩ q)).length + (if lkF a b c d e f g ⟨fx, fy, fz⟩ r2[i] then 1 else 0) := by
            rw [List.take_succ_eq_append_getElem hin, List.filter_append, List.length_append]
            congr 1
            by_cases hh : lkF a b c d e f g ⟨fx, fy, fz⟩ r2[i] = true
            · simp [hh]
            · simp [hh]
          have hcl : ((r2.take i).filter fun q => lkF a b c d e f g ⟨fx, fy, fz⟩ q).length ≤ 8 := Nat.le_trans (List.length_filter_le _ _) (by rw [List.length_take]; omega)
          generalize hgl : r2[i] = gl at htk y0 y1 y2
          obtain ⟨gx, gy, gz⟩ := gl
          dsimp only at y0 y1 y2
          have hin' : (i : Int) < (r2.length : Int) := by omega
          have hlg := hli ⟨gx, gy, gz⟩
          dsimp only at hlg
          generalize lkF a b c d e f g ⟨fx, fy, fz⟩ ⟨gx, gy, gz⟩ = lb at htk hlg
          generalize ((r2.take i).filter fun q => lkF a b c d e f g ⟨fx, fy, fz⟩ q).length = cnt0 at hcl htk
          replace htk := Lib.hid htk
          clear hgl
          obtain ⟨Wf, hWf⟩ : ∃ Wf, wr.alloc (.cells #[.int .i64 gx, .int .i64 gy, .int .i64 gz] 39) = Wf := ⟨_, rfl⟩
          have hS : S18 w.heap.size (w.heap.size + 1) a b c d e f g X Z W D A rows.length cap P1 fx fy fz wr.heap.size gx gy gz W0 w8 Wf := by
            have hba : Below wr.heap.size wr Wf := by rw [← hWf]; exact (Below.refl _ _).alloc (Nat.le_refl _) _
            have hz : wr.heap.size < Wf.heap.size := by rw [← hWf]; simp
            obtain ⟨N0, N1, N2⟩ := box3 hWf rfl
            have hBf := on hBr hba
            obtain ⟨T0, T1, T2, T3, T4, T5, T6, T7, T8, T9, T10, T11⟩ := hC hBf
            have z8 := hb.size
            have zf := hBf.size
            exact ⟨T0, T1, T2, T3, T4, T5, T6, T7, T8, T9, T10, T11, hX0.out _ hBf, hX1.out _ hBf, hX2.out _ hBf, N0, N1, N2, hBf, hb.trans (hba.mono hb.size), by omega, by omega, by omega, hz, by omega, by omega⟩
          have hAI' : ∀ {W' : World}, S18 w.heap.size (w.heap.size + 1) a b c d e f g X Z W D A rows.length cap P1 fx fy fz wr.heap.size gx gy gz W0 w8 W' → _ := fun {W'} h => hAI (W' := W') h.b0
          obtain ⟨s0, s1, s2, s3, s4, s5, s6, s7, s8, s9, s10, s11⟩ := hC hBr
          go_wp2
          go_region_held3 (fun w' => w'.cell? ⟨w.heap.size, 0, none⟩ = some (.int .i64 a) ∧ w'.cell? ⟨w.heap.size, 1, none⟩ = some (.int .i64 b) ∧ w'.cell? ⟨w.heap.size, 2, none⟩ = some (.int .i64 c) ∧ w'.cell? ⟨w.heap.size, 3, none⟩ = some (.int .i64 d) ∧ w'.cell? ⟨w.heap.size, 4, none⟩ = some (.int .i64 e) ∧ w'.cell? ⟨w.heap.size, 5, none⟩ = some (.int .i64 f) ∧ w'.cell? ⟨w.heap.size, 6, none⟩ = some (.int .i64 g) ∧
                w'.cell? ⟨w.heap.size + 1, 0, none⟩ = some (.int .i64 X) ∧ w'.cell? ⟨w.heap.size + 1, 1, none⟩ = some (.int .i64 Z) ∧ w'.cell? ⟨w.heap.size + 1, 2, none⟩ = some (.int .i64 W) ∧ w'.cell? ⟨w.heap.size + 1, 3, none⟩ = some (.int .i64 D) ∧ w'.cell? ⟨w.heap.size + 1, 4, none⟩ = some (.slice A rows.length cap) ∧
                w'.cell? P1 = some (.int .i64 fx) ∧ w'.cell? ⟨P1.block, P1.off + 1, none⟩ = some (.int .i64 fy) ∧ w'.cell? ⟨P1.block, P1.off + 2, none⟩ = some (.int .i64 fz) ∧ w'.cell? ⟨wr.heap.size, 0, none⟩ = some (.int .i64 gx) ∧ w'.cell? ⟨wr.heap.size, 1, none⟩ = some (.int .i64 gy) ∧ w'.cell? ⟨wr.heap.size, 2, none⟩ = some (.int .i64 gz) ∧
                (Below W0.heap.size W0 w' ∧ Below w8.heap.size w8 w' ∧ w.heap.size < w'.heap.size ∧ w.heap.size + 1 < w'.heap.size ∧ P1.block < w'.heap.size ∧ wr.heap.size < w'.heap.size ∧ W0.heap.size ≤ w'.heap.size ∧ w8.heap.size ≤ w'.heap.size))
            (first | exact hS | exact S18.keep hS ((Below.refl _ _).drew) | exact S18.keep (by assumption) (by assumption))
            (first | (go_at_call 14; refine (hlg _).mono ?_; rintro en w5 ⟨rfl, hb5⟩) | (go_at_call 13; refine (hAI' (by assumption)).mono ?_; rintro en w6 ⟨rfl, hb6⟩))
          have hS5 : S18 w.heap.size (w.heap.size + 1) a b c d e f g X Z W D A rows.length cap P1 fx fy fz wr.heap.size gx gy gz W0 w8 w5 := by assumption
          have hb85 : Below w8.heap.size w8 w5 := hS5.b8
          cases lb with
          | true =>
            go_wp2
            go_roundw
            case rel => exact ⟨i + 1, by go_num, by omega, by rw [htk.out, if_pos rfl]; go_num, hb85⟩
            case measure => show r2.length - ((i : Int) + 1).toNat < r2.length - ((i : Int)).toNat; omega
          | false =>
            go_wp2
            go_roundw
            case rel => exact ⟨i + 1, by go_num, by omega, by rw [htk.out]; simp, hb85⟩
            case measure => show r2.length - ((i : Int) + 1).toNat < r2.length - ((i : Int)).toNat; omega
        · have hie : i = r2.length := by omega
          subst hie
          have h1 := hcount.out
          have htl : ((r2.take r2.length).filter fun q => lkF a b c d e f g ⟨fx, fy, fz⟩ q).length = 1 := by rw [List.take_length]; exact h1
          rw [htl]
          have hB := hBr
          obtain ⟨s0, s1, s2, s3, s4, s5, s6, s7, s8, s9, s10, s11⟩ := hC hB
          clear htl h1
          go_wp2_with (first | (go_at_call 15; refine (hD hB).mono ?_; rintro en w1 ⟨rfl, hB⟩; clear s0 s1 s2 s3 s4 s5 s6 s7 s8 s9 s10 s11; obtain ⟨s0, s1, s2, s3, s4, s5, s6, s7, s8, s9, s10, s11⟩ := hC hB; clear hD) | (go_at_call 10; refine (hWk hB).mono ?_; rintro en w1 ⟨rfl, hB⟩; clear s0 s1 s2 s3 s4 s5 s6 s7 s8 s9 s10 s11; obtain ⟨s0, s1, s2, s3, s4, s5, s6, s7, s8, s9, s10, s11⟩ := hC hB; clear hWk))
          go_ret
          exact ⟨rfl, up hB⟩
    | some m =>
      obtain ⟨kn', hkk, hf1, hf2⟩ := hfar m rfl
      have hk2 := (hs2 m rfl).1
      obtain rfl : kn = kn' := by omega
      clear hkk
      replace hD : ∀ {W' : World}, Below W0.heap.size W0 W' → Calls Try.prog 15 #[.agg #[.int .i64 a, .int .i64 b, .int .i64 c, .int .i64 d, .int .i64 e, .int .i64 f, .int .i64 g], .agg #[.int .i64 X, .int .i64 Z, .int .i64 W, .int .i64 D, .slice A rows.length cap], .int .i64 x, .int .i64 z, .int .i64 (kn : Int), .int .i64 d1, .int .i64 d2] W' fun en w' => en = .returned (.tuple #[.int .i64 m, .bool true]) ∧ Below W0.heap.size W0 w' := hD
      have hD2 : ∀ {W' : World}, Below W0.heap.size W0 W' → Calls Try.prog 15 #[.agg #[.int .i64 a, .int .i64 b, .int .i64 c, .int .i64 d, .int .i64 e, .int .i64 f, .int .i64 g], .agg #[.int .i64 X, .int .i64 Z, .int .i64 W, .int .i64 D, .slice A rows.length cap], .int .i64 xe, .int .i64 ze, .int .i64 m, .int .i64 e1, .int .i64 e2] W' fun en w' => en = .returned (.tuple #[.int .i64 kn, .bool true]) ∧ Below W0.heap.size W0 w' := fun h => (ldiag_any a b c d e f g X Z W D xe ze m e1 e2 rows A cap _ (hRo h) hl (by omega) (by omega)).mono fun _ _ h' => ⟨by have h1 := h'.1.1 ⟨hk2, ho.out⟩; rw [hf1] at h1; exact h1, on h h'.2⟩
      have hD3 : ∀ {W' : World}, Below W0.heap.size W0 W' → Calls Try.prog 15 #[.agg #[.int .i64 a, .int .i64 b, .int .i64 c, .int .i64 d, .int .i64 e, .int .i64 f, .int .i64 g], .agg #[.int .i64 X, .int .i64 Z, .int .i64 W, .int .i64 D, .slice A rows.length cap], .int .i64 x, .int .i64 z, .int .i64 (kn : Int), .int .i64 d2, .int .i64 d1] W' fun en w' => en = .returned (.tuple #[.int .i64 m, .bool true]) ∧ Below W0.heap.size W0 w' := fun h => (ldiag_any a b c d e f g X Z W D x z kn d2 d1 rows A cap _ (hRo h) hl (by omega) (by omega)).mono fun _ _ h' => ⟨by have h1 := h'.1.1 ⟨hk2, ho.out⟩; rw [hf2] at h1; exact h1, on h h'.2⟩
      replace hfar := Lib.hid hfar
      clear hf1 hf2
      replace hk2 := Lib.hid hk2
      clear hs2
      go_enter Try.func3, Try.ntmps3
      obtain ⟨s0, s1, s2, s3, s4, s5, s6, s7, s8, s9, s10, s11⟩ := hC hB
      go_wp2_with (first | (go_at_call 7; refine (hGr hB).mono ?_; rintro en w1 ⟨rfl, hB⟩; clear s0 s1 s2 s3 s4 s5 s6 s7 s8 s9 s10 s11; obtain ⟨s0, s1, s2, s3, s4, s5, s6, s7, s8, s9, s10, s11⟩ := hC hB; clear hGr) | (go_at_call 8; refine (hCk hB).mono ?_; rintro en w1 ⟨rfl, hB⟩; clear s0 s1 s2 s3 s4 s5 s6 s7 s8 s9 s10 s11; obtain ⟨s0, s1, s2, s3, s4, s5, s6, s7, s8, s9, s10, s11⟩ := hC hB; clear hCk) | (go_at_call 9; refine (hRc hB).mono ?_; rintro en w1 ⟨rfl, hB⟩; clear s0 s1 s2 s3 s4 s5 s6 s7 s8 s9 s10 s11; obtain ⟨s0, s1, s2, s3, s4, s5, s6, s7, s8, s9, s10, s11⟩ := hC hB; clear hRc) | (go_at_call 11; refine (hS1 hB).mono ?_; rintro en w1 ⟨rfl, hB⟩; clear s0 s1 s2 s3 s4 s5 s6 s7 s8 s9 s10 s11; obtain ⟨s0, s1, s2, s3, s4, s5, s6, s7, s8, s9, s10, s11⟩ := hC hB; clear hS1) | (go_at_call 11; refine (hS2 hB).mono ?_; rintro en w1 ⟨rfl, hB⟩; clear s0 s1 s2 s3 s4 s5 s6 s7 s8 s9 s10 s11; obtain ⟨s0, s1, s2, s3, s4, s5, s6, s7, s8, s9, s10, s11⟩ := hC hB; clear hS2) | (go_at_call 12; refine (hT hB).mono ?_; rintro en w1 ⟨rfl, hB⟩; clear s0 s1 s2 s3 s4 s5 s6 s7 s8 s9 s10 s11; obtain ⟨s0, s1, s2, s3, s4, s5, s6, s7, s8, s9, s10, s11⟩ := hC hB; clear hT) | (go_at_call 12; refine (hT2 hB).mono ?_; rintro en w1 ⟨rfl, hB⟩; clear s0 s1 s2 s3 s4 s5 s6 s7 s8 s9 s10 s11; obtain ⟨s0, s1, s2, s3, s4, s5, s6, s7, s8, s9, s10, s11⟩ := hC hB; clear hT2) | (go_at_call 13; refine (hAt hB).mono ?_; rintro en w8 ⟨A3, c3, rfl, hrd3, hb8⟩; have hB8 := on hB hb8; have hB := hB8; clear s0 s1 s2 s3 s4 s5 s6 s7 s8 s9 s10 s11; obtain ⟨s0, s1, s2, s3, s4, s5, s6, s7, s8, s9, s10, s11⟩ := hC hB; clear hAt))
      have hX0 := Lib.hid X0
      have hX1 := Lib.hid X1
      have hX2 := Lib.hid X2
      clear X0 X1 X2
      go_loopw [25, 125] (fun cn xi wr => ∃ i : Nat, xi = .int .i64 i ∧ i ≤ r2.length ∧ cn = .int .i64 ((r2.take i).filter fun q => lkF a b c d e f g ⟨fx, fy, fz⟩ q).length ∧ Below w8.heap.size w8 wr)
        (fun _ xi _ => r2.length - (intOf xi).toNat)
      case atStart => exact ⟨0, rfl, Nat.zero_le _, rfl, Below.refl _ _⟩
      case round =>
        obtain ⟨i, rfl, hi, rfl, hb⟩ := hrel
        have hBr := on hB8 hb
        clear s0 s1 s2 s3 s4 s5 s6 s7 s8 s9 s10 s11
        by_cases hin : i < r2.length
        · obtain ⟨ad3, rfl, hbl3, y0, y1, y2⟩ := v3_at (hrd3.below hb) hin
          generalize hP3 : ad3.add (i * 3) = P3 at hbl3 y0 y1 y2
          have htk : ((r2.take (i + 1)).filter (fun q => lkF a b c d e f g ⟨fx, fy, fz⟩ q)).length = ((r2.take i).filter (fun q => lkF a b c d e f g ⟨fx, fy, fz⟩ q)).length + (if lkF a b c d e f g ⟨fx, fy, fz⟩ r2[i] then 1 else 0) := by
            rw [List.take_succ_eq_append_getElem hin, List.filter_append, List.length_append]
            congr 1
            by_cases hh : lkF a b c d e f g ⟨fx, fy, fz⟩ r2[i] = true
            · simp [hh]
            · simp [hh]
          have hcl : ((r2.take i).filter fun q => lkF a b c d e f g ⟨fx, fy, fz⟩ q).length ≤ 8 := Nat.le_trans (List.length_filter_le _ _) (by rw [List.length_take]; omega)
          generalize hgl : r2[i] = gl at htk y0 y1 y2
          obtain ⟨gx, gy, gz⟩ := gl
          dsimp only at y0 y1 y2
          have hin' : (i : Int) < (r2.length : Int) := by omega
          have hlg := hli ⟨gx, gy, gz⟩
          dsimp only at hlg
          generalize lkF a b c d e f g ⟨fx, fy, fz⟩ ⟨gx, gy, gz⟩ = lb at htk hlg
          generalize ((r2.take i).filter fun q => lkF a b c d e f g ⟨fx, fy, fz⟩ q).length = cnt0 at hcl htk
          replace htk := Lib.hid htk
          clear hgl
          obtain ⟨Wf, hWf⟩ : ∃ Wf, wr.alloc (.cells #[.int .i64 gx, .int .i64 gy, .int .i64 gz] 39) = Wf := ⟨_, rfl⟩
          have hS : S18 w.heap.size (w.heap.size + 1) a b c d e f g X Z W D A rows.length cap P1 fx fy fz wr.heap.size gx gy gz W0 w8 Wf := by
            have hba : Below wr.heap.size wr Wf := by rw [← hWf]; exact (Below.refl _ _).alloc (Nat.le_refl _) _
            have hz : wr.heap.size < Wf.heap.size := by rw [← hWf]; simp
            obtain ⟨N0, N1, N2⟩ := box3 hWf rfl
            have hBf := on hBr hba
            obtain ⟨T0, T1, T2, T3, T4, T5, T6, T7, T8, T9, T10, T11⟩ := hC hBf
            have z8 := hb.size
            have zf := hBf.size
            exact ⟨T0, T1, T2, T3, T4, T5, T6, T7, T8, T9, T10, T11, hX0.out _ hBf, hX1.out _ hBf, hX2.out _ hBf, N0, N1, N2, hBf, hb.trans (hba.mono hb.size), by omega, by omega, by omega, hz, by omega, by omega⟩
          have hAI' : ∀ {W' : World}, S18 w.heap.size (w.heap.size + 1) a b c d e f g X Z W D A rows.length cap P1 fx fy fz wr.heap.size gx gy gz W0 w8 W' → _ := fun {W'} h => hAI (W' := W') h.b0
          obtain ⟨s0, s1, s2, s3, s4, s5, s6, s7, s8, s9, s10, s11⟩ := hC hBr
          go_wp2
          go_region_held3 (fun w' => w'.cell? ⟨w.heap.size, 0, none⟩ = some (.int .i64 a) ∧ w'.cell? ⟨w.heap.size, 1, none⟩ = some (.int .i64 b) ∧ w'.cell? ⟨w.heap.size, 2, none⟩ = some (.int .i64 c) ∧ w'.cell? ⟨w.heap.size, 3, none⟩ = some (.int .i64 d) ∧ w'.cell? ⟨w.heap.size, 4, none⟩ = some (.int .i64 e) ∧ w'.cell? ⟨w.heap.size, 5, none⟩ = some (.int .i64 f) ∧ w'.cell? ⟨w.heap.size, 6, none⟩ = some (.int .i64 g) ∧
                w'.cell? ⟨w.heap.size + 1, 0, none⟩ = some (.int .i64 X) ∧ w'.cell? ⟨w.heap.size + 1, 1, none⟩ = some (.int .i64 Z) ∧ w'.cell? ⟨w.heap.size + 1, 2, none⟩ = some (.int .i64 W) ∧ w'.cell? ⟨w.heap.size + 1, 3, none⟩ = some (.int .i64 D) ∧ w'.cell? ⟨w.heap.size + 1, 4, none⟩ = some (.slice A rows.length cap) ∧
                w'.cell? P1 = some (.int .i64 fx) ∧ w'.cell? ⟨P1.block, P1.off + 1, none⟩ = some (.int .i64 fy) ∧ w'.cell? ⟨P1.block, P1.off + 2, none⟩ = some (.int .i64 fz) ∧ w'.cell? ⟨wr.heap.size, 0, none⟩ = some (.int .i64 gx) ∧ w'.cell? ⟨wr.heap.size, 1, none⟩ = some (.int .i64 gy) ∧ w'.cell? ⟨wr.heap.size, 2, none⟩ = some (.int .i64 gz) ∧
                (Below W0.heap.size W0 w' ∧ Below w8.heap.size w8 w' ∧ w.heap.size < w'.heap.size ∧ w.heap.size + 1 < w'.heap.size ∧ P1.block < w'.heap.size ∧ wr.heap.size < w'.heap.size ∧ W0.heap.size ≤ w'.heap.size ∧ w8.heap.size ≤ w'.heap.size))
            (first | exact hS | exact S18.keep hS ((Below.refl _ _).drew) | exact S18.keep (by assumption) (by assumption))
            (first | (go_at_call 14; refine (hlg _).mono ?_; rintro en w5 ⟨rfl, hb5⟩) | (go_at_call 13; refine (hAI' (by assumption)).mono ?_; rintro en w6 ⟨rfl, hb6⟩))
          have hS5 : S18 w.heap.size (w.heap.size + 1) a b c d e f g X Z W D A rows.length cap P1 fx fy fz wr.heap.size gx gy gz W0 w8 w5 := by assumption
          have hb85 : Below w8.heap.size w8 w5 := hS5.b8
          cases lb with
          | true =>
            go_wp2
            go_roundw
            case rel => exact ⟨i + 1, by go_num, by omega, by rw [htk.out, if_pos rfl]; go_num, hb85⟩
            case measure => show r2.length - ((i : Int) + 1).toNat < r2.length - ((i : Int)).toNat; omega
          | false =>
            go_wp2
            go_roundw
            case rel => exact ⟨i + 1, by go_num, by omega, by rw [htk.out]; simp, hb85⟩
            case measure => show r2.length - ((i : Int) + 1).toNat < r2.length - ((i : Int)).toNat; omega
        · have hie : i = r2.length := by omega
          subst hie
          have h1 := hcount.out
          have htl : ((r2.take r2.length).filter fun q => lkF a b c d e f g ⟨fx, fy, fz⟩ q).length = 1 := by rw [List.take_length]; exact h1
          rw [htl]
          have hB := hBr
          obtain ⟨s0, s1, s2, s3, s4, s5, s6, s7, s8, s9, s10, s11⟩ := hC hB
          clear htl h1
          go_wp2_with (first | (go_at_call 15; refine (hD hB).mono ?_; rintro en w1 ⟨rfl, hB⟩; clear s0 s1 s2 s3 s4 s5 s6 s7 s8 s9 s10 s11; obtain ⟨s0, s1, s2, s3, s4, s5, s6, s7, s8, s9, s10, s11⟩ := hC hB; clear hD) | (go_at_call 15; refine (hD2 hB).mono ?_; rintro en w1 ⟨rfl, hB⟩; clear s0 s1 s2 s3 s4 s5 s6 s7 s8 s9 s10 s11; obtain ⟨s0, s1, s2, s3, s4, s5, s6, s7, s8, s9, s10, s11⟩ := hC hB; clear hD2) | (go_at_call 15; refine (hD3 hB).mono ?_; rintro en w1 ⟨rfl, hB⟩; clear s0 s1 s2 s3 s4 s5 s6 s7 s8 s9 s10 s11; obtain ⟨s0, s1, s2, s3, s4, s5, s6, s7, s8, s9, s10, s11⟩ := hC hB; clear hD3) | (go_at_call 10; refine (hWk hB).mono ?_; rintro en w1 ⟨rfl, hB⟩; clear s0 s1 s2 s3 s4 s5 s6 s7 s8 s9 s10 s11; obtain ⟨s0, s1, s2, s3, s4, s5, s6, s7, s8, s9, s10, s11⟩ := hC hB; clear hWk))
          go_ret
          exact ⟨rfl, up hB⟩
end Go.Proofs.Ytbjbiimkhpfieaa
