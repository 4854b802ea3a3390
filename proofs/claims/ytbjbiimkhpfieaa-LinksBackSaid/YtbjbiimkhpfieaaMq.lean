/- The law LinksBack by a walk: the ways out at once. No conditions. -/
import Derived.Test.YtbjbiimkhpfieaaMp
namespace Go.Proofs.Ytbjbiimkhpfieaa
open Go Go.RowKit Go.Sx
set_option maxHeartbeats 8000000 in
set_option maxRecDepth 100000 in
theorem back_out (a b c d e f g X Z W D x z k d1 d2 : Int) (rows : List (List V3)) (A : Option Addr) (cap : Nat) (w : World) (hr : RowsAt w w.heap.size A rows) (hl : lensOk rows)
    (hout : greatP W D rows ∨ checkRF a b c d e f g ≠ 0 ∨ ¬ gridOk X Z W D rows ∨ x < -100 ∨ 100 < x ∨ z < -100 ∨ 100 < z ∨ stepD d1 = none ∨ stepD d2 = none) :
    Calls Try.prog 3 #[cfgv a b c d e f g, gridv X Z W D A rows.length cap, .int .i64 x, .int .i64 z, .int .i64 k, .int .i64 d1, .int .i64 d2] w fun en w' => en = .returned (.bool true) ∧ Below w.heap.size w w' := by
  obtain ⟨W0, hW0⟩ : ∃ W0, (w.alloc (.cells #[.int .i64 a, .int .i64 b, .int .i64 c, .int .i64 d, .int .i64 e, .int .i64 f, .int .i64 g] 23)).alloc (.cells #[.int .i64 X, .int .i64 Z, .int .i64 W, .int .i64 D, .slice A rows.length cap] 26) = W0 := ⟨_, rfl⟩
  have hb0 : Below w.heap.size w W0 := by rw [← hW0]; exact ((Below.refl _ _).alloc (Nat.le_refl _) _).alloc (by simp) _
  have hz0 : w.heap.size + 2 ≤ W0.heap.size := by rw [← hW0]; simp
  have hc0 : C12 w.heap.size (w.heap.size + 1) a b c d e f g X Z W D A rows.length cap W0 := by rw [← hW0]; exact C12.new ..
  have hC : ∀ {W' : World}, Below W0.heap.size W0 W' → C12 w.heap.size (w.heap.size + 1) a b c d e f g X Z W D A rows.length cap W' := fun h => hc0.below h (by omega) (by omega)
  have up : ∀ {W' : World}, Below W0.heap.size W0 W' → Below w.heap.size w W' := fun h => hb0.trans (h.mono hb0.size)
  have on : ∀ {W' W'' : World}, Below W0.heap.size W0 W' → Below W'.heap.size W' W'' → Below W0.heap.size W0 W'' := fun h h' => h.trans (h'.mono h.size)
  have hRo : ∀ {W' : World}, Below W0.heap.size W0 W' → RowsAt W' W'.heap.size A rows := fun h => (hr.below (up h)).more (up h).size
  have hWk : ∀ {W' : World}, Below W0.heap.size W0 W' → Calls Try.prog 10 #[] W' fun en w' => en = .returned (.bool true) ∧ Below W0.heap.size W0 w' := fun h => (wakes_any _).mono fun _ _ h' => ⟨h'.1, on h h'.2⟩
  have hB := Below.refl W0.heap.size W0
  unfold cfgv gridv
  by_cases hgp : greatP W D rows
  · have hGr : ∀ {W' : World}, Below W0.heap.size W0 W' → Calls Try.prog 7 #[.agg #[.int .i64 X, .int .i64 Z, .int .i64 W, .int .i64 D, .slice A rows.length cap]] W' fun en w' => en = .returned (.bool true) ∧ Below W0.heap.size W0 w' := fun h => (great_any X Z W D rows A cap _ (hRo h) hl).mono fun _ _ h' => ⟨h'.1.tt hgp, on h h'.2⟩
    clear hout
    go_enter Try.func3, Try.ntmps3
    obtain ⟨s0, s1, s2, s3, s4, s5, s6, s7, s8, s9, s10, s11⟩ := hC hB
    go_wp2_with (first | (go_at_call 7; refine (hGr hB).mono ?_; rintro en w1 ⟨rfl, hB⟩; clear s0 s1 s2 s3 s4 s5 s6 s7 s8 s9 s10 s11; obtain ⟨s0, s1, s2, s3, s4, s5, s6, s7, s8, s9, s10, s11⟩ := hC hB; clear hGr) | (go_at_call 10; refine (hWk hB).mono ?_; rintro en w1 ⟨rfl, hB⟩; clear s0 s1 s2 s3 s4 s5 s6 s7 s8 s9 s10 s11; obtain ⟨s0, s1, s2, s3, s4, s5, s6, s7, s8, s9, s10, s11⟩ := hC hB; clear hWk))
    go_ret
    exact ⟨rfl, up hB⟩
  have hGr : ∀ {W' : World}, Below W0.heap.size W0 W' → Calls Try.prog 7 #[.agg #[.int .i64 X, .int .i64 Z, .int .i64 W, .int .i64 D, .slice A rows.length cap]] W' fun en w' => en = .returned (.bool false) ∧ Below W0.heap.size W0 w' := fun h => (great_any X Z W D rows A cap _ (hRo h) hl).mono fun _ _ h' => ⟨h'.1.ff hgp, on h h'.2⟩
  have hCk : ∀ {W' : World}, Below W0.heap.size W0 W' → Calls Try.prog 8 #[.agg #[.int .i64 a, .int .i64 b, .int .i64 c, .int .i64 d, .int .i64 e, .int .i64 f, .int .i64 g]] W' fun en w' => en = .returned (.int .i64 (checkRF a b c d e f g)) ∧ Below W0.heap.size W0 w' := fun h => (rchk_any a b c d e f g _).mono fun _ _ h' => ⟨h'.1, on h h'.2⟩
  by_cases hv : checkRF a b c d e f g = 0
  rotate_left
  · have hv1 : (checkRF a b c d e f g != 0) = true := by simpa using hv
    clear hout
    go_enter Try.func3, Try.ntmps3
    obtain ⟨s0, s1, s2, s3, s4, s5, s6, s7, s8, s9, s10, s11⟩ := hC hB
    go_wp2_with (first | (go_at_call 7; refine (hGr hB).mono ?_; rintro en w1 ⟨rfl, hB⟩; clear s0 s1 s2 s3 s4 s5 s6 s7 s8 s9 s10 s11; obtain ⟨s0, s1, s2, s3, s4, s5, s6, s7, s8, s9, s10, s11⟩ := hC hB; clear hGr) | (go_at_call 8; refine (hCk hB).mono ?_; rintro en w1 ⟨rfl, hB⟩; clear s0 s1 s2 s3 s4 s5 s6 s7 s8 s9 s10 s11; obtain ⟨s0, s1, s2, s3, s4, s5, s6, s7, s8, s9, s10, s11⟩ := hC hB; clear hCk) | (go_at_call 10; refine (hWk hB).mono ?_; rintro en w1 ⟨rfl, hB⟩; clear s0 s1 s2 s3 s4 s5 s6 s7 s8 s9 s10 s11; obtain ⟨s0, s1, s2, s3, s4, s5, s6, s7, s8, s9, s10, s11⟩ := hC hB; clear hWk))
    go_ret
    exact ⟨rfl, up hB⟩
  rw [hv] at hCk
  by_cases ho : gridOk X Z W D rows
  rotate_left
  · have hRc : ∀ {W' : World}, Below W0.heap.size W0 W' → Calls Try.prog 9 #[.agg #[.int .i64 X, .int .i64 Z, .int .i64 W, .int .i64 D, .slice A rows.length cap]] W' fun en w' => (∃ n, en = .returned (.int .i64 n) ∧ (n != 0) = true) ∧ Below W0.heap.size W0 w' := fun h => (rcheck_any X Z W D rows A cap _ (hRo h) hl).mono fun _ _ h' => ⟨h'.1.no ho, on h h'.2⟩
    clear hout
    go_enter Try.func3, Try.ntmps3
    obtain ⟨s0, s1, s2, s3, s4, s5, s6, s7, s8, s9, s10, s11⟩ := hC hB
    go_wp2_with (first | (go_at_call 7; refine (hGr hB).mono ?_; rintro en w1 ⟨rfl, hB⟩; clear s0 s1 s2 s3 s4 s5 s6 s7 s8 s9 s10 s11; obtain ⟨s0, s1, s2, s3, s4, s5, s6, s7, s8, s9, s10, s11⟩ := hC hB; clear hGr) | (go_at_call 8; refine (hCk hB).mono ?_; rintro en w1 ⟨rfl, hB⟩; clear s0 s1 s2 s3 s4 s5 s6 s7 s8 s9 s10 s11; obtain ⟨s0, s1, s2, s3, s4, s5, s6, s7, s8, s9, s10, s11⟩ := hC hB; clear hCk) | (go_at_call 9; refine (hRc hB).mono ?_; rintro en w1 ⟨⟨n, rfl, hn⟩, hB⟩; clear s0 s1 s2 s3 s4 s5 s6 s7 s8 s9 s10 s11; obtain ⟨s0, s1, s2, s3, s4, s5, s6, s7, s8, s9, s10, s11⟩ := hC hB; clear hRc) | (go_at_call 10; refine (hWk hB).mono ?_; rintro en w1 ⟨rfl, hB⟩; clear s0 s1 s2 s3 s4 s5 s6 s7 s8 s9 s10 s11; obtain ⟨s0, s1, s2, s3, s4, s5, s6, s7, s8, s9, s10, s11⟩ := hC hB; clear hWk))
    go_ret
    exact ⟨rfl, up hB⟩
  have hRc : ∀ {W' : World}, Below W0.heap.size W0 W' → Calls Try.prog 9 #[.agg #[.int .i64 X, .int .i64 Z, .int .i64 W, .int .i64 D, .slice A rows.length cap]] W' fun en w' => en = .returned (.int .i64 0) ∧ Below W0.heap.size W0 w' := fun h => (rcheck_any X Z W D rows A cap _ (hRo h) hl).mono fun _ _ h' => ⟨h'.1.zero ho, on h h'.2⟩
  by_cases k0 : x < -100
  · have q0 : decide (x < -100) = true := decide_eq_true k0
    have hout := Lib.hid hout
    have ho := Lib.hid ho
    go_enter Try.func3, Try.ntmps3
    obtain ⟨s0, s1, s2, s3, s4, s5, s6, s7, s8, s9, s10, s11⟩ := hC hB
    go_wp2_with (first | (go_at_call 7; refine (hGr hB).mono ?_; rintro en w1 ⟨rfl, hB⟩; clear s0 s1 s2 s3 s4 s5 s6 s7 s8 s9 s10 s11; obtain ⟨s0, s1, s2, s3, s4, s5, s6, s7, s8, s9, s10, s11⟩ := hC hB; clear hGr) | (go_at_call 8; refine (hCk hB).mono ?_; rintro en w1 ⟨rfl, hB⟩; clear s0 s1 s2 s3 s4 s5 s6 s7 s8 s9 s10 s11; obtain ⟨s0, s1, s2, s3, s4, s5, s6, s7, s8, s9, s10, s11⟩ := hC hB; clear hCk) | (go_at_call 9; refine (hRc hB).mono ?_; rintro en w1 ⟨rfl, hB⟩; clear s0 s1 s2 s3 s4 s5 s6 s7 s8 s9 s10 s11; obtain ⟨s0, s1, s2, s3, s4, s5, s6, s7, s8, s9, s10, s11⟩ := hC hB; clear hRc) | (go_at_call 10; refine (hWk hB).mono ?_; rintro en w1 ⟨rfl, hB⟩; clear s0 s1 s2 s3 s4 s5 s6 s7 s8 s9 s10 s11; obtain ⟨s0, s1, s2, s3, s4, s5, s6, s7, s8, s9, s10, s11⟩ := hC hB; clear hWk))
    go_ret
    exact ⟨rfl, up hB⟩
  have q0 : decide (x < -100) = false := decide_eq_false k0
  by_cases k1 : 100 < x
  · have q1 : decide (100 < x) = true := decide_eq_true k1
    have hout := Lib.hid hout
    have ho := Lib.hid ho
    go_enter Try.func3, Try.ntmps3
    obtain ⟨s0, s1, s2, s3, s4, s5, s6, s7, s8, s9, s10, s11⟩ := hC hB
    go_wp2_with (first | (go_at_call 7; refine (hGr hB).mono ?_; rintro en w1 ⟨rfl, hB⟩; clear s0 s1 s2 s3 s4 s5 s6 s7 s8 s9 s10 s11; obtain ⟨s0, s1, s2, s3, s4, s5, s6, s7, s8, s9, s10, s11⟩ := hC hB; clear hGr) | (go_at_call 8; refine (hCk hB).mono ?_; rintro en w1 ⟨rfl, hB⟩; clear s0 s1 s2 s3 s4 s5 s6 s7 s8 s9 s10 s11; obtain ⟨s0, s1, s2, s3, s4, s5, s6, s7, s8, s9, s10, s11⟩ := hC hB; clear hCk) | (go_at_call 9; refine (hRc hB).mono ?_; rintro en w1 ⟨rfl, hB⟩; clear s0 s1 s2 s3 s4 s5 s6 s7 s8 s9 s10 s11; obtain ⟨s0, s1, s2, s3, s4, s5, s6, s7, s8, s9, s10, s11⟩ := hC hB; clear hRc) | (go_at_call 10; refine (hWk hB).mono ?_; rintro en w1 ⟨rfl, hB⟩; clear s0 s1 s2 s3 s4 s5 s6 s7 s8 s9 s10 s11; obtain ⟨s0, s1, s2, s3, s4, s5, s6, s7, s8, s9, s10, s11⟩ := hC hB; clear hWk))
    go_ret
    exact ⟨rfl, up hB⟩
  have q1 : decide (100 < x) = false := decide_eq_false k1
  by_cases k2 : z < -100
  · have q2 : decide (z < -100) = true := decide_eq_true k2
    have hout := Lib.hid hout
    have ho := Lib.hid ho
    go_enter Try.func3, Try.ntmps3
    obtain ⟨s0, s1, s2, s3, s4, s5, s6, s7, s8, s9, s10, s11⟩ := hC hB
    go_wp2_with (first | (go_at_call 7; refine (hGr hB).mono ?_; rintro en w1 ⟨rfl, hB⟩; clear s0 s1 s2 s3 s4 s5 s6 s7 s8 s9 s10 s11; obtain ⟨s0, s1, s2, s3, s4, s5, s6, s7, s8, s9, s10, s11⟩ := hC hB; clear hGr) | (go_at_call 8; refine (hCk hB).mono ?_; rintro en w1 ⟨rfl, hB⟩; clear s0 s1 s2 s3 s4 s5 s6 s7 s8 s9 s10 s11; obtain ⟨s0, s1, s2, s3, s4, s5, s6, s7, s8, s9, s10, s11⟩ := hC hB; clear hCk) | (go_at_call 9; refine (hRc hB).mono ?_; rintro en w1 ⟨rfl, hB⟩; clear s0 s1 s2 s3 s4 s5 s6 s7 s8 s9 s10 s11; obtain ⟨s0, s1, s2, s3, s4, s5, s6, s7, s8, s9, s10, s11⟩ := hC hB; clear hRc) | (go_at_call 10; refine (hWk hB).mono ?_; rintro en w1 ⟨rfl, hB⟩; clear s0 s1 s2 s3 s4 s5 s6 s7 s8 s9 s10 s11; obtain ⟨s0, s1, s2, s3, s4, s5, s6, s7, s8, s9, s10, s11⟩ := hC hB; clear hWk))
    go_ret
    exact ⟨rfl, up hB⟩
  have q2 : decide (z < -100) = false := decide_eq_false k2
  by_cases k3 : 100 < z
  · have q3 : decide (100 < z) = true := decide_eq_true k3
    have hout := Lib.hid hout
    have ho := Lib.hid ho
    go_enter Try.func3, Try.ntmps3
    obtain ⟨s0, s1, s2, s3, s4, s5, s6, s7, s8, s9, s10, s11⟩ := hC hB
    go_wp2_with (first | (go_at_call 7; refine (hGr hB).mono ?_; rintro en w1 ⟨rfl, hB⟩; clear s0 s1 s2 s3 s4 s5 s6 s7 s8 s9 s10 s11; obtain ⟨s0, s1, s2, s3, s4, s5, s6, s7, s8, s9, s10, s11⟩ := hC hB; clear hGr) | (go_at_call 8; refine (hCk hB).mono ?_; rintro en w1 ⟨rfl, hB⟩; clear s0 s1 s2 s3 s4 s5 s6 s7 s8 s9 s10 s11; obtain ⟨s0, s1, s2, s3, s4, s5, s6, s7, s8, s9, s10, s11⟩ := hC hB; clear hCk) | (go_at_call 9; refine (hRc hB).mono ?_; rintro en w1 ⟨rfl, hB⟩; clear s0 s1 s2 s3 s4 s5 s6 s7 s8 s9 s10 s11; obtain ⟨s0, s1, s2, s3, s4, s5, s6, s7, s8, s9, s10, s11⟩ := hC hB; clear hRc) | (go_at_call 10; refine (hWk hB).mono ?_; rintro en w1 ⟨rfl, hB⟩; clear s0 s1 s2 s3 s4 s5 s6 s7 s8 s9 s10 s11; obtain ⟨s0, s1, s2, s3, s4, s5, s6, s7, s8, s9, s10, s11⟩ := hC hB; clear hWk))
    go_ret
    exact ⟨rfl, up hB⟩
  have q3 : decide (100 < z) = false := decide_eq_false k3
  have hsd : stepD d1 = none ∨ stepD d2 = none := by
    rcases hout with h | h | h | h | h | h | h | h | h
    · exact absurd h hgp
    · exact absurd hv h
    · exact absurd ho h
    · exact absurd h k0
    · exact absurd h k1
    · exact absurd h k2
    · exact absurd h k3
    · exact .inl h
    · exact .inr h
  clear hout
  have ho := Lib.hid ho
  cases hd1 : stepD d1 with
  | none =>
    have hS1 : ∀ {W' : World}, Below W0.heap.size W0 W' → Calls Try.prog 11 #[.int .i64 d1] W' fun en w' => en = .returned (.tuple #[.int .i64 0, .int .i64 0, .bool false]) ∧ Below W0.heap.size W0 w' := fun h => (step_any d1 _).mono fun _ _ h' => ⟨by have h1 := h'.1; rw [hd1] at h1; exact h1, on h h'.2⟩
    cases hd2 : stepD d2 with
    | none =>
      have hS2 : ∀ {W' : World}, Below W0.heap.size W0 W' → Calls Try.prog 11 #[.int .i64 d2] W' fun en w' => en = .returned (.tuple #[.int .i64 0, .int .i64 0, .bool false]) ∧ Below W0.heap.size W0 w' := fun h => (step_any d2 _).mono fun _ _ h' => ⟨by have h1 := h'.1; rw [hd2] at h1; exact h1, on h h'.2⟩
      clear hsd hd1 hd2
      go_enter Try.func3, Try.ntmps3
      obtain ⟨s0, s1, s2, s3, s4, s5, s6, s7, s8, s9, s10, s11⟩ := hC hB
      go_wp2_with (first | (go_at_call 7; refine (hGr hB).mono ?_; rintro en w1 ⟨rfl, hB⟩; clear s0 s1 s2 s3 s4 s5 s6 s7 s8 s9 s10 s11; obtain ⟨s0, s1, s2, s3, s4, s5, s6, s7, s8, s9, s10, s11⟩ := hC hB; clear hGr) | (go_at_call 8; refine (hCk hB).mono ?_; rintro en w1 ⟨rfl, hB⟩; clear s0 s1 s2 s3 s4 s5 s6 s7 s8 s9 s10 s11; obtain ⟨s0, s1, s2, s3, s4, s5, s6, s7, s8, s9, s10, s11⟩ := hC hB; clear hCk) | (go_at_call 9; refine (hRc hB).mono ?_; rintro en w1 ⟨rfl, hB⟩; clear s0 s1 s2 s3 s4 s5 s6 s7 s8 s9 s10 s11; obtain ⟨s0, s1, s2, s3, s4, s5, s6, s7, s8, s9, s10, s11⟩ := hC hB; clear hRc) | (go_at_call 11; refine (hS1 hB).mono ?_; rintro en w1 ⟨rfl, hB⟩; clear s0 s1 s2 s3 s4 s5 s6 s7 s8 s9 s10 s11; obtain ⟨s0, s1, s2, s3, s4, s5, s6, s7, s8, s9, s10, s11⟩ := hC hB; clear hS1) | (go_at_call 11; refine (hS2 hB).mono ?_; rintro en w1 ⟨rfl, hB⟩; clear s0 s1 s2 s3 s4 s5 s6 s7 s8 s9 s10 s11; obtain ⟨s0, s1, s2, s3, s4, s5, s6, s7, s8, s9, s10, s11⟩ := hC hB; clear hS2) | (go_at_call 10; refine (hWk hB).mono ?_; rintro en w1 ⟨rfl, hB⟩; clear s0 s1 s2 s3 s4 s5 s6 s7 s8 s9 s10 s11; obtain ⟨s0, s1, s2, s3, s4, s5, s6, s7, s8, s9, s10, s11⟩ := hC hB; clear hWk))
      go_ret
      exact ⟨rfl, up hB⟩
    | some p =>
      obtain ⟨ex, ez⟩ := p
      have hS2 : ∀ {W' : World}, Below W0.heap.size W0 W' → Calls Try.prog 11 #[.int .i64 d2] W' fun en w' => en = .returned (.tuple #[.int .i64 ex, .int .i64 ez, .bool true]) ∧ Below W0.heap.size W0 w' := fun h => (step_any d2 _).mono fun _ _ h' => ⟨by have h1 := h'.1; rw [hd2] at h1; exact h1, on h h'.2⟩
      skip
      clear hsd hd1 hd2
      go_enter Try.func3, Try.ntmps3
      obtain ⟨s0, s1, s2, s3, s4, s5, s6, s7, s8, s9, s10, s11⟩ := hC hB
      go_wp2_with (first | (go_at_call 7; refine (hGr hB).mono ?_; rintro en w1 ⟨rfl, hB⟩; clear s0 s1 s2 s3 s4 s5 s6 s7 s8 s9 s10 s11; obtain ⟨s0, s1, s2, s3, s4, s5, s6, s7, s8, s9, s10, s11⟩ := hC hB; clear hGr) | (go_at_call 8; refine (hCk hB).mono ?_; rintro en w1 ⟨rfl, hB⟩; clear s0 s1 s2 s3 s4 s5 s6 s7 s8 s9 s10 s11; obtain ⟨s0, s1, s2, s3, s4, s5, s6, s7, s8, s9, s10, s11⟩ := hC hB; clear hCk) | (go_at_call 9; refine (hRc hB).mono ?_; rintro en w1 ⟨rfl, hB⟩; clear s0 s1 s2 s3 s4 s5 s6 s7 s8 s9 s10 s11; obtain ⟨s0, s1, s2, s3, s4, s5, s6, s7, s8, s9, s10, s11⟩ := hC hB; clear hRc) | (go_at_call 11; refine (hS1 hB).mono ?_; rintro en w1 ⟨rfl, hB⟩; clear s0 s1 s2 s3 s4 s5 s6 s7 s8 s9 s10 s11; obtain ⟨s0, s1, s2, s3, s4, s5, s6, s7, s8, s9, s10, s11⟩ := hC hB; clear hS1) | (go_at_call 11; refine (hS2 hB).mono ?_; rintro en w1 ⟨rfl, hB⟩; clear s0 s1 s2 s3 s4 s5 s6 s7 s8 s9 s10 s11; obtain ⟨s0, s1, s2, s3, s4, s5, s6, s7, s8, s9, s10, s11⟩ := hC hB; clear hS2) | (go_at_call 10; refine (hWk hB).mono ?_; rintro en w1 ⟨rfl, hB⟩; clear s0 s1 s2 s3 s4 s5 s6 s7 s8 s9 s10 s11; obtain ⟨s0, s1, s2, s3, s4, s5, s6, s7, s8, s9, s10, s11⟩ := hC hB; clear hWk))
      go_ret
      exact ⟨rfl, up hB⟩
  | some p =>
    obtain ⟨dx, dz⟩ := p
    have hS1 : ∀ {W' : World}, Below W0.heap.size W0 W' → Calls Try.prog 11 #[.int .i64 d1] W' fun en w' => en = .returned (.tuple #[.int .i64 dx, .int .i64 dz, .bool true]) ∧ Below W0.heap.size W0 w' := fun h => (step_any d1 _).mono fun _ _ h' => ⟨by have h1 := h'.1; rw [hd1] at h1; exact h1, on h h'.2⟩
    cases hd2 : stepD d2 with
    | none =>
      have hS2 : ∀ {W' : World}, Below W0.heap.size W0 W' → Calls Try.prog 11 #[.int .i64 d2] W' fun en w' => en = .returned (.tuple #[.int .i64 0, .int .i64 0, .bool false]) ∧ Below W0.heap.size W0 w' := fun h => (step_any d2 _).mono fun _ _ h' => ⟨by have h1 := h'.1; rw [hd2] at h1; exact h1, on h h'.2⟩
      clear hsd hd1 hd2
      go_enter Try.func3, Try.ntmps3
      obtain ⟨s0, s1, s2, s3, s4, s5, s6, s7, s8, s9, s10, s11⟩ := hC hB
      go_wp2_with (first | (go_at_call 7; refine (hGr hB).mono ?_; rintro en w1 ⟨rfl, hB⟩; clear s0 s1 s2 s3 s4 s5 s6 s7 s8 s9 s10 s11; obtain ⟨s0, s1, s2, s3, s4, s5, s6, s7, s8, s9, s10, s11⟩ := hC hB; clear hGr) | (go_at_call 8; refine (hCk hB).mono ?_; rintro en w1 ⟨rfl, hB⟩; clear s0 s1 s2 s3 s4 s5 s6 s7 s8 s9 s10 s11; obtain ⟨s0, s1, s2, s3, s4, s5, s6, s7, s8, s9, s10, s11⟩ := hC hB; clear hCk) | (go_at_call 9; refine (hRc hB).mono ?_; rintro en w1 ⟨rfl, hB⟩; clear s0 s1 s2 s3 s4 s5 s6 s7 s8 s9 s10 s11; obtain ⟨s0, s1, s2, s3, s4, s5, s6, s7, s8, s9, s10, s11⟩ := hC hB; clear hRc) | (go_at_call 11; refine (hS1 hB).mono ?_; rintro en w1 ⟨rfl, hB⟩; clear s0 s1 s2 s3 s4 s5 s6 s7 s8 s9 s10 s11; obtain ⟨s0, s1, s2, s3, s4, s5, s6, s7, s8, s9, s10, s11⟩ := hC hB; clear hS1) | (go_at_call 11; refine (hS2 hB).mono ?_; rintro en w1 ⟨rfl, hB⟩; clear s0 s1 s2 s3 s4 s5 s6 s7 s8 s9 s10 s11; obtain ⟨s0, s1, s2, s3, s4, s5, s6, s7, s8, s9, s10, s11⟩ := hC hB; clear hS2) | (go_at_call 10; refine (hWk hB).mono ?_; rintro en w1 ⟨rfl, hB⟩; clear s0 s1 s2 s3 s4 s5 s6 s7 s8 s9 s10 s11; obtain ⟨s0, s1, s2, s3, s4, s5, s6, s7, s8, s9, s10, s11⟩ := hC hB; clear hWk))
      go_ret
      exact ⟨rfl, up hB⟩
    | some p => rw [hd1, hd2] at hsd; rcases hsd with h | h <;> cases h
end Go.Proofs.Ytbjbiimkhpfieaa
