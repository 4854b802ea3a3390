/- Which boxes may be: soup.boxes' closures, by walks. No conditions but that things lie where they are said to lie. -/
import Derived.Test.YtpbpbijjkmjjjaaUm
set_option linter.unusedSimpArgs false
set_option linter.unusedVariables false
namespace Go.Proofs.Ytpbpbijjkmjjjaa
open Go Go.RowKit Go.Sx
attribute [local go_sem] Oper.semAt_some
theorem box7 {w : World} {B : Nat} {v0 v1 v2 v3 v4 v5 v6 : Value} {T : TypeId} (h : w.heap[B]? = some (.cells #[v0, v1, v2, v3, v4, v5, v6] T (0, 0))) :
    w.cell? ⟨B, 0, none⟩ = some v0 ∧ w.cell? ⟨B, 1, none⟩ = some v1 ∧ w.cell? ⟨B, 2, none⟩ = some v2 ∧ w.cell? ⟨B, 3, none⟩ = some v3 ∧ w.cell? ⟨B, 4, none⟩ = some v4 ∧ w.cell? ⟨B, 5, none⟩ = some v5 ∧ w.cell? ⟨B, 6, none⟩ = some v6 :=
  ⟨cell_of h rfl, cell_of h rfl, cell_of h rfl, cell_of h rfl, cell_of h rfl, cell_of h rfl, cell_of h rfl⟩
/-- A stretch within so many. -/
def strOk (a b n : Int) : Bool := decide (0 ≤ a) && decide (a ≤ b) && decide (b < n)
set_option maxHeartbeats 2000000 in
set_option maxRecDepth 100000 in
theorem boxX_any (B C : Nat) (x0 x1 W : Int) (w : World) (h1 : w.cell? ⟨B, 1, none⟩ = some (.int .i64 x0)) (h3 : w.cell? ⟨B, 3, none⟩ = some (.int .i64 x1)) (hC : w.cell? ⟨C, 5, none⟩ = some (.int .i64 W)) :
    Calls Try.prog 56 #[.pointer (some ⟨B, 0, none⟩), .pointer (some ⟨C, 0, none⟩)] w fun en w' => en = .returned (.bool (strOk x0 x1 W)) ∧ Below w.heap.size w w' := by
  by_cases a1 : 0 ≤ x0
  · by_cases a2 : x0 ≤ x1
    · by_cases a3 : x1 < W
      · have e : Hid (strOk x0 x1 W = true) := Lib.hid (by simp [strOk, a1, a2, a3])
        refine (callsIn_wide (n := 6)).1 ?_
        refine callsIn_of_wp Try.func56 rfl trivial ?_
        simp only [Try.ntmps56, List.size_toArray, List.length_cons, List.length_nil, Nat.reduceAdd, Nat.reduceSub, Array.replicate_succ, Array.replicate_zero, List.push_toArray, List.append_toArray, List.nil_append, List.cons_append]
        gi_wp2
        go_ret
        exact ⟨by rw [e.out]; rfl, Below.refl _ _⟩
      · have e : Hid (strOk x0 x1 W = false) := Lib.hid (by simp [strOk, a3])
        refine (callsIn_wide (n := 6)).1 ?_
        refine callsIn_of_wp Try.func56 rfl trivial ?_
        simp only [Try.ntmps56, List.size_toArray, List.length_cons, List.length_nil, Nat.reduceAdd, Nat.reduceSub, Array.replicate_succ, Array.replicate_zero, List.push_toArray, List.append_toArray, List.nil_append, List.cons_append]
        gi_wp2
        go_ret
        exact ⟨by rw [e.out]; rfl, Below.refl _ _⟩
    · have e : Hid (strOk x0 x1 W = false) := Lib.hid (by simp [strOk, a2])
      refine (callsIn_wide (n := 6)).1 ?_
      refine callsIn_of_wp Try.func56 rfl trivial ?_
      simp only [Try.ntmps56, List.size_toArray, List.length_cons, List.length_nil, Nat.reduceAdd, Nat.reduceSub, Array.replicate_succ, Array.replicate_zero, List.push_toArray, List.append_toArray, List.nil_append, List.cons_append]
      gi_wp2
      go_ret
      exact ⟨by rw [e.out]; rfl, Below.refl _ _⟩
  · have e : Hid (strOk x0 x1 W = false) := Lib.hid (by simp [strOk, a1])
    refine (callsIn_wide (n := 6)).1 ?_
    refine callsIn_of_wp Try.func56 rfl trivial ?_
    simp only [Try.ntmps56, List.size_toArray, List.length_cons, List.length_nil, Nat.reduceAdd, Nat.reduceSub, Array.replicate_succ, Array.replicate_zero, List.push_toArray, List.append_toArray, List.nil_append, List.cons_append]
    gi_wp2
    go_ret
    exact ⟨by rw [e.out]; rfl, Below.refl _ _⟩
set_option maxHeartbeats 4000000 in
set_option maxRecDepth 100000 in
theorem boxZ_any (B C : Nat) (z0 z1 D : Int) (w : World) (h1 : w.cell? ⟨B, 2, none⟩ = some (.int .i64 z0)) (h3 : w.cell? ⟨B, 4, none⟩ = some (.int .i64 z1)) (hC : w.cell? ⟨C, 6, none⟩ = some (.int .i64 D)) :
    Calls Try.prog 57 #[.pointer (some ⟨B, 0, none⟩), .pointer (some ⟨C, 0, none⟩)] w fun en w' => en = .returned (.bool (strOk z0 z1 D)) ∧ Below w.heap.size w w' := by
  by_cases a0 : 0 ≤ z0
  · skip
    by_cases a1 : z0 ≤ z1
    · skip
      by_cases a2 : z1 < D
      · skip
        have e : Hid (strOk z0 z1 D = true) := Lib.hid (by simp [strOk, a0, a1, a2])
        refine (callsIn_wide (n := 6)).1 ?_
        refine callsIn_of_wp Try.func57 rfl trivial ?_
        simp only [Try.ntmps57, List.size_toArray, List.length_cons, List.length_nil, Nat.reduceAdd, Nat.reduceSub, Array.replicate_succ, Array.replicate_zero, List.push_toArray, List.append_toArray, List.nil_append, List.cons_append]
        gi_wp2
        go_ret
        exact ⟨by rw [e.out]; first | rfl | (simp; omega), Below.refl _ _⟩
      · have e : Hid (strOk z0 z1 D = false) := Lib.hid (by simp [strOk, a2])
        refine (callsIn_wide (n := 6)).1 ?_
        refine callsIn_of_wp Try.func57 rfl trivial ?_
        simp only [Try.ntmps57, List.size_toArray, List.length_cons, List.length_nil, Nat.reduceAdd, Nat.reduceSub, Array.replicate_succ, Array.replicate_zero, List.push_toArray, List.append_toArray, List.nil_append, List.cons_append]
        gi_wp2_with (refine wpListIn_off rfl ?_)
        go_ret
        exact ⟨by rw [e.out]; first | rfl | (simp; omega), Below.refl _ _⟩
    · have e : Hid (strOk z0 z1 D = false) := Lib.hid (by simp [strOk, a1])
      refine (callsIn_wide (n := 6)).1 ?_
      refine callsIn_of_wp Try.func57 rfl trivial ?_
      simp only [Try.ntmps57, List.size_toArray, List.length_cons, List.length_nil, Nat.reduceAdd, Nat.reduceSub, Array.replicate_succ, Array.replicate_zero, List.push_toArray, List.append_toArray, List.nil_append, List.cons_append]
      gi_wp2_with (refine wpListIn_off rfl ?_)
      go_ret
      exact ⟨by rw [e.out]; first | rfl | (simp; omega), Below.refl _ _⟩
  · have e : Hid (strOk z0 z1 D = false) := Lib.hid (by simp [strOk, a0])
    refine (callsIn_wide (n := 6)).1 ?_
    refine callsIn_of_wp Try.func57 rfl trivial ?_
    simp only [Try.ntmps57, List.size_toArray, List.length_cons, List.length_nil, Nat.reduceAdd, Nat.reduceSub, Array.replicate_succ, Array.replicate_zero, List.push_toArray, List.append_toArray, List.nil_append, List.cons_append]
    gi_wp2_with (refine wpListIn_off rfl ?_)
    go_ret
    exact ⟨by rw [e.out]; first | rfl | (simp; omega), Below.refl _ _⟩
def arOk (a lo hi : Int) : Bool := decide (lo ≤ a) && decide (a ≤ hi)
noncomputable def yOk (y0 y1 : Int) : Bool := heightF y0 && heightF y1 && decide (y0 ≤ y1)
set_option maxHeartbeats 4000000 in
set_option maxRecDepth 100000 in
theorem boxA_any (B : Nat) (ar : Int) (w : World) (h1 : w.cell? ⟨B, 7, none⟩ = some (.int .i64 ar)) :
    Calls Try.prog 59 #[.pointer (some ⟨B, 0, none⟩)] w fun en w' => en = .returned (.bool (arOk ar 0 7)) ∧ Below w.heap.size w w' := by
  by_cases a0 : 0 ≤ ar
  · skip
    by_cases a1 : ar ≤ 7
    · skip
      have e : Hid (arOk ar 0 7 = true) := Lib.hid (by simp [arOk, a0, a1])
      refine (callsIn_wide (n := 6)).1 ?_
      refine callsIn_of_wp Try.func59 rfl trivial ?_
      simp only [Try.ntmps59, List.size_toArray, List.length_cons, List.length_nil, Nat.reduceAdd, Nat.reduceSub, Array.replicate_succ, Array.replicate_zero, List.push_toArray, List.append_toArray, List.nil_append, List.cons_append]
      gi_wp2
      go_ret
      exact ⟨by rw [e.out]; first | rfl | (simp; omega), Below.refl _ _⟩
    · have e : Hid (arOk ar 0 7 = false) := Lib.hid (by simp [arOk, a1])
      refine (callsIn_wide (n := 6)).1 ?_
      refine callsIn_of_wp Try.func59 rfl trivial ?_
      simp only [Try.ntmps59, List.size_toArray, List.length_cons, List.length_nil, Nat.reduceAdd, Nat.reduceSub, Array.replicate_succ, Array.replicate_zero, List.push_toArray, List.append_toArray, List.nil_append, List.cons_append]
      gi_wp2_with (refine wpListIn_off rfl ?_)
      go_ret
      exact ⟨by rw [e.out]; first | rfl | (simp; omega), Below.refl _ _⟩
  · have e : Hid (arOk ar 0 7 = false) := Lib.hid (by simp [arOk, a0])
    refine (callsIn_wide (n := 6)).1 ?_
    refine callsIn_of_wp Try.func59 rfl trivial ?_
    simp only [Try.ntmps59, List.size_toArray, List.length_cons, List.length_nil, Nat.reduceAdd, Nat.reduceSub, Array.replicate_succ, Array.replicate_zero, List.push_toArray, List.append_toArray, List.nil_append, List.cons_append]
    gi_wp2_with (refine wpListIn_off rfl ?_)
    go_ret
    exact ⟨by rw [e.out]; first | rfl | (simp; omega), Below.refl _ _⟩
set_option maxHeartbeats 4000000 in
set_option maxRecDepth 100000 in
theorem boxY_any (B : Nat) (y0 y1 : Int) (w : World) (h1 : w.cell? ⟨B, 5, none⟩ = some (.int .i64 y0)) (h3 : w.cell? ⟨B, 6, none⟩ = some (.int .i64 y1)) (hB : B < w.heap.size) :
    Calls Try.prog 58 #[.pointer (some ⟨B, 0, none⟩)] w fun en w' => en = .returned (.bool (yOk y0 y1)) ∧ Below w.heap.size w w' := by
  refine (callsIn_wide (n := 6)).1 ?_
  refine callsIn_of_wp Try.func58 rfl trivial ?_
  simp only [Try.ntmps58, List.size_toArray, List.length_cons, List.length_nil, Nat.reduceAdd, Nat.reduceSub, Array.replicate_succ, Array.replicate_zero, List.push_toArray, List.append_toArray, List.nil_append, List.cons_append]
  have hh := fun w => height_any y0 w
  cases b0 : heightF y0 with
  | false =>
    have e : Hid (yOk y0 y1 = false) := Lib.hid (by simp [yOk, b0])
    rw [b0] at hh
    replace b0 := Lib.hid b0
    gi_wp2
    refine ⟨trivial, (callsIn_wide.2 (hh _)).mono ?_⟩
    rintro en v1 ⟨rfl, hv1⟩
    gi_wp2_with (refine wpListIn_off rfl ?_)
    go_ret
    exact ⟨by rw [e.out]; first | rfl | (simp; omega), hv1⟩
  | true =>
    rw [b0] at hh
    replace b0 := Lib.hid b0
    gi_wp2
    refine ⟨trivial, (callsIn_wide.2 (hh _)).mono ?_⟩
    rintro en v1 ⟨rfl, hv1⟩
    replace h1 := (hv1.cell (p := ⟨B, 5, none⟩) hB).trans h1
    replace h3 := (hv1.cell (p := ⟨B, 6, none⟩) hB).trans h3
    replace hB := Nat.lt_of_lt_of_le hB hv1.size
    have hh := fun w => height_any y1 w
    cases b1 : heightF y1 with
    | false =>
      have e : Hid (yOk y0 y1 = false) := Lib.hid (by simp [yOk, b1])
      rw [b1] at hh
      replace b1 := Lib.hid b1
      gi_wp2
      refine ⟨trivial, (callsIn_wide.2 (hh _)).mono ?_⟩
      rintro en v2 ⟨rfl, hv2⟩
      gi_wp2_with (refine wpListIn_off rfl ?_)
      go_ret
      exact ⟨by rw [e.out]; first | rfl | (simp; omega), (hv1).trans (hv2.mono (hv1).size)⟩
    | true =>
      rw [b1] at hh
      replace b1 := Lib.hid b1
      gi_wp2
      refine ⟨trivial, (callsIn_wide.2 (hh _)).mono ?_⟩
      rintro en v2 ⟨rfl, hv2⟩
      replace h1 := (hv2.cell (p := ⟨B, 5, none⟩) hB).trans h1
      replace h3 := (hv2.cell (p := ⟨B, 6, none⟩) hB).trans h3
      replace hB := Nat.lt_of_lt_of_le hB hv2.size
      by_cases a2 : y0 ≤ y1
      · skip
        have e : Hid (yOk y0 y1 = true) := Lib.hid (by simp [yOk, b0.out, b1.out, a2])
        gi_wp2
        go_ret
        exact ⟨by rw [e.out]; first | rfl | (simp; omega), (hv1).trans (hv2.mono (hv1).size)⟩
      · have e : Hid (yOk y0 y1 = false) := Lib.hid (by simp [yOk, a2])
        gi_wp2_with (refine wpListIn_off rfl ?_)
        go_ret
        exact ⟨by rw [e.out]; first | rfl | (simp; omega), (hv1).trans (hv2.mono (hv1).size)⟩
noncomputable def spotOk (W D x z y : Int) : Bool := decide (0 ≤ x) && decide (x < W) && decide (0 ≤ z) && decide (z < D) && heightF y
set_option maxHeartbeats 4000000 in
set_option maxRecDepth 100000 in
theorem spot_any (C : Nat) (x z y W D : Int) (w : World) (h5 : w.cell? ⟨C, 5, none⟩ = some (.int .i64 W)) (h6 : w.cell? ⟨C, 6, none⟩ = some (.int .i64 D)) (hC : C < w.heap.size) :
    Calls Try.prog 63 #[.agg #[.int .i64 x, .int .i64 z, .int .i64 y], .pointer (some ⟨C, 0, none⟩)] w fun en w' => en = .returned (.bool (spotOk W D x z y)) ∧ Below w.heap.size w w' := by
  obtain ⟨u1, eu1, bu1, ku1⟩ := alloc_step w (.cells #[.int .i64 x, .int .i64 z, .int .i64 y] 76)
  obtain ⟨c0, c1, c2⟩ := box3 ku1
  have g5 := (bu1.cell (p := ⟨C, 5, none⟩) hC).trans h5
  have g6 := (bu1.cell (p := ⟨C, 6, none⟩) hC).trans h6
  clear h5 h6
  by_cases a0 : 0 ≤ x
  · skip
    by_cases a1 : x < W
    · skip
      by_cases a2 : 0 ≤ z
      · skip
        by_cases a3 : z < D
        · skip
          refine (callsIn_wide (n := 6)).1 ?_
          refine callsIn_of_wp Try.func63 rfl trivial ?_
          simp only [Try.ntmps63, List.size_toArray, List.length_cons, List.length_nil, Nat.reduceAdd, Nat.reduceSub, Array.replicate_succ, Array.replicate_zero, List.push_toArray, List.append_toArray, List.nil_append, List.cons_append]
          have hh := fun w => height_any y w
          cases b4 : heightF y with
          | false =>
            have e : Hid (spotOk W D x z y = false) := Lib.hid (by simp [spotOk, b4])
            rw [b4] at hh
            replace b4 := Lib.hid b4
            gi_wp2
            refine ⟨trivial, (callsIn_wide.2 (hh _)).mono ?_⟩
            rintro en v1 ⟨rfl, hv1⟩
            gi_wp2_with (refine wpListIn_off rfl ?_)
            go_ret
            exact ⟨by rw [e.out]; first | rfl | (simp; omega), (bu1).trans (hv1.mono (bu1).size)⟩
          | true =>
            rw [b4] at hh
            replace b4 := Lib.hid b4
            gi_wp2
            refine ⟨trivial, (callsIn_wide.2 (hh _)).mono ?_⟩
            rintro en v1 ⟨rfl, hv1⟩
            have e : Hid (spotOk W D x z y = true) := Lib.hid (by simp [spotOk, a0, a1, a2, a3, b4.out])
            gi_wp2
            go_ret
            exact ⟨by rw [e.out]; first | rfl | (simp; omega), (bu1).trans (hv1.mono (bu1).size)⟩
        · have e : Hid (spotOk W D x z y = false) := Lib.hid (by simp [spotOk, a3])
          refine (callsIn_wide (n := 6)).1 ?_
          refine callsIn_of_wp Try.func63 rfl trivial ?_
          simp only [Try.ntmps63, List.size_toArray, List.length_cons, List.length_nil, Nat.reduceAdd, Nat.reduceSub, Array.replicate_succ, Array.replicate_zero, List.push_toArray, List.append_toArray, List.nil_append, List.cons_append]
          gi_wp2_with (refine wpListIn_off rfl ?_)
          go_ret
          exact ⟨by rw [e.out]; first | rfl | (simp; omega), bu1⟩
      · have e : Hid (spotOk W D x z y = false) := Lib.hid (by simp [spotOk, a2])
        refine (callsIn_wide (n := 6)).1 ?_
        refine callsIn_of_wp Try.func63 rfl trivial ?_
        simp only [Try.ntmps63, List.size_toArray, List.length_cons, List.length_nil, Nat.reduceAdd, Nat.reduceSub, Array.replicate_succ, Array.replicate_zero, List.push_toArray, List.append_toArray, List.nil_append, List.cons_append]
        gi_wp2_with (refine wpListIn_off rfl ?_)
        go_ret
        exact ⟨by rw [e.out]; first | rfl | (simp; omega), bu1⟩
    · have e : Hid (spotOk W D x z y = false) := Lib.hid (by simp [spotOk, a1])
      refine (callsIn_wide (n := 6)).1 ?_
      refine callsIn_of_wp Try.func63 rfl trivial ?_
      simp only [Try.ntmps63, List.size_toArray, List.length_cons, List.length_nil, Nat.reduceAdd, Nat.reduceSub, Array.replicate_succ, Array.replicate_zero, List.push_toArray, List.append_toArray, List.nil_append, List.cons_append]
      gi_wp2_with (refine wpListIn_off rfl ?_)
      go_ret
      exact ⟨by rw [e.out]; first | rfl | (simp; omega), bu1⟩
  · have e : Hid (spotOk W D x z y = false) := Lib.hid (by simp [spotOk, a0])
    refine (callsIn_wide (n := 6)).1 ?_
    refine callsIn_of_wp Try.func63 rfl trivial ?_
    simp only [Try.ntmps63, List.size_toArray, List.length_cons, List.length_nil, Nat.reduceAdd, Nat.reduceSub, Array.replicate_succ, Array.replicate_zero, List.push_toArray, List.append_toArray, List.nil_append, List.cons_append]
    gi_wp2_with (refine wpListIn_off rfl ?_)
    go_ret
    exact ⟨by rw [e.out]; first | rfl | (simp; omega), bu1⟩
end Go.Proofs.Ytpbpbijjkmjjjaa
