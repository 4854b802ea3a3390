/- soup.Drop whatever the kind; footpathlaw05.Great; by walks. No conditions but that things lie where they are said to lie. -/
import Derived.Test.YtpbpbijjkmjjjaaUy
set_option linter.unusedSimpArgs false
set_option linter.unusedVariables false
namespace Go.Proofs.Ytpbpbijjkmjjjaa
open Go Go.RowKit Go.Sx
attribute [local go_sem] Oper.semAt_some
set_option maxHeartbeats 4000000 in
set_option maxRecDepth 100000 in
theorem sdrop_any (s : Soup) (kind i : Int) (A1 A2 A3 : Option Addr) (c1 c2 c3 : Nat) (w : World) (hs : SoupAt w w.heap.size A1 A2 A3 s) (hl : s.lens) :
    Calls Try.prog 9 #[soupv A1 A2 A3 c1 c2 c3 s, .int .i64 kind, .int .i64 i] w fun en w' => OutD s kind i en w' ∧ Below w.heap.size w w' := by
  by_cases h0 : kind = 0
  · subst h0; exact sdropTri_any s i A1 A2 A3 c1 c2 c3 w hs hl
  by_cases h1 : kind = 1
  · subst h1; exact sdropBox_any s i A1 A2 A3 c1 c2 c3 w hs hl
  by_cases h2 : kind = 2
  · subst h2; exact sdropHop_any s i A1 A2 A3 c1 c2 c3 w hs hl
  obtain ⟨u1, eu1, bu1, ku1⟩ := alloc_step w (.cells #[.slice A1 s.ts.length c1, .slice A2 s.bs.length c2, .slice A3 s.hs.length c3] 28)
  obtain ⟨u2, eu2, bu2, ku2⟩ := alloc_step u1 (.cells #[.int .i64 i] 3)
  obtain ⟨u3, eu3, bu3, ku3⟩ := alloc_step u2 (.cells #[.slice none 0 0, .slice none 0 0, .slice none 0 0] 28)
  obtain ⟨u4, eu4, bu4, ku4⟩ := alloc_step u3 (.cells #[.int .i64 0, .int .i64 0, .int .i64 0, .int .i64 0, .int .i64 0, .int .i64 0, .int .i64 0] 23)
  have hb2 := bu1.trans (bu2.mono bu1.size)
  have hb3 := hb2.trans (bu3.mono hb2.size)
  have hb4 := hb3.trans (bu4.mono hb3.size)
  have k3 := (bu4.block _ (lt_of_block ku3)).trans ku3
  obtain ⟨iT, hiT, hzT0, hzT1, hzT2⟩ := info_parts infoSoup
  have y2 := hb2.size
  have g0 : (kind == 0) = false := by simpa using h0
  have g1 : (kind == 1) = false := by simpa using h1
  have g2 : (kind == 2) = false := by simpa using h2
  replace h0 := Lib.hid h0
  clear h1 h2
  unfold soupv
  refine (callsIn_wide (n := 6)).1 ?_
  refine callsIn_of_wp Try.func9 rfl trivial ?_
  simp only [Try.ntmps9, List.size_toArray, List.length_cons, List.length_nil, Nat.reduceAdd, Nat.reduceSub, Array.replicate_succ, Array.replicate_zero, List.push_toArray, List.append_toArray, List.nil_append, List.cons_append]
  gi_wp2_with (refine wpListIn_plain rfl fun K' hK' => ?_; refine wpIn_store_boxg (.tmp 6) (.tmp 31) rfl hiT rfl rfl [.slice none 0 0, .slice none 0 0, .slice none 0 0] rfl hzT1.symm (by simp [Value.oneCell']) k3 rfl ?_; intro w7 hk7 hg7; refine hK' _ _ ?_)
  refine bodyPost_ret (results_soup2 rfl _ _ u2.heap.size _ _ _ rfl hk7) rfl ?_
  exact ⟨.inl ⟨2, by decide, fun h => absurd h h0.out, rfl⟩, below_own hb4 hb4.size hg7 y2⟩
/-- A soup that the statements do not go through. -/
def greatB (s : Soup) : Bool := decide (220 < s.ts.length) || decide (20 < s.bs.length) || decide (20 < s.hs.length)
theorem greatB_no {s : Soup} (h : greatB s = false) : s.lens := by
  simp only [greatB, Bool.or_eq_false_iff, decide_eq_false_iff_not] at h
  exact ⟨by omega, by omega, by omega⟩
theorem greatB_no3 {s : Soup} (h : greatB s = false) : s.ts.length ≤ 220 ∧ s.bs.length ≤ 20 ∧ s.hs.length ≤ 20 := by
  simp only [greatB, Bool.or_eq_false_iff, decide_eq_false_iff_not] at h
  exact ⟨by omega, by omega, by omega⟩
set_option maxHeartbeats 4000000 in
set_option maxRecDepth 100000 in
theorem great_any (s : Soup) (A1 A2 A3 : Option Addr) (c1 c2 c3 : Nat) (w : World) :
    Calls Try.prog 5 #[soupv A1 A2 A3 c1 c2 c3 s] w fun en w' => en = .returned (.bool (greatB s)) ∧ Below w.heap.size w w' := by
  obtain ⟨u1, eu1, bu1, ku1⟩ := alloc_step w (.cells #[.slice A1 s.ts.length c1, .slice A2 s.bs.length c2, .slice A3 s.hs.length c3] 28)
  obtain ⟨s0, s1, s2⟩ := box3 ku1
  unfold soupv
  by_cases h1 : (220 : Int) < (s.ts.length : Int)
  · have hg : Hid (greatB s = true) := Lib.hid (by simp [greatB]; omega)
    refine (callsIn_wide (n := 6)).1 ?_
    refine callsIn_of_wp Try.func5 rfl trivial ?_
    simp only [Try.ntmps5, List.size_toArray, List.length_cons, List.length_nil, Nat.reduceAdd, Nat.reduceSub, Array.replicate_succ, Array.replicate_zero, List.push_toArray, List.append_toArray, List.nil_append, List.cons_append]
    gi_wp2_with (refine wpListIn_off rfl ?_)
    go_ret
    exact ⟨by rw [hg.out]; first | rfl | (simp; omega), bu1⟩
  · by_cases h2 : (20 : Int) < (s.bs.length : Int)
    · have hg : Hid (greatB s = true) := Lib.hid (by simp [greatB]; omega)
      refine (callsIn_wide (n := 6)).1 ?_
      refine callsIn_of_wp Try.func5 rfl trivial ?_
      simp only [Try.ntmps5, List.size_toArray, List.length_cons, List.length_nil, Nat.reduceAdd, Nat.reduceSub, Array.replicate_succ, Array.replicate_zero, List.push_toArray, List.append_toArray, List.nil_append, List.cons_append]
      gi_wp2_with (refine wpListIn_off rfl ?_)
      go_ret
      exact ⟨by rw [hg.out]; first | rfl | (simp; omega), bu1⟩
    · by_cases h3 : (20 : Int) < (s.hs.length : Int)
      · have hg : Hid (greatB s = true) := Lib.hid (by simp [greatB]; omega)
        refine (callsIn_wide (n := 6)).1 ?_
        refine callsIn_of_wp Try.func5 rfl trivial ?_
        simp only [Try.ntmps5, List.size_toArray, List.length_cons, List.length_nil, Nat.reduceAdd, Nat.reduceSub, Array.replicate_succ, Array.replicate_zero, List.push_toArray, List.append_toArray, List.nil_append, List.cons_append]
        gi_wp2
        go_ret
        exact ⟨by rw [hg.out]; first | rfl | (simp; omega), bu1⟩
      · have hg : Hid (greatB s = false) := Lib.hid (by simp [greatB]; omega)
        refine (callsIn_wide (n := 6)).1 ?_
        refine callsIn_of_wp Try.func5 rfl trivial ?_
        simp only [Try.ntmps5, List.size_toArray, List.length_cons, List.length_nil, Nat.reduceAdd, Nat.reduceSub, Array.replicate_succ, Array.replicate_zero, List.push_toArray, List.append_toArray, List.nil_append, List.cons_append]
        gi_wp2
        go_ret
        exact ⟨by rw [hg.out]; first | rfl | (simp; omega), bu1⟩
end Go.Proofs.Ytpbpbijjkmjjjaa
