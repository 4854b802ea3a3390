/- soup.AddTri, soup.Tri by walks. No conditions but that things lie where they are said to lie. -/
import Derived.Test.YtpbpbijjkmjjjaaUv
set_option linter.unusedSimpArgs false
set_option linter.unusedVariables false
namespace Go.Proofs.Ytpbpbijjkmjjjaa
open Go Go.RowKit Go.Sx
attribute [local go_sem] Oper.semAt_some
theorem soupC_zero {a b c d e f g : Int} {s : Soup} (h : soupC a b c d e f g s = 0) : checkF a b c d e f g = 0 ∧ rowsOk f g s = true := by
  unfold soupC at h
  split at h
  · split at h
    · rename_i h1 h2; exact ⟨h1, h2⟩
    · cases h
  · cases h
theorem rows_t {f g : Int} {s : Soup} (h : rowsOk f g s = true) : s.ts.length ≤ 200 ∧ chk (oneF T10.id (triMay f g)) T10.id 0 s.ts = true := by
  simp only [rowsOk, rowOk, Bool.and_eq_true, decide_eq_true_eq] at h
  exact ⟨by omega, h.1.1.2⟩
set_option maxHeartbeats 4000000 in
set_option maxRecDepth 100000 in
theorem addS_any (a b c d e f g : Int) (s : Soup) (t : T10) (A1 A2 A3 : Option Addr) (c1 c2 c3 : Nat) (w : World) (hs : SoupAt w w.heap.size A1 A2 A3 s) (hl : s.lens) :
    Calls Try.prog 7 #[cfgv a b c d e f g, soupv A1 A2 A3 c1 c2 c3 s, t.v] w fun en w' =>
      ((soupC a b c d e f g s ≠ 0 ∧ en = .returned (.tuple #[emptyS, .int .i64 (soupC a b c d e f g s)])) ∨ (soupC a b c d e f g s = 0 ∧ OutS (addR0 f g s.ts t) (addR1 f g s.ts t) s en w')) ∧ Below w.heap.size w w' := by
  obtain ⟨u1, eu1, bu1, ku1⟩ := alloc_step w (.cells #[.int .i64 a, .int .i64 b, .int .i64 c, .int .i64 d, .int .i64 e, .int .i64 f, .int .i64 g] 23)
  obtain ⟨u2, eu2, bu2, ku2⟩ := alloc_step u1 (.cells #[.slice A1 s.ts.length c1, .slice A2 s.bs.length c2, .slice A3 s.hs.length c3] 28)
  obtain ⟨u3, eu3, bu3, ku3⟩ := alloc_step u2 (.cells #[.int .i64 t.id, .int .i64 t.x0, .int .i64 t.y0, .int .i64 t.z0, .int .i64 t.x1, .int .i64 t.y1, .int .i64 t.z1, .int .i64 t.x2, .int .i64 t.y2, .int .i64 t.z2] 33)
  obtain ⟨u4, eu4, bu4, ku4⟩ := alloc_step u3 (.cells #[.slice none 0 0, .slice none 0 0, .slice none 0 0] 28)
  have hb2 := bu1.trans (bu2.mono bu1.size)
  have hb3 := hb2.trans (bu3.mono hb2.size)
  have hb4 := hb3.trans (bu4.mono hb3.size)
  have b34 := bu3.trans (bu4.mono bu3.size)
  have b24 := bu2.trans (b34.mono bu2.size)
  have k1 := (b24.block _ (lt_of_block ku1)).trans ku1
  have k2 := (b34.block _ (lt_of_block ku2)).trans ku2
  have k3 := (bu4.block _ (lt_of_block ku3)).trans ku3
  obtain ⟨q0, q1, q2, q3, q4, q5, q6⟩ := box7 k1
  obtain ⟨s0, s1, s2⟩ := box3 k2
  obtain ⟨iT, hiT, hzT0, hzT1, hzT2⟩ := info_parts infoSoup
  have hed := edit_any a b c d e f g 17 #[.pointer (some ⟨w.heap.size, 0, none⟩), .pointer (some ⟨u2.heap.size, 0, none⟩)] (addR0 f g s.ts t) (addR1 f g s.ts t) s A1 A2 A3 c1 c2 c3 u4 ((hs.below hb4).more hb4.size) hl (enters_of Try.func17 (by kernel_rfl) rfl)
    (fun h0 W A c' hW hr => addc_any a b c d e f g t s.ts A c' w.heap.size u2.heap.size W ((hW.block _ (lt_of_block k1)).trans k1) ((hW.block _ (lt_of_block k3)).trans k3) hr hl.1 (rows_t (soupC_zero h0).2).2)
  have y3 := hb3.size
  generalize soupC a b c d e f g s = sc at hed
  unfold cfgv at hed
  unfold soupv at hed
  unfold soupv cfgv T10.v
  refine (callsIn_wide (n := 6)).1 ?_
  refine callsIn_of_wp Try.func7 rfl trivial ?_
  simp only [Try.ntmps7, List.size_toArray, List.length_cons, List.length_nil, Nat.reduceAdd, Nat.reduceSub, Array.replicate_succ, Array.replicate_zero, List.push_toArray, List.append_toArray, List.nil_append, List.cons_append]
  gi_wp2
  refine ⟨trivial, (callsIn_wide.2 hed).mono ?_⟩
  rintro en w5 ⟨hout, hb5⟩
  have hbw5 := hb4.trans (hb5.mono hb4.size)
  have n4 := (hb5.block _ (lt_of_block ku4)).trans ku4
  clear q0 q1 q2 q3 q4 q5 q6 s0 s1 s2 hed
  rcases hout with ⟨h0, rfl⟩ | ⟨h0, ⟨er, hne, hR0, rfl⟩ | ⟨l', B1, B2, B3, d1, d2, d3, hR1, rfl, hs5⟩⟩
  · replace h0 := Lib.hid h0
    unfold emptyS
    gi_wp2_with (refine wpListIn_plain rfl fun K' hK' => ?_; refine wpIn_store_boxg (.tmp 6) (.tmp 12) rfl hiT rfl rfl [.slice none 0 0, .slice none 0 0, .slice none 0 0] rfl hzT1.symm (by simp [Value.oneCell']) n4 rfl ?_; intro w7 hk7 hg7; refine hK' _ _ ?_)
    refine bodyPost_ret (results_soup2 rfl _ _ u3.heap.size _ _ _ rfl hk7) rfl ?_
    exact ⟨.inl ⟨h0.out, rfl⟩, below_own hbw5 hbw5.size hg7 y3⟩
  · replace h0 := Lib.hid h0
    replace hne := Lib.hid hne
    unfold emptyS
    gi_wp2_with (refine wpListIn_plain rfl fun K' hK' => ?_; refine wpIn_store_boxg (.tmp 6) (.tmp 12) rfl hiT rfl rfl [.slice none 0 0, .slice none 0 0, .slice none 0 0] rfl hzT1.symm (by simp [Value.oneCell']) n4 rfl ?_; intro w7 hk7 hg7; refine hK' _ _ ?_)
    refine bodyPost_ret (results_soup2 rfl _ _ u3.heap.size _ _ _ rfl hk7) rfl ?_
    exact ⟨.inr ⟨h0.out, .inl ⟨er, hne.out, hR0, rfl⟩⟩, below_own hbw5 hbw5.size hg7 y3⟩
  · replace h0 := Lib.hid h0
    unfold soupv
    simp only
    gi_wp2_with (refine wpListIn_plain rfl fun K' hK' => ?_; refine wpIn_store_boxg (.tmp 6) (.tmp 12) rfl hiT rfl rfl [.slice B1 l'.length d1, .slice B2 s.bs.length d2, .slice B3 s.hs.length d3] rfl hzT1.symm (by simp [Value.oneCell']) n4 rfl ?_; intro w7 hk7 hg7; refine hK' _ _ ?_)
    refine bodyPost_ret (results_soup2 rfl _ _ u3.heap.size _ _ _ rfl hk7) rfl ?_
    exact ⟨.inr ⟨h0.out, .inr ⟨l', B1, B2, B3, d1, d2, d3, hR1, rfl, (hs5.more hg7.size).apart n4 hg7⟩⟩, below_own hbw5 hbw5.size hg7 y3⟩
end Go.Proofs.Ytpbpbijjkmjjjaa
