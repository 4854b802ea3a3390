/- soup.edit, soup.AddTri by walks. No conditions but that things lie where they are said to lie. -/
import Derived.Test.YtpbpbijjkmjjjaaUt
set_option linter.unusedSimpArgs false
set_option linter.unusedVariables false
namespace Go.Proofs.Ytpbpbijjkmjjjaa
open Go Go.RowKit Go.Sx
attribute [local go_sem] Oper.semAt_some
/-- What comes of a change of a soup's triangles. -/
def OutS (R0 : Int → Prop) (R1 : List T10 → Prop) (s : Soup) (en : Ending) (w' : World) : Prop :=
  (∃ e, e ≠ 0 ∧ R0 e ∧ en = .returned (.tuple #[emptyS, .int .i64 e])) ∨ ∃ l' B1 B2 B3 d1 d2 d3, R1 l' ∧ en = .returned (.tuple #[soupv B1 B2 B3 d1 d2 d3 { s with ts := l' }, .int .i64 0]) ∧ SoupAt w' w'.heap.size B1 B2 B3 { s with ts := l' }
theorem soupC_pos {a b c d e f g : Int} {s : Soup} (h : soupC a b c d e f g s ≠ 0) : soupC a b c d e f g s = 2 ∨ soupC a b c d e f g s = 20 := by
  unfold soupC at h ⊢
  split
  · split
    · rename_i h1 h2; exact absurd (by rw [if_pos h1, if_pos h2]) h
    · exact .inl rfl
  · exact .inr rfl
set_option maxHeartbeats 4000000 in
set_option maxRecDepth 100000 in
theorem edit_any (a b c d e f g : Int) (ch : Nat) (lb : Array Value) (R0 : Int → Prop) (R1 : List T10 → Prop) (s : Soup) (A1 A2 A3 : Option Addr) (c1 c2 c3 : Nat) (w : World) (hs : SoupAt w w.heap.size A1 A2 A3 s) (hl : s.lens)
    (eg : ∀ args w, (callFunc ch args).run Try.prog w = .ok (.enter ch args) w)
    (hch : soupC a b c d e f g s = 0 → ∀ (W : World) (A : Option Addr) (c : Nat), Below w.heap.size w W → Reads W W.heap.size 10 A s.ts.length (fl T10.cs s.ts) → Calls Try.prog ch (#[.slice A s.ts.length c] ++ lb) W fun en w' => Out 10 T10.cs R0 R1 en w' ∧ Below W.heap.size W w') :
    Calls Try.prog 15 #[cfgv a b c d e f g, soupv A1 A2 A3 c1 c2 c3 s, .func (.func 16) #[] #[], .func (.func ch) #[] lb] w fun en w' =>
      ((soupC a b c d e f g s ≠ 0 ∧ en = .returned (.tuple #[emptyS, .int .i64 (soupC a b c d e f g s)])) ∨ (soupC a b c d e f g s = 0 ∧ OutS R0 R1 s en w')) ∧ Below w.heap.size w w' := by
  obtain ⟨u1, eu1, bu1, ku1⟩ := alloc_step w (.cells #[.int .i64 a, .int .i64 b, .int .i64 c, .int .i64 d, .int .i64 e, .int .i64 f, .int .i64 g] 23)
  obtain ⟨u2, eu2, bu2, ku2⟩ := alloc_step u1 (.cells #[.slice A1 s.ts.length c1, .slice A2 s.bs.length c2, .slice A3 s.hs.length c3] 28)
  obtain ⟨u3, eu3, bu3, ku3⟩ := alloc_step u2 (.cells #[.slice none 0 0, .slice none 0 0, .slice none 0 0] 28)
  have hb2 := bu1.trans (bu2.mono bu1.size)
  have hb3 := hb2.trans (bu3.mono hb2.size)
  have ku1' := (bu3.block _ (lt_of_block ((bu2.block _ (lt_of_block ku1)).trans ku1))).trans ((bu2.block _ (lt_of_block ku1)).trans ku1)
  have ku2' := (bu3.block _ (lt_of_block ku2)).trans ku2
  obtain ⟨q0, q1, q2, q3, q4, q5, q6⟩ := box7 ku1'
  obtain ⟨s0, s1, s2⟩ := box3 ku2'
  obtain ⟨iT, hiT, hzT0, hzT1, hzT2⟩ := info_parts infoSoup
  have hck := scheck_any a b c d e f g s A1 A2 A3 c1 c2 c3 u3 ((hs.below hb3).more hb3.size) hl
  have hput := fun (W : World) (h : Below w.heap.size w W) (h0 : soupC a b c d e f g s = 0) => putTri_any ch lb R0 R1 s A1 A2 A3 c1 c2 c3 W ((hs.below h).more h.size) hl eg (fun W' A' c' h' => hch h0 W' A' c' (h.trans (h'.mono h.size)))
  have hcp := @soupC_pos a b c d e f g s
  generalize soupC a b c d e f g s = sc at hck hput hch hcp
  unfold soupv cfgv at hck
  unfold soupv at hput
  unfold soupv cfgv
  clear hch eg
  refine (callsIn_wide (n := 6)).1 ?_
  refine callsIn_of_wp Try.func15 rfl trivial ?_
  simp only [Try.ntmps15, List.size_toArray, List.length_cons, List.length_nil, Nat.reduceAdd, Nat.reduceSub, Array.replicate_succ, Array.replicate_zero, List.push_toArray, List.append_toArray, List.nil_append, List.cons_append]
  gi_wp2
  refine ⟨trivial, (callsIn_wide.2 hck).mono ?_⟩
  rintro en w3 ⟨rfl, hc3⟩
  have hbw3 := hb3.trans (hc3.mono hb3.size)
  have m2 := (hc3.block _ (lt_of_block ku2')).trans ku2'
  have m3 := (hc3.block _ (lt_of_block ku3)).trans ku3
  have y0 := hb2.size
  clear q0 q1 q2 q3 q4 q5 q6 s0 s1 s2 hck
  by_cases h0 : sc = 0
  · subst h0
    obtain ⟨s0, s1, s2⟩ := box3 m2
    have hp := hput w3 hbw3 rfl
    clear hput hcp
    gi_wp2
    refine ⟨trivial, (callsIn_wide.2 hp).mono ?_⟩
    rintro en w4 ⟨hout, hb4⟩
    have hbw4 := hbw3.trans (hb4.mono hbw3.size)
    have n3 := (hb4.block _ (lt_of_block m3)).trans m3
    rcases hout with ⟨er, hne, hR0, rfl⟩ | ⟨l', B1, B2, B3, d1, d2, d3, hR1, rfl, hs4⟩
    · replace hne := Lib.hid hne
      unfold emptyS
      gi_wp2_with (refine wpListIn_plain rfl fun K' hK' => ?_; refine wpIn_store_boxg (.tmp 8) (.tmp 22) rfl hiT rfl rfl [.slice none 0 0, .slice none 0 0, .slice none 0 0] rfl hzT1.symm (by simp [Value.oneCell']) n3 rfl ?_; intro w7 hk7 hg7; refine hK' _ _ ?_)
      refine bodyPost_ret (results_soup2 rfl _ _ u2.heap.size _ _ _ rfl hk7) rfl ?_
      exact ⟨.inl ⟨er, hne.out, hR0, rfl⟩, below_own hbw4 hbw4.size hg7 y0⟩
    · gi_wp2_with (refine wpListIn_plain rfl fun K' hK' => ?_; refine wpIn_store_boxg (.tmp 8) (.tmp 22) rfl hiT rfl rfl [.slice B1 l'.length d1, .slice B2 s.bs.length d2, .slice B3 s.hs.length d3] rfl hzT1.symm (by simp [Value.oneCell']) n3 rfl ?_; intro w7 hk7 hg7; refine hK' _ _ ?_)
      refine bodyPost_ret (results_soup2 rfl _ _ u2.heap.size _ _ _ rfl hk7) rfl ?_
      exact ⟨.inr ⟨l', B1, B2, B3, d1, d2, d3, hR1, rfl, (hs4.more hg7.size).apart n3 hg7⟩, below_own hbw4 hbw4.size hg7 y0⟩
  · have h0' : (sc != 0) = true := by simpa using h0
    clear hput
    replace h0 := Lib.hid h0
    gi_wp2_with (refine wpListIn_plain rfl fun K' hK' => ?_; refine wpIn_store_boxg (.tmp 8) (.tmp 16) rfl hiT rfl rfl [.slice none 0 0, .slice none 0 0, .slice none 0 0] rfl hzT1.symm (by simp [Value.oneCell']) m3 rfl ?_; intro w7 hk7 hg7; refine hK' _ _ ?_)
    refine bodyPost_ret (results_soup2 rfl _ _ u2.heap.size _ _ _ rfl hk7) rfl ?_
    exact ⟨.inl ⟨h0.out, rfl⟩, below_own hbw3 hbw3.size hg7 y0⟩
/-- Why a triangle is not added to rows that may be. -/
def addR0 (W D : Int) (r : List T10) (t : T10) (e : Int) : Prop :=
  (e = 40 ∧ oneF T10.id (triMay W D) t = false) ∨ (e = 50 ∧ oneF T10.id (triMay W D) t = true ∧ ∃ x ∈ r, x.id = t.id) ∨ (e = 51 ∧ oneF T10.id (triMay W D) t = true ∧ (¬ ∃ x ∈ r, x.id = t.id) ∧ 200 ≤ r.length)
/-- What it is added to. -/
def addR1 (W D : Int) (r : List T10) (t : T10) (l' : List T10) : Prop :=
  oneF T10.id (triMay W D) t = true ∧ (¬ ∃ x ∈ r, x.id = t.id) ∧ r.length < 200 ∧ ∃ k, PlaceAt r t.id k ∧ l' = insAt r k t
theorem insAt_len {r : List T10} {i : Int} {k : Nat} {t : T10} (h : PlaceAt r i k) : (insAt r k t).length = r.length + 1 := insAt_length h.1
set_option maxHeartbeats 4000000 in
set_option maxRecDepth 100000 in
theorem addc_any (a b c d e f g : Int) (t : T10) (r : List T10) (A : Option Addr) (cap C P : Nat) (w : World) (hC : w.heap[C]? = some (.cells #[.int .i64 a, .int .i64 b, .int .i64 c, .int .i64 d, .int .i64 e, .int .i64 f, .int .i64 g] 23 (0, 0))) (hP : w.heap[P]? = some (.cells #[.int .i64 t.id, .int .i64 t.x0, .int .i64 t.y0, .int .i64 t.z0, .int .i64 t.x1, .int .i64 t.y1, .int .i64 t.z1, .int .i64 t.x2, .int .i64 t.y2, .int .i64 t.z2] 33 (0, 0)))
    (hr : Reads w w.heap.size 10 A r.length (fl T10.cs r)) (hl : r.length ≤ 1000) (hck : chk (oneF T10.id (triMay f g)) T10.id 0 r = true) :
    Calls Try.prog 17 #[.slice A r.length cap, .pointer (some ⟨C, 0, none⟩), .pointer (some ⟨P, 0, none⟩)] w fun en w' => Out 10 T10.cs (addR0 f g r t) (addR1 f g r t) en w' ∧ Below w.heap.size w w' := by
  obtain ⟨q0, q1, q2, q3, q4, q5, q6⟩ := box7 hC
  obtain ⟨p0, p1, p2, p3, p4, p5, p6, p7, p8, p9⟩ := box10 hP
  have z1 := lt_of_block hC
  have z2 := lt_of_block hP
  have had := fun (x y : Value) (W : World) (hm : MayAt 42 #[x, y] T10.v (triMay f g) W) (h : Below w.heap.size w W) => addTri_any (triMay f g) x y 40 r A cap t W hm ((hr.below h).more h.size) hl hck
  unfold listv T10.v at had
  refine (callsIn_wide (n := 6)).1 ?_
  refine callsIn_of_wp Try.func17 rfl trivial ?_
  simp only [Try.ntmps17, List.size_toArray, List.length_cons, List.length_nil, Nat.reduceAdd, Nat.reduceSub, Array.replicate_succ, Array.replicate_zero, List.push_toArray, List.append_toArray, List.nil_append, List.cons_append]
  gi_wp2
  have hS : (CellsL [(⟨C, 5, none⟩, .int .i64 f), (⟨C, 6, none⟩, .int .i64 g), (⟨P, 0, none⟩, .int .i64 t.id), (⟨P, 1, none⟩, .int .i64 t.x0), (⟨P, 2, none⟩, .int .i64 t.y0), (⟨P, 3, none⟩, .int .i64 t.z0), (⟨P, 4, none⟩, .int .i64 t.x1), (⟨P, 5, none⟩, .int .i64 t.y1), (⟨P, 6, none⟩, .int .i64 t.z1), (⟨P, 7, none⟩, .int .i64 t.x2), (⟨P, 8, none⟩, .int .i64 t.y2), (⟨P, 9, none⟩, .int .i64 t.z2)]) (w.drew) := ⟨q5, q6, p0, p1, p2, p3, p4, p5, p6, p7, p8, p9, trivial⟩
  refine wpIn_region_ord [(0, true), (1, true), (2, true), (3, true), (5, true), (6, true), (4, false), (7, false), (8, true), (9, true), (10, true)] (CellsL [(⟨C, 5, none⟩, .int .i64 f), (⟨C, 6, none⟩, .int .i64 g), (⟨P, 0, none⟩, .int .i64 t.id), (⟨P, 1, none⟩, .int .i64 t.x0), (⟨P, 2, none⟩, .int .i64 t.y0), (⟨P, 3, none⟩, .int .i64 t.z0), (⟨P, 4, none⟩, .int .i64 t.x1), (⟨P, 5, none⟩, .int .i64 t.y1), (⟨P, 6, none⟩, .int .i64 t.z1), (⟨P, 7, none⟩, .int .i64 t.x2), (⟨P, 8, none⟩, .int .i64 t.y2), (⟨P, 9, none⟩, .int .i64 t.z2)]) (fun _ => trivial) rfl (by first | exact then_put rfl | (intro c d v a w h; cases d <;> exact h)) (by kernel_rfl) ?_
  simp only [List.length_cons, List.length_nil, Nat.reduceAdd, List.drop_succ_cons, List.drop_zero]
  iterate 6 (apply wpOrd_quiet rfl hS rfl; (intro w' hw'; obtain ⟨q0, q1, q2, q3, q4, q5, q6, q7, q8, q9, q10, q11, _⟩ := hw'; go_simp; exact rfl); go_simp)
  refine wpOrd_move rfl rfl ?_
  go_simp
  refine ⟨trivial, (callsIn_wide.2 (tris_any f g _)).mono ?_⟩
  rintro en w4 ⟨⟨xa, xb, rfl, hma⟩, hd4⟩
  have hb4 : Below w.heap.size w w4 := ⟨hd4.os, hd4.tape, hd4.output, hd4.size, hd4.block⟩
  replace hS := CellsL.keep hd4 hS ⟨z1, z1, z2, z2, z2, z2, z2, z2, z2, z2, z2, z2, trivial⟩
  unfold listv
  refine ⟨hS, ?_⟩
  go_simp
  refine wpOrd_move rfl rfl ?_
  go_simp
  refine ⟨trivial, (callsIn_wide.2 (had xa xb w4 hma hb4)).mono ?_⟩
  rintro en w5 ⟨hout, hb5⟩
  have y1 := Nat.lt_of_lt_of_le z1 hb4.size
  have y2 := Nat.lt_of_lt_of_le z2 hb4.size
  replace hS := CellsL.keep hb5 hS ⟨y1, y1, y2, y2, y2, y2, y2, y2, y2, y2, y2, y2, trivial⟩
  obtain ⟨vv, ve, rfl, hO⟩ : ∃ vv ve, en = .returned (.tuple #[vv, ve]) ∧ Out 10 T10.cs (addR0 f g r t) (addR1 f g r t) (.returned (.tuple #[vv, ve])) w5 := by
    rcases hout with ⟨h1, rfl⟩ | ⟨h1, h2, rfl⟩ | ⟨h1, h2, h3, rfl⟩ | ⟨h1, h2, h3, k, hpl, A', c', rfl, hr5⟩
    · exact ⟨_, _, rfl, .inl ⟨40, by decide, .inl ⟨rfl, h1⟩, rfl⟩⟩
    · exact ⟨_, _, rfl, .inl ⟨50, by decide, .inr (.inl ⟨rfl, h1, h2⟩), rfl⟩⟩
    · exact ⟨_, _, rfl, .inl ⟨51, by decide, .inr (.inr ⟨rfl, h1, h2, h3⟩), rfl⟩⟩
    · exact ⟨_, _, rfl, .inr ⟨insAt r k t, A', c', ⟨h1, h2, h3, k, hpl, rfl⟩, by rw [insAt_len hpl], by rw [insAt_len hpl]; exact hr5⟩⟩
  replace hO := Lib.hid hO
  refine ⟨hS, ?_⟩
  go_simp
  iterate 3 (apply wpOrd_quiet rfl hS rfl; (intro w' hw'; obtain ⟨q0, q1, q2, q3, q4, q5, q6, q7, q8, q9, q10, q11, _⟩ := hw'; go_simp; exact rfl); go_simp)
  refine wpOrd_nil ?_
  clear hS
  gi_wp2
  go_ret2
  exact ⟨hO.out, hb4.trans (hb5.mono hb4.size)⟩
end Go.Proofs.Ytpbpbijjkmjjjaa
