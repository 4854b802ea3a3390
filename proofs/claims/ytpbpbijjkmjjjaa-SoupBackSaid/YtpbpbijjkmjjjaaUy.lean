/- soup.Drop by a walk. No conditions but that things lie where they are said to lie. -/
import Derived.Test.YtpbpbijjkmjjjaaUx
set_option linter.unusedSimpArgs false
set_option linter.unusedVariables false
namespace Go.Proofs.Ytpbpbijjkmjjjaa
open Go Go.RowKit Go.Sx
attribute [local go_sem] Oper.semAt_some
/-- What comes of a thing dropped. -/
def OutD (s : Soup) (kind i : Int) (en : Ending) (w' : World) : Prop :=
  (∃ e, e ≠ 0 ∧ (kind = 0 → ∀ x ∈ s.ts, x.id ≠ i) ∧ en = .returned (.tuple #[emptyS, .int .i64 e])) ∨
  (kind = 0 ∧ ∃ l' B1 B2 B3 d1 d2 d3, dropR1 T10.id i s.ts l' ∧ en = .returned (.tuple #[soupv B1 B2 B3 d1 d2 d3 { s with ts := l' }, .int .i64 0]) ∧ SoupAt w' w'.heap.size B1 B2 B3 { s with ts := l' }) ∨
  (kind = 1 ∧ ∃ l' B1 B2 B3 d1 d2 d3, dropR1 B8.id i s.bs l' ∧ en = .returned (.tuple #[soupv B1 B2 B3 d1 d2 d3 { s with bs := l' }, .int .i64 0]) ∧ SoupAt w' w'.heap.size B1 B2 B3 { s with bs := l' }) ∨
  (kind = 2 ∧ ∃ l' B1 B2 B3 d1 d2 d3, dropR1 H10.id i s.hs l' ∧ en = .returned (.tuple #[soupv B1 B2 B3 d1 d2 d3 { s with hs := l' }, .int .i64 0]) ∧ SoupAt w' w'.heap.size B1 B2 B3 { s with hs := l' })
set_option maxHeartbeats 4000000 in
set_option maxRecDepth 100000 in
theorem sdropTri_any (s : Soup) (i : Int) (A1 A2 A3 : Option Addr) (c1 c2 c3 : Nat) (w : World) (hs : SoupAt w w.heap.size A1 A2 A3 s) (hl : s.lens) :
    Calls Try.prog 9 #[soupv A1 A2 A3 c1 c2 c3 s, .int .i64 0, .int .i64 i] w fun en w' => OutD s 0 i en w' ∧ Below w.heap.size w w' := by
  obtain ⟨u1, eu1, bu1, ku1⟩ := alloc_step w (.cells #[.slice A1 s.ts.length c1, .slice A2 s.bs.length c2, .slice A3 s.hs.length c3] 28)
  obtain ⟨u2, eu2, bu2, ku2⟩ := alloc_step u1 (.cells #[.int .i64 i] 3)
  obtain ⟨u3, eu3, bu3, ku3⟩ := alloc_step u2 (.cells #[.slice none 0 0, .slice none 0 0, .slice none 0 0] 28)
  obtain ⟨u4, eu4, bu4, ku4⟩ := alloc_step u3 (.cells #[.int .i64 0, .int .i64 0, .int .i64 0, .int .i64 0, .int .i64 0, .int .i64 0, .int .i64 0] 23)
  have hb2 := bu1.trans (bu2.mono bu1.size)
  have hb3 := hb2.trans (bu3.mono hb2.size)
  have hb4 := hb3.trans (bu4.mono hb3.size)
  have b34 := bu3.trans (bu4.mono bu3.size)
  have b24 := bu2.trans (b34.mono bu2.size)
  have k1 := (b24.block _ (lt_of_block ku1)).trans ku1
  have k2 := (b34.block _ (lt_of_block ku2)).trans ku2
  have k3 := (bu4.block _ (lt_of_block ku3)).trans ku3
  obtain ⟨s0, s1, s2⟩ := box3 k1
  obtain ⟨iT, hiT, hzT0, hzT1, hzT2⟩ := info_parts infoSoup
  have hpu := putTri_any 22 #[.pointer (some ⟨u1.heap.size, 0, none⟩)] (dropR0 T10.id i s.ts) (dropR1 T10.id i s.ts) s A1 A2 A3 c1 c2 c3 u4 ((hs.below hb4).more hb4.size) hl (enters_of Try.func22 (by kernel_rfl) rfl)
    (fun W A c' hW hr => dropcTri_any i s.ts A c' u1.heap.size W  ((hW.cell (p := ⟨u1.heap.size, 0, none⟩) (lt_of_block k2)).trans (cell_of k2 rfl)) (Nat.lt_of_lt_of_le (lt_of_block k2) hW.size) hr hl.1)
  have y2 := hb2.size
  unfold soupv at hpu
  unfold soupv
  refine (callsIn_wide (n := 6)).1 ?_
  refine callsIn_of_wp Try.func9 rfl trivial ?_
  simp only [Try.ntmps9, List.size_toArray, List.length_cons, List.length_nil, Nat.reduceAdd, Nat.reduceSub, Array.replicate_succ, Array.replicate_zero, List.push_toArray, List.append_toArray, List.nil_append, List.cons_append]
  gi_wp2
  refine ⟨trivial, (callsIn_wide.2 hpu).mono ?_⟩
  rintro en w5 ⟨hout, hb5⟩
  have hbw5 := hb4.trans (hb5.mono hb4.size)
  have n3 := (hb5.block _ (lt_of_block k3)).trans k3
  clear s0 s1 s2 hpu
  rcases hout with ⟨er, hne, hR0, rfl⟩ | ⟨l', B1, B2, B3, d1, d2, d3, hR1, rfl, hs5⟩
  · replace hne := Lib.hid hne
    replace hR0 := Lib.hid hR0
    unfold emptyS
    gi_wp2_with (refine wpListIn_plain rfl fun K' hK' => ?_; refine wpIn_store_boxg (.tmp 6) (.tmp 15) rfl hiT rfl rfl [.slice none 0 0, .slice none 0 0, .slice none 0 0] rfl hzT1.symm (by simp [Value.oneCell']) n3 rfl ?_; intro w7 hk7 hg7; refine hK' _ _ ?_)
    refine bodyPost_ret (results_soup2 rfl _ _ u2.heap.size _ _ _ rfl hk7) rfl ?_
    exact ⟨.inl ⟨er, hne.out, fun _ => hR0.out.2, rfl⟩, below_own hbw5 hbw5.size hg7 y2⟩
  · replace hR1 := Lib.hid hR1
    gi_wp2_with (refine wpListIn_plain rfl fun K' hK' => ?_; refine wpIn_store_boxg (.tmp 6) (.tmp 15) rfl hiT rfl rfl [.slice B1 l'.length d1, .slice B2 s.bs.length d2, .slice B3 s.hs.length d3] rfl hzT1.symm (by simp [Value.oneCell']) n3 rfl ?_; intro w7 hk7 hg7; refine hK' _ _ ?_)
    refine bodyPost_ret (results_soup2 rfl _ _ u2.heap.size _ _ _ rfl hk7) rfl ?_
    exact ⟨.inr (.inl ⟨rfl, l', B1, B2, B3, d1, d2, d3, hR1.out, rfl, (hs5.more hg7.size).apart n3 hg7⟩), below_own hbw5 hbw5.size hg7 y2⟩
set_option maxHeartbeats 4000000 in
set_option maxRecDepth 100000 in
theorem sdropBox_any (s : Soup) (i : Int) (A1 A2 A3 : Option Addr) (c1 c2 c3 : Nat) (w : World) (hs : SoupAt w w.heap.size A1 A2 A3 s) (hl : s.lens) :
    Calls Try.prog 9 #[soupv A1 A2 A3 c1 c2 c3 s, .int .i64 1, .int .i64 i] w fun en w' => OutD s 1 i en w' ∧ Below w.heap.size w w' := by
  obtain ⟨u1, eu1, bu1, ku1⟩ := alloc_step w (.cells #[.slice A1 s.ts.length c1, .slice A2 s.bs.length c2, .slice A3 s.hs.length c3] 28)
  obtain ⟨u2, eu2, bu2, ku2⟩ := alloc_step u1 (.cells #[.int .i64 i] 3)
  obtain ⟨u3, eu3, bu3, ku3⟩ := alloc_step u2 (.cells #[.slice none 0 0, .slice none 0 0, .slice none 0 0] 28)
  obtain ⟨u4, eu4, bu4, ku4⟩ := alloc_step u3 (.cells #[.int .i64 0, .int .i64 0, .int .i64 0, .int .i64 0, .int .i64 0, .int .i64 0, .int .i64 0] 23)
  have hb2 := bu1.trans (bu2.mono bu1.size)
  have hb3 := hb2.trans (bu3.mono hb2.size)
  have hb4 := hb3.trans (bu4.mono hb3.size)
  have b34 := bu3.trans (bu4.mono bu3.size)
  have b24 := bu2.trans (b34.mono bu2.size)
  have k1 := (b24.block _ (lt_of_block ku1)).trans ku1
  have k2 := (b34.block _ (lt_of_block ku2)).trans ku2
  have k3 := (bu4.block _ (lt_of_block ku3)).trans ku3
  obtain ⟨s0, s1, s2⟩ := box3 k1
  obtain ⟨iT, hiT, hzT0, hzT1, hzT2⟩ := info_parts infoSoup
  have hpu := putBox_any 26 #[.pointer (some ⟨u3.heap.size, 0, none⟩), .pointer (some ⟨u1.heap.size, 0, none⟩)] (dropR0 B8.id i s.bs) (dropR1 B8.id i s.bs) s A1 A2 A3 c1 c2 c3 u4 ((hs.below hb4).more hb4.size) hl (enters_of Try.func26 (by kernel_rfl) rfl)
    (fun W A c' hW hr => dropcBox_any i s.bs A c' u3.heap.size u1.heap.size W ((hW.block _ (lt_of_block ku4)).trans ku4) ((hW.cell (p := ⟨u1.heap.size, 0, none⟩) (lt_of_block k2)).trans (cell_of k2 rfl)) (Nat.lt_of_lt_of_le (lt_of_block k2) hW.size) hr hl.2.1)
  have y2 := hb2.size
  unfold soupv at hpu
  unfold soupv
  refine (callsIn_wide (n := 6)).1 ?_
  refine callsIn_of_wp Try.func9 rfl trivial ?_
  simp only [Try.ntmps9, List.size_toArray, List.length_cons, List.length_nil, Nat.reduceAdd, Nat.reduceSub, Array.replicate_succ, Array.replicate_zero, List.push_toArray, List.append_toArray, List.nil_append, List.cons_append]
  gi_wp2
  refine ⟨trivial, (callsIn_wide.2 hpu).mono ?_⟩
  rintro en w5 ⟨hout, hb5⟩
  have hbw5 := hb4.trans (hb5.mono hb4.size)
  have n3 := (hb5.block _ (lt_of_block k3)).trans k3
  clear s0 s1 s2 hpu
  rcases hout with ⟨er, hne, hR0, rfl⟩ | ⟨l', B1, B2, B3, d1, d2, d3, hR1, rfl, hs5⟩
  · replace hne := Lib.hid hne
    replace hR0 := Lib.hid hR0
    unfold emptyS
    gi_wp2_with (refine wpListIn_plain rfl fun K' hK' => ?_; refine wpIn_store_boxg (.tmp 6) (.tmp 22) rfl hiT rfl rfl [.slice none 0 0, .slice none 0 0, .slice none 0 0] rfl hzT1.symm (by simp [Value.oneCell']) n3 rfl ?_; intro w7 hk7 hg7; refine hK' _ _ ?_)
    refine bodyPost_ret (results_soup2 rfl _ _ u2.heap.size _ _ _ rfl hk7) rfl ?_
    exact ⟨.inl ⟨er, hne.out, fun h => absurd h (by decide), rfl⟩, below_own hbw5 hbw5.size hg7 y2⟩
  · replace hR1 := Lib.hid hR1
    gi_wp2_with (refine wpListIn_plain rfl fun K' hK' => ?_; refine wpIn_store_boxg (.tmp 6) (.tmp 22) rfl hiT rfl rfl [.slice B1 s.ts.length d1, .slice B2 l'.length d2, .slice B3 s.hs.length d3] rfl hzT1.symm (by simp [Value.oneCell']) n3 rfl ?_; intro w7 hk7 hg7; refine hK' _ _ ?_)
    refine bodyPost_ret (results_soup2 rfl _ _ u2.heap.size _ _ _ rfl hk7) rfl ?_
    exact ⟨.inr (.inr (.inl ⟨rfl, l', B1, B2, B3, d1, d2, d3, hR1.out, rfl, (hs5.more hg7.size).apart n3 hg7⟩)), below_own hbw5 hbw5.size hg7 y2⟩
set_option maxHeartbeats 4000000 in
set_option maxRecDepth 100000 in
theorem sdropHop_any (s : Soup) (i : Int) (A1 A2 A3 : Option Addr) (c1 c2 c3 : Nat) (w : World) (hs : SoupAt w w.heap.size A1 A2 A3 s) (hl : s.lens) :
    Calls Try.prog 9 #[soupv A1 A2 A3 c1 c2 c3 s, .int .i64 2, .int .i64 i] w fun en w' => OutD s 2 i en w' ∧ Below w.heap.size w w' := by
  obtain ⟨u1, eu1, bu1, ku1⟩ := alloc_step w (.cells #[.slice A1 s.ts.length c1, .slice A2 s.bs.length c2, .slice A3 s.hs.length c3] 28)
  obtain ⟨u2, eu2, bu2, ku2⟩ := alloc_step u1 (.cells #[.int .i64 i] 3)
  obtain ⟨u3, eu3, bu3, ku3⟩ := alloc_step u2 (.cells #[.slice none 0 0, .slice none 0 0, .slice none 0 0] 28)
  obtain ⟨u4, eu4, bu4, ku4⟩ := alloc_step u3 (.cells #[.int .i64 0, .int .i64 0, .int .i64 0, .int .i64 0, .int .i64 0, .int .i64 0, .int .i64 0] 23)
  have hb2 := bu1.trans (bu2.mono bu1.size)
  have hb3 := hb2.trans (bu3.mono hb2.size)
  have hb4 := hb3.trans (bu4.mono hb3.size)
  have b34 := bu3.trans (bu4.mono bu3.size)
  have b24 := bu2.trans (b34.mono bu2.size)
  have k1 := (b24.block _ (lt_of_block ku1)).trans ku1
  have k2 := (b34.block _ (lt_of_block ku2)).trans ku2
  have k3 := (bu4.block _ (lt_of_block ku3)).trans ku3
  obtain ⟨s0, s1, s2⟩ := box3 k1
  obtain ⟨iT, hiT, hzT0, hzT1, hzT2⟩ := info_parts infoSoup
  have hpu := putHop_any 31 #[.pointer (some ⟨u3.heap.size, 0, none⟩), .pointer (some ⟨u1.heap.size, 0, none⟩)] (dropR0 H10.id i s.hs) (dropR1 H10.id i s.hs) s A1 A2 A3 c1 c2 c3 u4 ((hs.below hb4).more hb4.size) hl (enters_of Try.func31 (by kernel_rfl) rfl)
    (fun W A c' hW hr => dropcHop_any i s.hs A c' u3.heap.size u1.heap.size W ((hW.block _ (lt_of_block ku4)).trans ku4) ((hW.cell (p := ⟨u1.heap.size, 0, none⟩) (lt_of_block k2)).trans (cell_of k2 rfl)) (Nat.lt_of_lt_of_le (lt_of_block k2) hW.size) hr hl.2.2)
  have y2 := hb2.size
  unfold soupv at hpu
  unfold soupv
  refine (callsIn_wide (n := 6)).1 ?_
  refine callsIn_of_wp Try.func9 rfl trivial ?_
  simp only [Try.ntmps9, List.size_toArray, List.length_cons, List.length_nil, Nat.reduceAdd, Nat.reduceSub, Array.replicate_succ, Array.replicate_zero, List.push_toArray, List.append_toArray, List.nil_append, List.cons_append]
  gi_wp2
  refine ⟨trivial, (callsIn_wide.2 hpu).mono ?_⟩
  rintro en w5 ⟨hout, hb5⟩
  have hbw5 := hb4.trans (hb5.mono hb4.size)
  have n3 := (hb5.block _ (lt_of_block k3)).trans k3
  clear s0 s1 s2 hpu
  rcases hout with ⟨er, hne, hR0, rfl⟩ | ⟨l', B1, B2, B3, d1, d2, d3, hR1, rfl, hs5⟩
  · replace hne := Lib.hid hne
    replace hR0 := Lib.hid hR0
    unfold emptyS
    gi_wp2_with (refine wpListIn_plain rfl fun K' hK' => ?_; refine wpIn_store_boxg (.tmp 6) (.tmp 29) rfl hiT rfl rfl [.slice none 0 0, .slice none 0 0, .slice none 0 0] rfl hzT1.symm (by simp [Value.oneCell']) n3 rfl ?_; intro w7 hk7 hg7; refine hK' _ _ ?_)
    refine bodyPost_ret (results_soup2 rfl _ _ u2.heap.size _ _ _ rfl hk7) rfl ?_
    exact ⟨.inl ⟨er, hne.out, fun h => absurd h (by decide), rfl⟩, below_own hbw5 hbw5.size hg7 y2⟩
  · replace hR1 := Lib.hid hR1
    gi_wp2_with (refine wpListIn_plain rfl fun K' hK' => ?_; refine wpIn_store_boxg (.tmp 6) (.tmp 29) rfl hiT rfl rfl [.slice B1 s.ts.length d1, .slice B2 s.bs.length d2, .slice B3 l'.length d3] rfl hzT1.symm (by simp [Value.oneCell']) n3 rfl ?_; intro w7 hk7 hg7; refine hK' _ _ ?_)
    refine bodyPost_ret (results_soup2 rfl _ _ u2.heap.size _ _ _ rfl hk7) rfl ?_
    exact ⟨.inr (.inr (.inr ⟨rfl, l', B1, B2, B3, d1, d2, d3, hR1.out, rfl, (hs5.more hg7.size).apart n3 hg7⟩)), below_own hbw5 hbw5.size hg7 y2⟩
end Go.Proofs.Ytpbpbijjkmjjjaa
