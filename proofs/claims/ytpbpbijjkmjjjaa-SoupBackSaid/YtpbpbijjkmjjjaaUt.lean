/- soup.own, soup.put: a soup of which one row is changed; by walks. No conditions but those named. -/
import Derived.Test.YtpbpbijjkmjjjaaUs
set_option linter.unusedSimpArgs false
set_option linter.unusedVariables false
namespace Go.Proofs.Ytpbpbijjkmjjjaa
open Go Go.RowKit Go.Sx
attribute [local go_sem] Oper.semAt_some
theorem infoSoup : (Try.prog.info? 28).map (fun i => (i.zero, i.size, i.bytes)) = some (some (.agg #[.slice none 0 0, .slice none 0 0, .slice none 0 0]), 3, 72) := by kernel_rfl
set_option maxHeartbeats 4000000 in
set_option maxRecDepth 100000 in
theorem own_any (s : Soup) (A1 A2 A3 : Option Addr) (c1 c2 c3 : Nat) (w : World) (hs : SoupAt w w.heap.size A1 A2 A3 s) (hl : s.lens) :
    Calls Try.prog 51 #[soupv A1 A2 A3 c1 c2 c3 s] w fun en w' => (∃ B1 B2 B3 d1 d2 d3, en = .returned (soupv B1 B2 B3 d1 d2 d3 s) ∧ SoupAt w' w'.heap.size B1 B2 B3 s) ∧ Below w.heap.size w w' := by
  obtain ⟨l1, l2, l3⟩ := hl
  obtain ⟨u1, eu1, bu1, ku1⟩ := alloc_step w (.cells #[.slice A1 s.ts.length c1, .slice A2 s.bs.length c2, .slice A3 s.hs.length c3] 28)
  obtain ⟨u2, eu2, bu2, ku2⟩ := alloc_step u1 (.cells #[.slice none 0 0, .slice none 0 0, .slice none 0 0] 28)
  have hb2 := bu1.trans (bu2.mono bu1.size)
  have ku1' := (bu2.block _ (lt_of_block ku1)).trans ku1
  obtain ⟨s0, s1, s2⟩ := box3 ku1'
  have z1 := lt_of_block ku1'
  obtain ⟨iT, hiT, hzT0, hzT1, hzT2⟩ := info_parts infoSoup
  unfold soupv
  refine (callsIn_wide (n := 6)).1 ?_
  refine callsIn_of_wp Try.func51 rfl trivial ?_
  simp only [Try.ntmps51, List.size_toArray, List.length_cons, List.length_nil, Nat.reduceAdd, Nat.reduceSub, Array.replicate_succ, Array.replicate_zero, List.push_toArray, List.append_toArray, List.nil_append, List.cons_append]
  gi_wp2
  have hS : (CellsL [(⟨w.heap.size, 0, none⟩, .slice A1 s.ts.length c1), (⟨w.heap.size, 1, none⟩, .slice A2 s.bs.length c2), (⟨w.heap.size, 2, none⟩, .slice A3 s.hs.length c3)]) (u2.drew) := ⟨s0, s1, s2, trivial⟩
  refine wpIn_region_ord [(0, true), (1, true), (3, true), (4, true), (6, true), (7, true), (2, false), (5, false), (8, false), (9, true)] (CellsL [(⟨w.heap.size, 0, none⟩, .slice A1 s.ts.length c1), (⟨w.heap.size, 1, none⟩, .slice A2 s.bs.length c2), (⟨w.heap.size, 2, none⟩, .slice A3 s.hs.length c3)]) (fun _ => trivial) rfl (by first | exact then_put rfl | (intro c d v a w h; cases d <;> exact h)) (by kernel_rfl) ?_
  simp only [List.length_cons, List.length_nil, Nat.reduceAdd, List.drop_succ_cons, List.drop_zero]
  iterate 6 (apply wpOrd_quiet rfl hS rfl; (intro w' hw'; obtain ⟨q0, q1, q2, _⟩ := hw'; go_simp; exact rfl); go_simp)
  refine wpOrd_move rfl rfl ?_
  go_simp
  refine ⟨trivial, (callsIn_wide.2 (cloneTri_any s.ts A1 c1 u2.drew ((hs.t.below hb2.drew).more hb2.size) l1)).mono ?_⟩
  rintro en w3 ⟨v1, rfl, ho1, hd3⟩
  obtain ⟨B1, d1, rfl⟩ := own_rowU ho1
  have hb3 : Below u2.heap.size u2 w3 := ⟨hd3.os, hd3.tape, hd3.output, hd3.size, hd3.block⟩
  have hbw3 := hb2.trans (hb3.mono hb2.size)
  replace hS := CellsL.keep hd3 hS ⟨z1, z1, z1, trivial⟩
  have z3 := Nat.lt_of_lt_of_le z1 hb3.size
  refine ⟨hS, ?_⟩
  go_simp
  refine wpOrd_move rfl rfl ?_
  go_simp
  refine ⟨trivial, (callsIn_wide.2 (cloneBox_any s.bs A2 c2 w3 ((hs.b.below hbw3).more hbw3.size) l2)).mono ?_⟩
  rintro en w4 ⟨v2, rfl, ho2, hb4⟩
  obtain ⟨B2, d2, rfl⟩ := own_rowU ho2
  have hbw4 := hbw3.trans (hb4.mono hbw3.size)
  replace hS := CellsL.keep hb4 hS ⟨z3, z3, z3, trivial⟩
  have z4 := Nat.lt_of_lt_of_le z3 hb4.size
  refine ⟨hS, ?_⟩
  go_simp
  refine wpOrd_move rfl rfl ?_
  go_simp
  refine ⟨trivial, (callsIn_wide.2 (cloneHop_any s.hs A3 c3 w4 ((hs.h.below hbw4).more hbw4.size) l3)).mono ?_⟩
  rintro en w5 ⟨v3, rfl, ho3, hb5⟩
  obtain ⟨B3, d3, rfl⟩ := own_rowU ho3
  have hbw5 := hbw4.trans (hb5.mono hbw4.size)
  replace hS := CellsL.keep hb5 hS ⟨z4, z4, z4, trivial⟩
  refine ⟨hS, ?_⟩
  go_simp
  iterate 1 (apply wpOrd_quiet rfl hS rfl; (intro w' hw'; obtain ⟨q0, q1, q2, _⟩ := hw'; go_simp; exact rfl); go_simp)
  refine wpOrd_nil ?_
  have hb25 := hb3.trans ((hb4.trans (hb5.mono hb4.size)).mono hb3.size)
  have n2 := (hb25.block _ (lt_of_block ku2)).trans ku2
  have hx2 := own_below ho2 hb5
  have hx1 := own_below (own_below ho1 hb4) hb5
  gi_wp2_with (refine wpListIn_plain rfl fun K' hK' => ?_; refine wpIn_store_boxg (.tmp 2) (.tmp 12) rfl hiT rfl rfl [.slice B1 s.ts.length d1, .slice B2 s.bs.length d2, .slice B3 s.hs.length d3] rfl hzT1.symm (by simp [Value.oneCell']) n2 rfl ?_; intro w6 hkm hgs; refine hK' _ _ ?_)
  refine bodyPost_ret (results_soup rfl _ _ u1.heap.size _ _ _ rfl hkm) rfl ?_
  have y1 := lt_of_block ku2
  have y2 := bu2.size
  have y0 := bu1.size
  have y3 := lt_of_block ku1
  have hne : ∀ {base : Nat} {e : TypeId} {k : Nat} {v : Value} {n : Nat} {xs : List Value}, w5.ownsRow base e k v n xs → u1.heap.size < base → w6.ownsRow base e k v n xs := fun {_ _ _ v _ _} h hb => h.kept hgs (by
    cases hv : v.ownBlock with
    | none => exact .inl rfl
    | some j => exact .inr (fun e => by have := (h.lt j hv).1; injection e with e; omega))
  refine ⟨⟨B1, B2, B3, d1, d2, d3, rfl, ⟨Reads.of_own (hne hx1 y1), Reads.of_own (hne hx2 (Nat.lt_of_lt_of_le y1 hb3.size)), Reads.of_own (hne ho3 (Nat.lt_of_lt_of_le y1 (Nat.le_trans hb3.size hb4.size)))⟩⟩, below_own hbw5 hbw5.size hgs y0⟩
def emptyS : Value := .agg #[.slice none 0 0, .slice none 0 0, .slice none 0 0]
theorem ofTris_any (B : Nat) (w : World) : Calls Try.prog 16 #[.pointer (some ⟨B, 0, none⟩)] w fun en w' => en = .returned (.pointer (some ⟨B, 0, none⟩)) ∧ Below w.heap.size w w' := by
  refine (callsIn_wide (n := 6)).1 ?_
  refine callsIn_of_wp Try.func16 rfl trivial ?_
  simp only [Try.ntmps16, List.size_toArray, List.length_cons, List.length_nil, Nat.reduceAdd, Nat.reduceSub, Array.replicate_succ, Array.replicate_zero, List.push_toArray, List.append_toArray, List.nil_append, List.cons_append]
  gi_wp2
  go_ret
  exact ⟨rfl, Below.refl _ _⟩
theorem ofBoxes_any (B : Nat) (w : World) : Calls Try.prog 25 #[.pointer (some ⟨B, 0, none⟩)] w fun en w' => en = .returned (.pointer (some ⟨B, 1, none⟩)) ∧ Below w.heap.size w w' := by
  refine (callsIn_wide (n := 6)).1 ?_
  refine callsIn_of_wp Try.func25 rfl trivial ?_
  simp only [Try.ntmps25, List.size_toArray, List.length_cons, List.length_nil, Nat.reduceAdd, Nat.reduceSub, Array.replicate_succ, Array.replicate_zero, List.push_toArray, List.append_toArray, List.nil_append, List.cons_append]
  gi_wp2
  go_ret
  exact ⟨rfl, Below.refl _ _⟩
theorem ofHops_any (B : Nat) (w : World) : Calls Try.prog 30 #[.pointer (some ⟨B, 0, none⟩)] w fun en w' => en = .returned (.pointer (some ⟨B, 2, none⟩)) ∧ Below w.heap.size w w' := by
  refine (callsIn_wide (n := 6)).1 ?_
  refine callsIn_of_wp Try.func30 rfl trivial ?_
  simp only [Try.ntmps30, List.size_toArray, List.length_cons, List.length_nil, Nat.reduceAdd, Nat.reduceSub, Array.replicate_succ, Array.replicate_zero, List.push_toArray, List.append_toArray, List.nil_append, List.cons_append]
  gi_wp2
  go_ret
  exact ⟨rfl, Below.refl _ _⟩
/-- What comes of a change of one row. -/
def Out {α : Type} (k : Nat) (cs : α → List Value) (R0 : Int → Prop) (R1 : List α → Prop) (en : Ending) (w' : World) : Prop :=
  (∃ e, e ≠ 0 ∧ R0 e ∧ en = .returned (.tuple #[.slice none 0 0, .int .i64 e])) ∨ ∃ l' A' c', R1 l' ∧ en = .returned (.tuple #[.slice A' l'.length c', .int .i64 0]) ∧ Reads w' w'.heap.size k A' l'.length (fl cs l')
theorem reads_apart {α : Type} {cs : α → List Value} {k : Nat} (hk : ∀ x, (cs x).length = k) (hk0 : 0 < k) (h0 : ∀ x, ∃ i, (cs x)[0]? = some (.int .i64 i)) {w w' : World} {B n g : Nat} {A : Option Addr} {l : List α} (hr : Reads w B k A n (fl cs l)) (hn : n = l.length)
    {a1 a2 a3 : Option Addr} {b1 b2 b3 c1 c2 c3 : Nat} {T : TypeId} {z : Nat × Nat} (hg : w.heap[g]? = some (.cells #[.slice a1 b1 c1, .slice a2 b2 c2, .slice a3 b3 c3] T z)) (hgr : w.grownBy w' (some g)) : Reads w' B k A n (fl cs l) := by
  refine ⟨hr.1, fun hp => ?_⟩
  obtain ⟨ad, e, hb, hc⟩ := hr.2 hp
  have hl : 0 < l.length := by omega
  obtain ⟨i, hi⟩ := h0 l[0]
  have h1 := fl_get hk l 0 hl 0 hk0
  rw [Nat.zero_mul, Nat.zero_add, hi] at h1
  have h2 := hc 0 _ h1
  have hne : ad.block ≠ g := by
    intro he
    unfold World.cell? at h2
    rw [block_of_add, he, hg] at h2
    simp only at h2
    split at h2
    · cases h2
    · generalize (ad.add 0).off = q at h2
      match q, h2 with
      | 0, h => simp at h
      | 1, h => simp at h
      | 2, h => simp at h
      | q + 3, h => simp at h
  exact ⟨ad, e, hb, fun j u hu => by
    have hcj := hc j u hu
    have hlt : ad.block < w.heap.size := by
      rcases Nat.lt_or_ge ad.block w.heap.size with h | h
      · exact h
      · unfold World.cell? at h2
        rw [block_of_add, Array.getElem?_eq_none h] at h2
        simp at h2
    exact (World.cell?_of_block (by rw [block_of_add]; exact hgr.block _ hlt (by intro e; injection e with e; exact hne e))).trans hcj⟩
theorem SoupAt.apart {w w' : World} {B g : Nat} {A1 A2 A3 : Option Addr} {s : Soup} (h : SoupAt w B A1 A2 A3 s) {a1 a2 a3 : Option Addr} {b1 b2 b3 c1 c2 c3 : Nat} {T : TypeId} {z : Nat × Nat} (hg : w.heap[g]? = some (.cells #[.slice a1 b1 c1, .slice a2 b2 c2, .slice a3 b3 c3] T z)) (hgr : w.grownBy w' (some g)) : SoupAt w' B A1 A2 A3 s :=
  ⟨reads_apart T10.len (by decide) (fun x => ⟨x.id, rfl⟩) h.t rfl hg hgr, reads_apart B8.len (by decide) (fun x => ⟨x.id, rfl⟩) h.b rfl hg hgr, reads_apart H10.len (by decide) (fun x => ⟨x.id, rfl⟩) h.h rfl hg hgr⟩
set_option maxHeartbeats 4000000 in
set_option maxRecDepth 100000 in
theorem putTri_any (ch : Nat) (lb : Array Value) (R0 : Int → Prop) (R1 : List T10 → Prop) (s : Soup) (A1 A2 A3 : Option Addr) (c1 c2 c3 : Nat) (w : World) (hs : SoupAt w w.heap.size A1 A2 A3 s) (hl : s.lens)
    (eg : ∀ args w, (callFunc ch args).run Try.prog w = .ok (.enter ch args) w)
    (hch : ∀ (W : World) (A : Option Addr) (c : Nat), Below w.heap.size w W → Reads W W.heap.size 10 A s.ts.length (fl T10.cs s.ts) → Calls Try.prog ch (#[.slice A s.ts.length c] ++ lb) W fun en w' => Out 10 T10.cs R0 R1 en w' ∧ Below W.heap.size W w') :
    Calls Try.prog 21 #[soupv A1 A2 A3 c1 c2 c3 s, .func (.func 16) #[] #[], .func (.func ch) #[] lb] w fun en w' =>
      ((∃ e, e ≠ 0 ∧ R0 e ∧ en = .returned (.tuple #[emptyS, .int .i64 e])) ∨ ∃ l' B1 B2 B3 d1 d2 d3, R1 l' ∧ en = .returned (.tuple #[soupv B1 B2 B3 d1 d2 d3 { s with ts := l' }, .int .i64 0]) ∧ SoupAt w' w'.heap.size B1 B2 B3 { s with ts := l' }) ∧ Below w.heap.size w w' := by
  obtain ⟨u1, eu1, bu1, ku1⟩ := alloc_step w (.cells #[.slice A1 s.ts.length c1, .slice A2 s.bs.length c2, .slice A3 s.hs.length c3] 28)
  obtain ⟨u2, eu2, bu2, ku2⟩ := alloc_step u1 (.cells #[.slice none 0 0, .slice none 0 0, .slice none 0 0] 28)
  have hb2 := bu1.trans (bu2.mono bu1.size)
  have ku1' := (bu2.block _ (lt_of_block ku1)).trans ku1
  obtain ⟨s0, s1, s2⟩ := box3 ku1'
  obtain ⟨iT, hiT, hzT0, hzT1, hzT2⟩ := info_parts infoSoup
  have hown := own_any s A1 A2 A3 c1 c2 c3 u2 ((hs.below hb2).more hb2.size) hl
  unfold soupv at hown ⊢
  unfold emptyS
  refine (callsIn_wide (n := 6)).1 ?_
  refine callsIn_of_wp Try.func21 rfl trivial ?_
  simp only [Try.ntmps21, List.size_toArray, List.length_cons, List.length_nil, Nat.reduceAdd, Nat.reduceSub, Array.replicate_succ, Array.replicate_zero, List.push_toArray, List.append_toArray, List.nil_append, List.cons_append]
  gi_wp2
  refine ⟨trivial, (callsIn_wide.2 hown).mono ?_⟩
  rintro en w3 ⟨⟨B1, B2, B3, d1, d2, d3, rfl, hs3⟩, hb3⟩
  have hbw3 := hb2.trans (hb3.mono hb2.size)
  have m1 := (hb3.block _ (lt_of_block ku1')).trans ku1'
  have m2 := (hb3.block _ (lt_of_block ku2)).trans ku2
  clear s0 s1 s2
  gi_wp2_with (refine wpListIn_plain rfl fun K' hK' => ?_; refine wpIn_store_boxg (.tmp 3) (.tmp 12) rfl hiT rfl rfl [.slice B1 s.ts.length d1, .slice B2 s.bs.length d2, .slice B3 s.hs.length d3] rfl hzT1.symm (by simp [Value.oneCell']) m1 rfl ?_; intro w4 hkm hg4; refine hK' _ _ ?_)
  have y0 := bu1.size
  have yk := lt_of_block ku1
  have hs4 := hs3.apart m1 hg4
  have hbw4 := below_own hbw3 hbw3.size hg4 (Nat.le_refl _)
  have n2 := (hg4.block u1.heap.size (lt_of_block m2) (by intro e; injection e with e; omega)).trans m2
  have hof := fun W => ofTris_any w.heap.size W
  gi_wp2
  refine ⟨trivial, (callsIn_wide.2 (hof _)).mono ?_⟩
  rintro en w5 ⟨rfl, hb5⟩
  have hbw5 := hbw4.trans (hb5.mono hbw4.size)
  have o1 := (hb5.block _ (lt_of_block hkm)).trans hkm
  have o2 := (hb5.block _ (lt_of_block n2)).trans n2
  have hz4 : w3.heap.size ≤ w4.heap.size := hg4.size
  have hs5 := ((hs4.more hz4).below hb5).more hb5.size
  obtain ⟨s0, s1, s2⟩ := box3 o1
  have hcc := hch w5 B1 d1 hbw5 hs5.t
  clear hch
  gi_wp2
  refine ⟨trivial, (callsIn_wide.2 hcc).mono ?_⟩
  rintro en w6 ⟨hout, hb6⟩
  have hbw6 := hbw5.trans (hb6.mono hbw5.size)
  have p1 := (hb6.block _ (lt_of_block o1)).trans o1
  have p2 := (hb6.block _ (lt_of_block o2)).trans o2
  have hs6 := (hs5.below hb6).more hb6.size
  clear s0 s1 s2 hcc
  rcases hout with ⟨er, hne, hR0, rfl⟩ | ⟨l', A', c', hR1, rfl, hrl⟩
  · have hne' : (er != 0) = true := by simpa using hne
    replace hne := Lib.hid hne
    gi_wp2_with (refine wpListIn_plain rfl fun K' hK' => ?_; refine wpIn_store_boxg (.tmp 6) (.tmp 25) rfl hiT rfl rfl [.slice none 0 0, .slice none 0 0, .slice none 0 0] rfl hzT1.symm (by simp [Value.oneCell']) p2 rfl ?_; intro w7 hk7 hg7; refine hK' _ _ ?_)
    refine bodyPost_ret (results_soup2 rfl _ _ u1.heap.size _ _ _ rfl hk7) rfl ?_
    exact ⟨.inl ⟨er, hne.out, hR0, rfl⟩, below_own hbw6 hbw6.size hg7 y0⟩
  · have z0 : w6.frozen? ⟨w.heap.size, 0, none⟩ = false := not_frozen p1
    obtain ⟨s0, s1, s2⟩ := box3 p1
    have hO7 := set_block (k := 0) p1 (.slice A' l'.length c')
    have hg7 := grownBy_set w6 w.heap.size 0 (.slice A' l'.length c')
    have q2 := (hg7.block u1.heap.size (lt_of_block p2) (by intro e; injection e with e; omega)).trans p2
    have hs7 := hs6.apart p1 hg7
    have hr7 := reads_apart T10.len (by decide) (fun x => ⟨x.id, rfl⟩) hrl rfl p1 hg7
    have hbw7 := below_own hbw6 hbw6.size hg7 (Nat.le_refl _)
    have hsz7 : (w6.setCell ⟨w.heap.size, 0, none⟩ (.slice A' l'.length c')).heap.size = w6.heap.size := by simp [World.setCell]
    replace hO7 : (w6.setCell ⟨w.heap.size, 0, none⟩ (.slice A' l'.length c')).heap[w.heap.size]? = some (.cells #[.slice A' l'.length c', .slice B2 s.bs.length d2, .slice B3 s.hs.length d3] 28 (0, 0)) := hO7
    obtain ⟨t0, t1, t2⟩ := box3 hO7
    clear s1 s2 s0
    obtain ⟨s0, s1, s2⟩ := box3 p1
    gi_wp2_with (refine wpListIn_plain rfl fun K' hK' => ?_; refine wpIn_store_boxg (.tmp 6) (.tmp 30) rfl hiT rfl rfl [.slice A' l'.length c', .slice B2 s.bs.length d2, .slice B3 s.hs.length d3] rfl hzT1.symm (by simp [Value.oneCell']) q2 rfl ?_; intro w8 hk8 hg8; refine hK' _ _ ?_)
    refine bodyPost_ret (results_soup2 rfl _ _ u1.heap.size _ _ _ rfl hk8) rfl ?_
    have hs8 := (hs7.more (by rw [← hsz7]; exact hg8.size)).apart q2 hg8
    have hr8 := reads_apart T10.len (by decide) (fun x => ⟨x.id, rfl⟩) (hr7.more (by rw [← hsz7]; exact hg8.size)) rfl q2 hg8
    exact ⟨.inr ⟨l', A', B2, B3, c', d2, d3, hR1, rfl, ⟨hr8, hs8.b, hs8.h⟩⟩, below_own hbw7 hbw7.size hg8 y0⟩
set_option maxHeartbeats 4000000 in
set_option maxRecDepth 100000 in
theorem putBox_any (ch : Nat) (lb : Array Value) (R0 : Int → Prop) (R1 : List B8 → Prop) (s : Soup) (A1 A2 A3 : Option Addr) (c1 c2 c3 : Nat) (w : World) (hs : SoupAt w w.heap.size A1 A2 A3 s) (hl : s.lens)
    (eg : ∀ args w, (callFunc ch args).run Try.prog w = .ok (.enter ch args) w)
    (hch : ∀ (W : World) (A : Option Addr) (c : Nat), Below w.heap.size w W → Reads W W.heap.size 8 A s.bs.length (fl B8.cs s.bs) → Calls Try.prog ch (#[.slice A s.bs.length c] ++ lb) W fun en w' => Out 8 B8.cs R0 R1 en w' ∧ Below W.heap.size W w') :
    Calls Try.prog 24 #[soupv A1 A2 A3 c1 c2 c3 s, .func (.func 25) #[] #[], .func (.func ch) #[] lb] w fun en w' =>
      ((∃ e, e ≠ 0 ∧ R0 e ∧ en = .returned (.tuple #[emptyS, .int .i64 e])) ∨ ∃ l' B1 B2 B3 d1 d2 d3, R1 l' ∧ en = .returned (.tuple #[soupv B1 B2 B3 d1 d2 d3 { s with bs := l' }, .int .i64 0]) ∧ SoupAt w' w'.heap.size B1 B2 B3 { s with bs := l' }) ∧ Below w.heap.size w w' := by
  obtain ⟨u1, eu1, bu1, ku1⟩ := alloc_step w (.cells #[.slice A1 s.ts.length c1, .slice A2 s.bs.length c2, .slice A3 s.hs.length c3] 28)
  obtain ⟨u2, eu2, bu2, ku2⟩ := alloc_step u1 (.cells #[.slice none 0 0, .slice none 0 0, .slice none 0 0] 28)
  have hb2 := bu1.trans (bu2.mono bu1.size)
  have ku1' := (bu2.block _ (lt_of_block ku1)).trans ku1
  obtain ⟨s0, s1, s2⟩ := box3 ku1'
  obtain ⟨iT, hiT, hzT0, hzT1, hzT2⟩ := info_parts infoSoup
  have hown := own_any s A1 A2 A3 c1 c2 c3 u2 ((hs.below hb2).more hb2.size) hl
  unfold soupv at hown ⊢
  unfold emptyS
  refine (callsIn_wide (n := 6)).1 ?_
  refine callsIn_of_wp Try.func24 rfl trivial ?_
  simp only [Try.ntmps24, List.size_toArray, List.length_cons, List.length_nil, Nat.reduceAdd, Nat.reduceSub, Array.replicate_succ, Array.replicate_zero, List.push_toArray, List.append_toArray, List.nil_append, List.cons_append]
  gi_wp2
  refine ⟨trivial, (callsIn_wide.2 hown).mono ?_⟩
  rintro en w3 ⟨⟨B1, B2, B3, d1, d2, d3, rfl, hs3⟩, hb3⟩
  have hbw3 := hb2.trans (hb3.mono hb2.size)
  have m1 := (hb3.block _ (lt_of_block ku1')).trans ku1'
  have m2 := (hb3.block _ (lt_of_block ku2)).trans ku2
  clear s0 s1 s2
  gi_wp2_with (refine wpListIn_plain rfl fun K' hK' => ?_; refine wpIn_store_boxg (.tmp 3) (.tmp 12) rfl hiT rfl rfl [.slice B1 s.ts.length d1, .slice B2 s.bs.length d2, .slice B3 s.hs.length d3] rfl hzT1.symm (by simp [Value.oneCell']) m1 rfl ?_; intro w4 hkm hg4; refine hK' _ _ ?_)
  have y0 := bu1.size
  have yk := lt_of_block ku1
  have hs4 := hs3.apart m1 hg4
  have hbw4 := below_own hbw3 hbw3.size hg4 (Nat.le_refl _)
  have n2 := (hg4.block u1.heap.size (lt_of_block m2) (by intro e; injection e with e; omega)).trans m2
  have hof := fun W => ofBoxes_any w.heap.size W
  gi_wp2
  refine ⟨trivial, (callsIn_wide.2 (hof _)).mono ?_⟩
  rintro en w5 ⟨rfl, hb5⟩
  have hbw5 := hbw4.trans (hb5.mono hbw4.size)
  have o1 := (hb5.block _ (lt_of_block hkm)).trans hkm
  have o2 := (hb5.block _ (lt_of_block n2)).trans n2
  have hz4 : w3.heap.size ≤ w4.heap.size := hg4.size
  have hs5 := ((hs4.more hz4).below hb5).more hb5.size
  obtain ⟨s0, s1, s2⟩ := box3 o1
  have hcc := hch w5 B2 d2 hbw5 hs5.b
  clear hch
  gi_wp2
  refine ⟨trivial, (callsIn_wide.2 hcc).mono ?_⟩
  rintro en w6 ⟨hout, hb6⟩
  have hbw6 := hbw5.trans (hb6.mono hbw5.size)
  have p1 := (hb6.block _ (lt_of_block o1)).trans o1
  have p2 := (hb6.block _ (lt_of_block o2)).trans o2
  have hs6 := (hs5.below hb6).more hb6.size
  clear s0 s1 s2 hcc
  rcases hout with ⟨er, hne, hR0, rfl⟩ | ⟨l', A', c', hR1, rfl, hrl⟩
  · have hne' : (er != 0) = true := by simpa using hne
    replace hne := Lib.hid hne
    gi_wp2_with (refine wpListIn_plain rfl fun K' hK' => ?_; refine wpIn_store_boxg (.tmp 6) (.tmp 25) rfl hiT rfl rfl [.slice none 0 0, .slice none 0 0, .slice none 0 0] rfl hzT1.symm (by simp [Value.oneCell']) p2 rfl ?_; intro w7 hk7 hg7; refine hK' _ _ ?_)
    refine bodyPost_ret (results_soup2 rfl _ _ u1.heap.size _ _ _ rfl hk7) rfl ?_
    exact ⟨.inl ⟨er, hne.out, hR0, rfl⟩, below_own hbw6 hbw6.size hg7 y0⟩
  · have z0 : w6.frozen? ⟨w.heap.size, 1, none⟩ = false := not_frozen p1
    obtain ⟨s0, s1, s2⟩ := box3 p1
    have hO7 := set_block (k := 1) p1 (.slice A' l'.length c')
    have hg7 := grownBy_set w6 w.heap.size 1 (.slice A' l'.length c')
    have q2 := (hg7.block u1.heap.size (lt_of_block p2) (by intro e; injection e with e; omega)).trans p2
    have hs7 := hs6.apart p1 hg7
    have hr7 := reads_apart B8.len (by decide) (fun x => ⟨x.id, rfl⟩) hrl rfl p1 hg7
    have hbw7 := below_own hbw6 hbw6.size hg7 (Nat.le_refl _)
    have hsz7 : (w6.setCell ⟨w.heap.size, 1, none⟩ (.slice A' l'.length c')).heap.size = w6.heap.size := by simp [World.setCell]
    replace hO7 : (w6.setCell ⟨w.heap.size, 1, none⟩ (.slice A' l'.length c')).heap[w.heap.size]? = some (.cells #[.slice B1 s.ts.length d1, .slice A' l'.length c', .slice B3 s.hs.length d3] 28 (0, 0)) := hO7
    obtain ⟨t0, t1, t2⟩ := box3 hO7
    clear s1 s2 s0
    obtain ⟨s0, s1, s2⟩ := box3 p1
    gi_wp2_with (refine wpListIn_plain rfl fun K' hK' => ?_; refine wpIn_store_boxg (.tmp 6) (.tmp 30) rfl hiT rfl rfl [.slice B1 s.ts.length d1, .slice A' l'.length c', .slice B3 s.hs.length d3] rfl hzT1.symm (by simp [Value.oneCell']) q2 rfl ?_; intro w8 hk8 hg8; refine hK' _ _ ?_)
    refine bodyPost_ret (results_soup2 rfl _ _ u1.heap.size _ _ _ rfl hk8) rfl ?_
    have hs8 := (hs7.more (by rw [← hsz7]; exact hg8.size)).apart q2 hg8
    have hr8 := reads_apart B8.len (by decide) (fun x => ⟨x.id, rfl⟩) (hr7.more (by rw [← hsz7]; exact hg8.size)) rfl q2 hg8
    exact ⟨.inr ⟨l', B1, A', B3, d1, c', d3, hR1, rfl, ⟨hs8.t, hr8, hs8.h⟩⟩, below_own hbw7 hbw7.size hg8 y0⟩
set_option maxHeartbeats 4000000 in
set_option maxRecDepth 100000 in
theorem putHop_any (ch : Nat) (lb : Array Value) (R0 : Int → Prop) (R1 : List H10 → Prop) (s : Soup) (A1 A2 A3 : Option Addr) (c1 c2 c3 : Nat) (w : World) (hs : SoupAt w w.heap.size A1 A2 A3 s) (hl : s.lens)
    (eg : ∀ args w, (callFunc ch args).run Try.prog w = .ok (.enter ch args) w)
    (hch : ∀ (W : World) (A : Option Addr) (c : Nat), Below w.heap.size w W → Reads W W.heap.size 10 A s.hs.length (fl H10.cs s.hs) → Calls Try.prog ch (#[.slice A s.hs.length c] ++ lb) W fun en w' => Out 10 H10.cs R0 R1 en w' ∧ Below W.heap.size W w') :
    Calls Try.prog 29 #[soupv A1 A2 A3 c1 c2 c3 s, .func (.func 30) #[] #[], .func (.func ch) #[] lb] w fun en w' =>
      ((∃ e, e ≠ 0 ∧ R0 e ∧ en = .returned (.tuple #[emptyS, .int .i64 e])) ∨ ∃ l' B1 B2 B3 d1 d2 d3, R1 l' ∧ en = .returned (.tuple #[soupv B1 B2 B3 d1 d2 d3 { s with hs := l' }, .int .i64 0]) ∧ SoupAt w' w'.heap.size B1 B2 B3 { s with hs := l' }) ∧ Below w.heap.size w w' := by
  obtain ⟨u1, eu1, bu1, ku1⟩ := alloc_step w (.cells #[.slice A1 s.ts.length c1, .slice A2 s.bs.length c2, .slice A3 s.hs.length c3] 28)
  obtain ⟨u2, eu2, bu2, ku2⟩ := alloc_step u1 (.cells #[.slice none 0 0, .slice none 0 0, .slice none 0 0] 28)
  have hb2 := bu1.trans (bu2.mono bu1.size)
  have ku1' := (bu2.block _ (lt_of_block ku1)).trans ku1
  obtain ⟨s0, s1, s2⟩ := box3 ku1'
  obtain ⟨iT, hiT, hzT0, hzT1, hzT2⟩ := info_parts infoSoup
  have hown := own_any s A1 A2 A3 c1 c2 c3 u2 ((hs.below hb2).more hb2.size) hl
  unfold soupv at hown ⊢
  unfold emptyS
  refine (callsIn_wide (n := 6)).1 ?_
  refine callsIn_of_wp Try.func29 rfl trivial ?_
  simp only [Try.ntmps29, List.size_toArray, List.length_cons, List.length_nil, Nat.reduceAdd, Nat.reduceSub, Array.replicate_succ, Array.replicate_zero, List.push_toArray, List.append_toArray, List.nil_append, List.cons_append]
  gi_wp2
  refine ⟨trivial, (callsIn_wide.2 hown).mono ?_⟩
  rintro en w3 ⟨⟨B1, B2, B3, d1, d2, d3, rfl, hs3⟩, hb3⟩
  have hbw3 := hb2.trans (hb3.mono hb2.size)
  have m1 := (hb3.block _ (lt_of_block ku1')).trans ku1'
  have m2 := (hb3.block _ (lt_of_block ku2)).trans ku2
  clear s0 s1 s2
  gi_wp2_with (refine wpListIn_plain rfl fun K' hK' => ?_; refine wpIn_store_boxg (.tmp 3) (.tmp 12) rfl hiT rfl rfl [.slice B1 s.ts.length d1, .slice B2 s.bs.length d2, .slice B3 s.hs.length d3] rfl hzT1.symm (by simp [Value.oneCell']) m1 rfl ?_; intro w4 hkm hg4; refine hK' _ _ ?_)
  have y0 := bu1.size
  have yk := lt_of_block ku1
  have hs4 := hs3.apart m1 hg4
  have hbw4 := below_own hbw3 hbw3.size hg4 (Nat.le_refl _)
  have n2 := (hg4.block u1.heap.size (lt_of_block m2) (by intro e; injection e with e; omega)).trans m2
  have hof := fun W => ofHops_any w.heap.size W
  gi_wp2
  refine ⟨trivial, (callsIn_wide.2 (hof _)).mono ?_⟩
  rintro en w5 ⟨rfl, hb5⟩
  have hbw5 := hbw4.trans (hb5.mono hbw4.size)
  have o1 := (hb5.block _ (lt_of_block hkm)).trans hkm
  have o2 := (hb5.block _ (lt_of_block n2)).trans n2
  have hz4 : w3.heap.size ≤ w4.heap.size := hg4.size
  have hs5 := ((hs4.more hz4).below hb5).more hb5.size
  obtain ⟨s0, s1, s2⟩ := box3 o1
  have hcc := hch w5 B3 d3 hbw5 hs5.h
  clear hch
  gi_wp2
  refine ⟨trivial, (callsIn_wide.2 hcc).mono ?_⟩
  rintro en w6 ⟨hout, hb6⟩
  have hbw6 := hbw5.trans (hb6.mono hbw5.size)
  have p1 := (hb6.block _ (lt_of_block o1)).trans o1
  have p2 := (hb6.block _ (lt_of_block o2)).trans o2
  have hs6 := (hs5.below hb6).more hb6.size
  clear s0 s1 s2 hcc
  rcases hout with ⟨er, hne, hR0, rfl⟩ | ⟨l', A', c', hR1, rfl, hrl⟩
  · have hne' : (er != 0) = true := by simpa using hne
    replace hne := Lib.hid hne
    gi_wp2_with (refine wpListIn_plain rfl fun K' hK' => ?_; refine wpIn_store_boxg (.tmp 6) (.tmp 25) rfl hiT rfl rfl [.slice none 0 0, .slice none 0 0, .slice none 0 0] rfl hzT1.symm (by simp [Value.oneCell']) p2 rfl ?_; intro w7 hk7 hg7; refine hK' _ _ ?_)
    refine bodyPost_ret (results_soup2 rfl _ _ u1.heap.size _ _ _ rfl hk7) rfl ?_
    exact ⟨.inl ⟨er, hne.out, hR0, rfl⟩, below_own hbw6 hbw6.size hg7 y0⟩
  · have z0 : w6.frozen? ⟨w.heap.size, 2, none⟩ = false := not_frozen p1
    obtain ⟨s0, s1, s2⟩ := box3 p1
    have hO7 := set_block (k := 2) p1 (.slice A' l'.length c')
    have hg7 := grownBy_set w6 w.heap.size 2 (.slice A' l'.length c')
    have q2 := (hg7.block u1.heap.size (lt_of_block p2) (by intro e; injection e with e; omega)).trans p2
    have hs7 := hs6.apart p1 hg7
    have hr7 := reads_apart H10.len (by decide) (fun x => ⟨x.id, rfl⟩) hrl rfl p1 hg7
    have hbw7 := below_own hbw6 hbw6.size hg7 (Nat.le_refl _)
    have hsz7 : (w6.setCell ⟨w.heap.size, 2, none⟩ (.slice A' l'.length c')).heap.size = w6.heap.size := by simp [World.setCell]
    replace hO7 : (w6.setCell ⟨w.heap.size, 2, none⟩ (.slice A' l'.length c')).heap[w.heap.size]? = some (.cells #[.slice B1 s.ts.length d1, .slice B2 s.bs.length d2, .slice A' l'.length c'] 28 (0, 0)) := hO7
    obtain ⟨t0, t1, t2⟩ := box3 hO7
    clear s1 s2 s0
    obtain ⟨s0, s1, s2⟩ := box3 p1
    gi_wp2_with (refine wpListIn_plain rfl fun K' hK' => ?_; refine wpIn_store_boxg (.tmp 6) (.tmp 30) rfl hiT rfl rfl [.slice B1 s.ts.length d1, .slice B2 s.bs.length d2, .slice A' l'.length c'] rfl hzT1.symm (by simp [Value.oneCell']) q2 rfl ?_; intro w8 hk8 hg8; refine hK' _ _ ?_)
    refine bodyPost_ret (results_soup2 rfl _ _ u1.heap.size _ _ _ rfl hk8) rfl ?_
    have hs8 := (hs7.more (by rw [← hsz7]; exact hg8.size)).apart q2 hg8
    have hr8 := reads_apart H10.len (by decide) (fun x => ⟨x.id, rfl⟩) (hr7.more (by rw [← hsz7]; exact hg8.size)) rfl q2 hg8
    exact ⟨.inr ⟨l', B1, B2, A', d1, d2, c', hR1, rfl, ⟨hs8.t, hs8.b, hr8⟩⟩, below_own hbw7 hbw7.size hg8 y0⟩
end Go.Proofs.Ytpbpbijjkmjjjaa
