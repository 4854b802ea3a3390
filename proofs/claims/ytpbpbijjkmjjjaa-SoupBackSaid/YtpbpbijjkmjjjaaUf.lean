/- The lists of the soup: the first thing of an id, by walks. No conditions but that the rows lie where they are said to lie. -/
import Derived.Test.YtpbpbijjkmjjjaaUe
set_option linter.unusedSimpArgs false
set_option linter.unusedVariables false
namespace Go.Proofs.Ytpbpbijjkmjjjaa
open Go Go.RowKit Go.Sx
attribute [local go_sem] Oper.semAt_some
theorem FindAt.none_ {α : Type} {id : α → Int} {l : List α} {i : Int} (h : ∀ m (hm : m < l.length), id l[m] ≠ i) : FindAt id l i (-1) :=
  .inl ⟨rfl, fun x hx => by
    obtain ⟨m, hm, e⟩ := List.mem_iff_getElem.1 hx
    rw [← e]
    exact h m hm⟩
set_option maxHeartbeats 4000000 in
set_option maxRecDepth 100000 in
theorem isIdTri_any (t : T10) (i : Int) (bl bi : Nat) (w : World) (hL : w.cell? ⟨bl, 0, none⟩ = some (.func (.func 41) #[] #[])) (hi : w.cell? ⟨bi, 0, none⟩ = some (.int .i64 i)) (lb : bl < w.heap.size) (li : bi < w.heap.size) :
    Calls Try.prog 75 #[t.v, .pointer (some ⟨bl, 0, none⟩), .pointer (some ⟨bi, 0, none⟩)] w fun en w' => en = .returned (.bool (t.id == i)) ∧ Below w.heap.size w w' := by
  obtain ⟨id, x0, y0, z0, x1, y1, z1, x2, y2, z2⟩ := t
  obtain ⟨u1, eu1, bu1, ku1⟩ := alloc_step w (.cells #[.int .i64 id, .int .i64 x0, .int .i64 y0, .int .i64 z0, .int .i64 x1, .int .i64 y1, .int .i64 z1, .int .i64 x2, .int .i64 y2, .int .i64 z2] 33)
  obtain ⟨c0, c1, c2, c3, c4, c5, c6, c7, c8, c9⟩ := box10 ku1
  have hL1 := (bu1.cell lb).trans hL
  have hi1 := (bu1.cell li).trans hi
  have l1 : w.heap.size < u1.heap.size := lt_of_block ku1
  have l2 : bl < u1.heap.size := by omega
  have l3 : bi < u1.heap.size := by omega
  have hid := fun w => idTri_any ⟨id, x0, y0, z0, x1, y1, z1, x2, y2, z2⟩ w
  unfold T10.v at hid
  unfold T10.v
  refine (callsIn_wide (n := 6)).1 ?_
  refine callsIn_of_wp Try.func75 rfl trivial ?_
  simp only [Try.ntmps75, List.size_toArray, List.length_cons, List.length_nil, Nat.reduceAdd, Nat.reduceSub, Array.replicate_succ, Array.replicate_zero, List.push_toArray, List.append_toArray, List.nil_append, List.cons_append]
  gi_wp2
  have hS : (CellsL [(⟨bl, 0, none⟩, .func (.func 41) #[] #[]), (⟨bi, 0, none⟩, .int .i64 i), (⟨w.heap.size, 0, none⟩, .int .i64 id), (⟨w.heap.size, 1, none⟩, .int .i64 x0), (⟨w.heap.size, 2, none⟩, .int .i64 y0), (⟨w.heap.size, 3, none⟩, .int .i64 z0), (⟨w.heap.size, 4, none⟩, .int .i64 x1), (⟨w.heap.size, 5, none⟩, .int .i64 y1), (⟨w.heap.size, 6, none⟩, .int .i64 z1), (⟨w.heap.size, 7, none⟩, .int .i64 x2), (⟨w.heap.size, 8, none⟩, .int .i64 y2), (⟨w.heap.size, 9, none⟩, .int .i64 z2)]) (u1.drew) := ⟨hL1, hi1, c0, c1, c2, c3, c4, c5, c6, c7, c8, c9, trivial⟩
  refine wpIn_region_ord [(0, true), (1, true), (2, true), (4, true), (3, false), (5, true)] (CellsL [(⟨bl, 0, none⟩, .func (.func 41) #[] #[]), (⟨bi, 0, none⟩, .int .i64 i), (⟨w.heap.size, 0, none⟩, .int .i64 id), (⟨w.heap.size, 1, none⟩, .int .i64 x0), (⟨w.heap.size, 2, none⟩, .int .i64 y0), (⟨w.heap.size, 3, none⟩, .int .i64 z0), (⟨w.heap.size, 4, none⟩, .int .i64 x1), (⟨w.heap.size, 5, none⟩, .int .i64 y1), (⟨w.heap.size, 6, none⟩, .int .i64 z1), (⟨w.heap.size, 7, none⟩, .int .i64 x2), (⟨w.heap.size, 8, none⟩, .int .i64 y2), (⟨w.heap.size, 9, none⟩, .int .i64 z2)]) (fun _ => trivial) rfl (by first | exact then_put rfl | (intro c d v a w h; cases d <;> exact h)) (by kernel_rfl) ?_
  simp only [List.length_cons, List.length_nil, Nat.reduceAdd, List.drop_succ_cons, List.drop_zero]
  iterate 4 (apply wpOrd_quiet rfl hS rfl; (intro w' hw'; obtain ⟨q0, q1, q2, q3, q4, q5, q6, q7, q8, q9, q10, q11, _⟩ := hw'; go_simp; exact rfl); go_simp)
  refine wpOrd_move rfl rfl ?_
  go_simp
  refine ⟨trivial, (callsIn_wide.2 (hid _)).mono ?_⟩
  rintro en w3 ⟨rfl, hb3⟩
  replace hS := CellsL.keep hb3 hS ⟨l2, l3, l1, l1, l1, l1, l1, l1, l1, l1, l1, l1, trivial⟩
  refine ⟨hS, ?_⟩
  go_simp
  iterate 1 (apply wpOrd_quiet rfl hS rfl; (intro w' hw'; obtain ⟨q0, q1, q2, q3, q4, q5, q6, q7, q8, q9, q10, q11, _⟩ := hw'; go_simp; exact rfl); go_simp)
  refine wpOrd_nil ?_
  clear hS
  gi_wp2
  go_ret
  exact ⟨rfl, bu1.trans ((Below.refl u1.heap.size u1).drew.trans hb3 |>.mono bu1.size)⟩
set_option maxHeartbeats 4000000 in
set_option maxRecDepth 100000 in
theorem indexTri_any (i : Int) (bl bi : Nat) (r : List T10) (A : Option Addr) (cap : Nat) (w : World) (hL : w.cell? ⟨bl, 0, none⟩ = some (.func (.func 41) #[] #[])) (hi : w.cell? ⟨bi, 0, none⟩ = some (.int .i64 i)) (lb : bl < w.heap.size) (li : bi < w.heap.size)
    (hr : Reads w w.heap.size 10 A r.length (fl T10.cs r)) (hl : r.length ≤ 1000) :
    Calls Try.prog 74 #[.slice A r.length cap, .func (.func 75) #[] #[.pointer (some ⟨bl, 0, none⟩), .pointer (some ⟨bi, 0, none⟩)]] w fun en w' => (∃ q : Int, en = .returned (.int .i64 q) ∧ FindAt T10.id r i q) ∧ Below w.heap.size w w' := by
  have hf := fun (t : T10) (W : World) (h : Below w.heap.size w W) => isIdTri_any t i bl bi W ((h.cell lb).trans hL) ((h.cell li).trans hi) (Nat.lt_of_lt_of_le lb h.size) (Nat.lt_of_lt_of_le li h.size)
  clear hL hi
  refine (callsIn_wide (n := 6)).1 ?_
  refine callsIn_of_wp Try.func74 rfl trivial ?_
  simp only [Try.ntmps74, List.size_toArray, List.length_cons, List.length_nil, Nat.reduceAdd, Nat.reduceSub, Array.replicate_succ, Array.replicate_zero, List.push_toArray, List.append_toArray, List.nil_append, List.cons_append]
  gi_wp2
  gi_loopw [8] (fun x wr => ∃ k : Nat, x = .int .i64 k ∧ k ≤ r.length ∧ Hid (∀ m (hm : m < r.length), m < k → r[m].id ≠ i) ∧ Below w.heap.size w wr) (fun x _ => r.length - (intOf x).toNat)
  case atStart => exact ⟨0, rfl, Nat.zero_le _, Lib.hid (fun m _ h => absurd h (Nat.not_lt_zero _)), Below.refl _ _⟩
  case round =>
    obtain ⟨k, rfl, hk, hno, hlow⟩ := hrel
    by_cases hkn : k < r.length
    · have hkn' : (k : Int) < (r.length : Int) := by omega
      have hwk : IntKind.i64.wrap ((k : Int) + 1) = (k : Int) + 1 := by rw [IntKind.wrap_i64]; omega
      obtain ⟨ad, rfl, hba, c0, c1, c2, c3, c4, c5, c6, c7, c8, c9⟩ := T10.at_ (hr.below hlow) rfl hkn
      generalize hPa : ad.add (k * 10) = Pa at hba c0 c1 c2 c3 c4 c5 c6 c7 c8 c9
      obtain ⟨t, ht⟩ : ∃ t, t = r[k] := ⟨_, rfl⟩
      rw [← ht] at c0 c1 c2 c3 c4 c5 c6 c7 c8 c9
      replace ht := Lib.hid ht
      have hf1 := hf t wr hlow
      obtain ⟨id, x0, y0, z0, x1, y1, z1, x2, y2, z2⟩ := t
      simp only at c0 c1 c2 c3 c4 c5 c6 c7 c8 c9
      simp only [T10.v] at hf1
      by_cases he : id = i
      · subst he
        have hb : (id == id) = true := by simp
        rw [hb] at hf1
        gi_wp2
        refine ⟨trivial, (callsIn_wide.2 hf1).mono ?_⟩
        rintro en w3 ⟨rfl, hb3⟩
        gi_wp2
        go_ret
        exact ⟨⟨_, rfl, .inr ⟨k, hkn, rfl, by rw [← ht.out], hno.out⟩⟩, hlow.trans (hb3.mono hlow.size)⟩
      · have hb : (id == i) = false := by simpa using he
        rw [hb] at hf1
        replace hno : Hid (∀ m (hm : m < r.length), m < k + 1 → r[m].id ≠ i) := Lib.hid (fun m hm h => by
          rcases Nat.lt_succ_iff_lt_or_eq.1 h with h | h
          · exact hno.out m hm h
          · subst h
            rw [← ht.out]
            exact he)
        clear he
        gi_wp2
        refine ⟨trivial, (callsIn_wide.2 hf1).mono ?_⟩
        rintro en w3 ⟨rfl, hb3⟩
        gi_wp2
        go_roundw
        case rel => exact ⟨k + 1, by go_num, by omega, hno, hlow.trans (hb3.mono hlow.size)⟩
        case measure => simp [intOf]; omega
    · obtain rfl : k = r.length := by omega
      gi_wp2
      go_ret
      exact ⟨⟨_, rfl, FindAt.none_ (fun m hm => hno.out m hm hm)⟩, hlow⟩
set_option maxHeartbeats 4000000 in
set_option maxRecDepth 100000 in
theorem findTri_any (lm : Nat) (lbv : Array Value) (most bad i : Int) (r : List T10) (A : Option Addr) (cap : Nat) (w : World) (hr : Reads w w.heap.size 10 A r.length (fl T10.cs r)) (hl : r.length ≤ 1000) :
    Calls Try.prog 50 #[listv 41 lm lbv most bad, .slice A r.length cap, .int .i64 i] w fun en w' => (∃ q : Int, en = .returned (.int .i64 q) ∧ FindAt T10.id r i q) ∧ Below w.heap.size w w' := by
  obtain ⟨u1, eu1, bu1, ku1⟩ := alloc_step w (.cells #[.func (.func 41) #[] #[], .func (.func lm) #[] lbv, .int .i64 most, .int .i64 bad] 55)
  obtain ⟨u2, eu2, bu2, ku2⟩ := alloc_step u1 (.cells #[.int .i64 i] 3)
  have hb2 : Below w.heap.size w u2 := bu1.trans (bu2.mono bu1.size)
  have ku1' := (bu2.block _ (lt_of_block ku1)).trans ku1
  have hx := indexTri_any i w.heap.size u1.heap.size r A cap u2 (cell_of ku1' rfl) (cell_of ku2 rfl) (lt_of_block ku1') (lt_of_block ku2) ((hr.below hb2).more hb2.size) hl
  unfold listv
  refine (callsIn_wide (n := 6)).1 ?_
  refine callsIn_of_wp Try.func50 rfl trivial ?_
  simp only [Try.ntmps50, List.size_toArray, List.length_cons, List.length_nil, Nat.reduceAdd, Nat.reduceSub, Array.replicate_succ, Array.replicate_zero, List.push_toArray, List.append_toArray, List.nil_append, List.cons_append]
  gi_wp2
  refine ⟨trivial, (callsIn_wide.2 hx).mono ?_⟩
  rintro en w3 ⟨⟨q, rfl, hq⟩, hb3⟩
  gi_wp2
  go_ret
  exact ⟨⟨q, rfl, hq⟩, hb2.trans (hb3.mono hb2.size)⟩
set_option maxHeartbeats 4000000 in
set_option maxRecDepth 100000 in
theorem isIdBox_any (t : B8) (i : Int) (bl bi : Nat) (w : World) (hL : w.cell? ⟨bl, 0, none⟩ = some (.func (.func 53) #[] #[])) (hi : w.cell? ⟨bi, 0, none⟩ = some (.int .i64 i)) (lb : bl < w.heap.size) (li : bi < w.heap.size) :
    Calls Try.prog 79 #[t.v, .pointer (some ⟨bl, 0, none⟩), .pointer (some ⟨bi, 0, none⟩)] w fun en w' => en = .returned (.bool (t.id == i)) ∧ Below w.heap.size w w' := by
  obtain ⟨id, x0, z0, x1, z1, y0, y1, ar⟩ := t
  obtain ⟨u1, eu1, bu1, ku1⟩ := alloc_step w (.cells #[.int .i64 id, .int .i64 x0, .int .i64 z0, .int .i64 x1, .int .i64 z1, .int .i64 y0, .int .i64 y1, .int .i64 ar] 64)
  obtain ⟨c0, c1, c2, c3, c4, c5, c6, c7⟩ := box8 ku1
  have hL1 := (bu1.cell lb).trans hL
  have hi1 := (bu1.cell li).trans hi
  have l1 : w.heap.size < u1.heap.size := lt_of_block ku1
  have l2 : bl < u1.heap.size := by omega
  have l3 : bi < u1.heap.size := by omega
  have hid := fun w => idBox_any ⟨id, x0, z0, x1, z1, y0, y1, ar⟩ w
  unfold B8.v at hid
  unfold B8.v
  refine (callsIn_wide (n := 6)).1 ?_
  refine callsIn_of_wp Try.func79 rfl trivial ?_
  simp only [Try.ntmps79, List.size_toArray, List.length_cons, List.length_nil, Nat.reduceAdd, Nat.reduceSub, Array.replicate_succ, Array.replicate_zero, List.push_toArray, List.append_toArray, List.nil_append, List.cons_append]
  gi_wp2
  have hS : (CellsL [(⟨bl, 0, none⟩, .func (.func 53) #[] #[]), (⟨bi, 0, none⟩, .int .i64 i), (⟨w.heap.size, 0, none⟩, .int .i64 id), (⟨w.heap.size, 1, none⟩, .int .i64 x0), (⟨w.heap.size, 2, none⟩, .int .i64 z0), (⟨w.heap.size, 3, none⟩, .int .i64 x1), (⟨w.heap.size, 4, none⟩, .int .i64 z1), (⟨w.heap.size, 5, none⟩, .int .i64 y0), (⟨w.heap.size, 6, none⟩, .int .i64 y1), (⟨w.heap.size, 7, none⟩, .int .i64 ar)]) (u1.drew) := ⟨hL1, hi1, c0, c1, c2, c3, c4, c5, c6, c7, trivial⟩
  refine wpIn_region_ord [(0, true), (1, true), (2, true), (4, true), (3, false), (5, true)] (CellsL [(⟨bl, 0, none⟩, .func (.func 53) #[] #[]), (⟨bi, 0, none⟩, .int .i64 i), (⟨w.heap.size, 0, none⟩, .int .i64 id), (⟨w.heap.size, 1, none⟩, .int .i64 x0), (⟨w.heap.size, 2, none⟩, .int .i64 z0), (⟨w.heap.size, 3, none⟩, .int .i64 x1), (⟨w.heap.size, 4, none⟩, .int .i64 z1), (⟨w.heap.size, 5, none⟩, .int .i64 y0), (⟨w.heap.size, 6, none⟩, .int .i64 y1), (⟨w.heap.size, 7, none⟩, .int .i64 ar)]) (fun _ => trivial) rfl (by first | exact then_put rfl | (intro c d v a w h; cases d <;> exact h)) (by kernel_rfl) ?_
  simp only [List.length_cons, List.length_nil, Nat.reduceAdd, List.drop_succ_cons, List.drop_zero]
  iterate 4 (apply wpOrd_quiet rfl hS rfl; (intro w' hw'; obtain ⟨q0, q1, q2, q3, q4, q5, q6, q7, q8, q9, _⟩ := hw'; go_simp; exact rfl); go_simp)
  refine wpOrd_move rfl rfl ?_
  go_simp
  refine ⟨trivial, (callsIn_wide.2 (hid _)).mono ?_⟩
  rintro en w3 ⟨rfl, hb3⟩
  replace hS := CellsL.keep hb3 hS ⟨l2, l3, l1, l1, l1, l1, l1, l1, l1, l1, trivial⟩
  refine ⟨hS, ?_⟩
  go_simp
  iterate 1 (apply wpOrd_quiet rfl hS rfl; (intro w' hw'; obtain ⟨q0, q1, q2, q3, q4, q5, q6, q7, q8, q9, _⟩ := hw'; go_simp; exact rfl); go_simp)
  refine wpOrd_nil ?_
  clear hS
  gi_wp2
  go_ret
  exact ⟨rfl, bu1.trans ((Below.refl u1.heap.size u1).drew.trans hb3 |>.mono bu1.size)⟩
set_option maxHeartbeats 4000000 in
set_option maxRecDepth 100000 in
theorem indexBox_any (i : Int) (bl bi : Nat) (r : List B8) (A : Option Addr) (cap : Nat) (w : World) (hL : w.cell? ⟨bl, 0, none⟩ = some (.func (.func 53) #[] #[])) (hi : w.cell? ⟨bi, 0, none⟩ = some (.int .i64 i)) (lb : bl < w.heap.size) (li : bi < w.heap.size)
    (hr : Reads w w.heap.size 8 A r.length (fl B8.cs r)) (hl : r.length ≤ 1000) :
    Calls Try.prog 78 #[.slice A r.length cap, .func (.func 79) #[] #[.pointer (some ⟨bl, 0, none⟩), .pointer (some ⟨bi, 0, none⟩)]] w fun en w' => (∃ q : Int, en = .returned (.int .i64 q) ∧ FindAt B8.id r i q) ∧ Below w.heap.size w w' := by
  have hf := fun (t : B8) (W : World) (h : Below w.heap.size w W) => isIdBox_any t i bl bi W ((h.cell lb).trans hL) ((h.cell li).trans hi) (Nat.lt_of_lt_of_le lb h.size) (Nat.lt_of_lt_of_le li h.size)
  clear hL hi
  refine (callsIn_wide (n := 6)).1 ?_
  refine callsIn_of_wp Try.func78 rfl trivial ?_
  simp only [Try.ntmps78, List.size_toArray, List.length_cons, List.length_nil, Nat.reduceAdd, Nat.reduceSub, Array.replicate_succ, Array.replicate_zero, List.push_toArray, List.append_toArray, List.nil_append, List.cons_append]
  gi_wp2
  gi_loopw [8] (fun x wr => ∃ k : Nat, x = .int .i64 k ∧ k ≤ r.length ∧ Hid (∀ m (hm : m < r.length), m < k → r[m].id ≠ i) ∧ Below w.heap.size w wr) (fun x _ => r.length - (intOf x).toNat)
  case atStart => exact ⟨0, rfl, Nat.zero_le _, Lib.hid (fun m _ h => absurd h (Nat.not_lt_zero _)), Below.refl _ _⟩
  case round =>
    obtain ⟨k, rfl, hk, hno, hlow⟩ := hrel
    by_cases hkn : k < r.length
    · have hkn' : (k : Int) < (r.length : Int) := by omega
      have hwk : IntKind.i64.wrap ((k : Int) + 1) = (k : Int) + 1 := by rw [IntKind.wrap_i64]; omega
      obtain ⟨ad, rfl, hba, c0, c1, c2, c3, c4, c5, c6, c7⟩ := B8.at_ (hr.below hlow) rfl hkn
      generalize hPa : ad.add (k * 8) = Pa at hba c0 c1 c2 c3 c4 c5 c6 c7
      obtain ⟨t, ht⟩ : ∃ t, t = r[k] := ⟨_, rfl⟩
      rw [← ht] at c0 c1 c2 c3 c4 c5 c6 c7
      replace ht := Lib.hid ht
      have hf1 := hf t wr hlow
      obtain ⟨id, x0, z0, x1, z1, y0, y1, ar⟩ := t
      simp only at c0 c1 c2 c3 c4 c5 c6 c7
      simp only [B8.v] at hf1
      by_cases he : id = i
      · subst he
        have hb : (id == id) = true := by simp
        rw [hb] at hf1
        gi_wp2
        refine ⟨trivial, (callsIn_wide.2 hf1).mono ?_⟩
        rintro en w3 ⟨rfl, hb3⟩
        gi_wp2
        go_ret
        exact ⟨⟨_, rfl, .inr ⟨k, hkn, rfl, by rw [← ht.out], hno.out⟩⟩, hlow.trans (hb3.mono hlow.size)⟩
      · have hb : (id == i) = false := by simpa using he
        rw [hb] at hf1
        replace hno : Hid (∀ m (hm : m < r.length), m < k + 1 → r[m].id ≠ i) := Lib.hid (fun m hm h => by
          rcases Nat.lt_succ_iff_lt_or_eq.1 h with h | h
          · exact hno.out m hm h
          · subst h
            rw [← ht.out]
            exact he)
        clear he
        gi_wp2
        refine ⟨trivial, (callsIn_wide.2 hf1).mono ?_⟩
        rintro en w3 ⟨rfl, hb3⟩
        gi_wp2
        go_roundw
        case rel => exact ⟨k + 1, by go_num, by omega, hno, hlow.trans (hb3.mono hlow.size)⟩
        case measure => simp [intOf]; omega
    · obtain rfl : k = r.length := by omega
      gi_wp2
      go_ret
      exact ⟨⟨_, rfl, FindAt.none_ (fun m hm => hno.out m hm hm)⟩, hlow⟩
set_option maxHeartbeats 4000000 in
set_option maxRecDepth 100000 in
theorem findBox_any (lm : Nat) (lbv : Array Value) (most bad i : Int) (r : List B8) (A : Option Addr) (cap : Nat) (w : World) (hr : Reads w w.heap.size 8 A r.length (fl B8.cs r)) (hl : r.length ≤ 1000) :
    Calls Try.prog 60 #[listv 53 lm lbv most bad, .slice A r.length cap, .int .i64 i] w fun en w' => (∃ q : Int, en = .returned (.int .i64 q) ∧ FindAt B8.id r i q) ∧ Below w.heap.size w w' := by
  obtain ⟨u1, eu1, bu1, ku1⟩ := alloc_step w (.cells #[.func (.func 53) #[] #[], .func (.func lm) #[] lbv, .int .i64 most, .int .i64 bad] 70)
  obtain ⟨u2, eu2, bu2, ku2⟩ := alloc_step u1 (.cells #[.int .i64 i] 3)
  have hb2 : Below w.heap.size w u2 := bu1.trans (bu2.mono bu1.size)
  have ku1' := (bu2.block _ (lt_of_block ku1)).trans ku1
  have hx := indexBox_any i w.heap.size u1.heap.size r A cap u2 (cell_of ku1' rfl) (cell_of ku2 rfl) (lt_of_block ku1') (lt_of_block ku2) ((hr.below hb2).more hb2.size) hl
  unfold listv
  refine (callsIn_wide (n := 6)).1 ?_
  refine callsIn_of_wp Try.func60 rfl trivial ?_
  simp only [Try.ntmps60, List.size_toArray, List.length_cons, List.length_nil, Nat.reduceAdd, Nat.reduceSub, Array.replicate_succ, Array.replicate_zero, List.push_toArray, List.append_toArray, List.nil_append, List.cons_append]
  gi_wp2
  refine ⟨trivial, (callsIn_wide.2 hx).mono ?_⟩
  rintro en w3 ⟨⟨q, rfl, hq⟩, hb3⟩
  gi_wp2
  go_ret
  exact ⟨⟨q, rfl, hq⟩, hb2.trans (hb3.mono hb2.size)⟩
set_option maxHeartbeats 4000000 in
set_option maxRecDepth 100000 in
theorem isIdHop_any (t : H10) (i : Int) (bl bi : Nat) (w : World) (hL : w.cell? ⟨bl, 0, none⟩ = some (.func (.func 64) #[] #[])) (hi : w.cell? ⟨bi, 0, none⟩ = some (.int .i64 i)) (lb : bl < w.heap.size) (li : bi < w.heap.size) :
    Calls Try.prog 81 #[t.v, .pointer (some ⟨bl, 0, none⟩), .pointer (some ⟨bi, 0, none⟩)] w fun en w' => en = .returned (.bool (t.id == i)) ∧ Below w.heap.size w w' := by
  obtain ⟨id, fx, fz, fy, tx, tz, ty, both, ar, co⟩ := t
  obtain ⟨u1, eu1, bu1, ku1⟩ := alloc_step w (.cells #[.int .i64 id, .int .i64 fx, .int .i64 fz, .int .i64 fy, .int .i64 tx, .int .i64 tz, .int .i64 ty, .bool both, .int .i64 ar, .int .i64 co] 78)
  obtain ⟨c0, c1, c2, c3, c4, c5, c6, c7, c8, c9⟩ := box10 ku1
  have hL1 := (bu1.cell lb).trans hL
  have hi1 := (bu1.cell li).trans hi
  have l1 : w.heap.size < u1.heap.size := lt_of_block ku1
  have l2 : bl < u1.heap.size := by omega
  have l3 : bi < u1.heap.size := by omega
  have hid := fun w => idHop_any ⟨id, fx, fz, fy, tx, tz, ty, both, ar, co⟩ w
  unfold H10.v at hid
  unfold H10.v
  refine (callsIn_wide (n := 6)).1 ?_
  refine callsIn_of_wp Try.func81 rfl trivial ?_
  simp only [Try.ntmps81, List.size_toArray, List.length_cons, List.length_nil, Nat.reduceAdd, Nat.reduceSub, Array.replicate_succ, Array.replicate_zero, List.push_toArray, List.append_toArray, List.nil_append, List.cons_append]
  gi_wp2
  have hS : (CellsL [(⟨bl, 0, none⟩, .func (.func 64) #[] #[]), (⟨bi, 0, none⟩, .int .i64 i), (⟨w.heap.size, 0, none⟩, .int .i64 id), (⟨w.heap.size, 1, none⟩, .int .i64 fx), (⟨w.heap.size, 2, none⟩, .int .i64 fz), (⟨w.heap.size, 3, none⟩, .int .i64 fy), (⟨w.heap.size, 4, none⟩, .int .i64 tx), (⟨w.heap.size, 5, none⟩, .int .i64 tz), (⟨w.heap.size, 6, none⟩, .int .i64 ty), (⟨w.heap.size, 7, none⟩, .bool both), (⟨w.heap.size, 8, none⟩, .int .i64 ar), (⟨w.heap.size, 9, none⟩, .int .i64 co)]) (u1.drew) := ⟨hL1, hi1, c0, c1, c2, c3, c4, c5, c6, c7, c8, c9, trivial⟩
  refine wpIn_region_ord [(0, true), (1, true), (2, true), (4, true), (3, false), (5, true)] (CellsL [(⟨bl, 0, none⟩, .func (.func 64) #[] #[]), (⟨bi, 0, none⟩, .int .i64 i), (⟨w.heap.size, 0, none⟩, .int .i64 id), (⟨w.heap.size, 1, none⟩, .int .i64 fx), (⟨w.heap.size, 2, none⟩, .int .i64 fz), (⟨w.heap.size, 3, none⟩, .int .i64 fy), (⟨w.heap.size, 4, none⟩, .int .i64 tx), (⟨w.heap.size, 5, none⟩, .int .i64 tz), (⟨w.heap.size, 6, none⟩, .int .i64 ty), (⟨w.heap.size, 7, none⟩, .bool both), (⟨w.heap.size, 8, none⟩, .int .i64 ar), (⟨w.heap.size, 9, none⟩, .int .i64 co)]) (fun _ => trivial) rfl (by first | exact then_put rfl | (intro c d v a w h; cases d <;> exact h)) (by kernel_rfl) ?_
  simp only [List.length_cons, List.length_nil, Nat.reduceAdd, List.drop_succ_cons, List.drop_zero]
  iterate 4 (apply wpOrd_quiet rfl hS rfl; (intro w' hw'; obtain ⟨q0, q1, q2, q3, q4, q5, q6, q7, q8, q9, q10, q11, _⟩ := hw'; go_simp; exact rfl); go_simp)
  refine wpOrd_move rfl rfl ?_
  go_simp
  refine ⟨trivial, (callsIn_wide.2 (hid _)).mono ?_⟩
  rintro en w3 ⟨rfl, hb3⟩
  replace hS := CellsL.keep hb3 hS ⟨l2, l3, l1, l1, l1, l1, l1, l1, l1, l1, l1, l1, trivial⟩
  refine ⟨hS, ?_⟩
  go_simp
  iterate 1 (apply wpOrd_quiet rfl hS rfl; (intro w' hw'; obtain ⟨q0, q1, q2, q3, q4, q5, q6, q7, q8, q9, q10, q11, _⟩ := hw'; go_simp; exact rfl); go_simp)
  refine wpOrd_nil ?_
  clear hS
  gi_wp2
  go_ret
  exact ⟨rfl, bu1.trans ((Below.refl u1.heap.size u1).drew.trans hb3 |>.mono bu1.size)⟩
set_option maxHeartbeats 4000000 in
set_option maxRecDepth 100000 in
theorem indexHop_any (i : Int) (bl bi : Nat) (r : List H10) (A : Option Addr) (cap : Nat) (w : World) (hL : w.cell? ⟨bl, 0, none⟩ = some (.func (.func 64) #[] #[])) (hi : w.cell? ⟨bi, 0, none⟩ = some (.int .i64 i)) (lb : bl < w.heap.size) (li : bi < w.heap.size)
    (hr : Reads w w.heap.size 10 A r.length (fl H10.cs r)) (hl : r.length ≤ 1000) :
    Calls Try.prog 80 #[.slice A r.length cap, .func (.func 81) #[] #[.pointer (some ⟨bl, 0, none⟩), .pointer (some ⟨bi, 0, none⟩)]] w fun en w' => (∃ q : Int, en = .returned (.int .i64 q) ∧ FindAt H10.id r i q) ∧ Below w.heap.size w w' := by
  have hf := fun (t : H10) (W : World) (h : Below w.heap.size w W) => isIdHop_any t i bl bi W ((h.cell lb).trans hL) ((h.cell li).trans hi) (Nat.lt_of_lt_of_le lb h.size) (Nat.lt_of_lt_of_le li h.size)
  clear hL hi
  refine (callsIn_wide (n := 6)).1 ?_
  refine callsIn_of_wp Try.func80 rfl trivial ?_
  simp only [Try.ntmps80, List.size_toArray, List.length_cons, List.length_nil, Nat.reduceAdd, Nat.reduceSub, Array.replicate_succ, Array.replicate_zero, List.push_toArray, List.append_toArray, List.nil_append, List.cons_append]
  gi_wp2
  gi_loopw [8] (fun x wr => ∃ k : Nat, x = .int .i64 k ∧ k ≤ r.length ∧ Hid (∀ m (hm : m < r.length), m < k → r[m].id ≠ i) ∧ Below w.heap.size w wr) (fun x _ => r.length - (intOf x).toNat)
  case atStart => exact ⟨0, rfl, Nat.zero_le _, Lib.hid (fun m _ h => absurd h (Nat.not_lt_zero _)), Below.refl _ _⟩
  case round =>
    obtain ⟨k, rfl, hk, hno, hlow⟩ := hrel
    by_cases hkn : k < r.length
    · have hkn' : (k : Int) < (r.length : Int) := by omega
      have hwk : IntKind.i64.wrap ((k : Int) + 1) = (k : Int) + 1 := by rw [IntKind.wrap_i64]; omega
      obtain ⟨ad, rfl, hba, c0, c1, c2, c3, c4, c5, c6, c7, c8, c9⟩ := H10.at_ (hr.below hlow) rfl hkn
      generalize hPa : ad.add (k * 10) = Pa at hba c0 c1 c2 c3 c4 c5 c6 c7 c8 c9
      obtain ⟨t, ht⟩ : ∃ t, t = r[k] := ⟨_, rfl⟩
      rw [← ht] at c0 c1 c2 c3 c4 c5 c6 c7 c8 c9
      replace ht := Lib.hid ht
      have hf1 := hf t wr hlow
      obtain ⟨id, fx, fz, fy, tx, tz, ty, both, ar, co⟩ := t
      simp only at c0 c1 c2 c3 c4 c5 c6 c7 c8 c9
      simp only [H10.v] at hf1
      by_cases he : id = i
      · subst he
        have hb : (id == id) = true := by simp
        rw [hb] at hf1
        gi_wp2
        refine ⟨trivial, (callsIn_wide.2 hf1).mono ?_⟩
        rintro en w3 ⟨rfl, hb3⟩
        gi_wp2
        go_ret
        exact ⟨⟨_, rfl, .inr ⟨k, hkn, rfl, by rw [← ht.out], hno.out⟩⟩, hlow.trans (hb3.mono hlow.size)⟩
      · have hb : (id == i) = false := by simpa using he
        rw [hb] at hf1
        replace hno : Hid (∀ m (hm : m < r.length), m < k + 1 → r[m].id ≠ i) := Lib.hid (fun m hm h => by
          rcases Nat.lt_succ_iff_lt_or_eq.1 h with h | h
          · exact hno.out m hm h
          · subst h
            rw [← ht.out]
            exact he)
        clear he
        gi_wp2
        refine ⟨trivial, (callsIn_wide.2 hf1).mono ?_⟩
        rintro en w3 ⟨rfl, hb3⟩
        gi_wp2
        go_roundw
        case rel => exact ⟨k + 1, by go_num, by omega, hno, hlow.trans (hb3.mono hlow.size)⟩
        case measure => simp [intOf]; omega
    · obtain rfl : k = r.length := by omega
      gi_wp2
      go_ret
      exact ⟨⟨_, rfl, FindAt.none_ (fun m hm => hno.out m hm hm)⟩, hlow⟩
set_option maxHeartbeats 4000000 in
set_option maxRecDepth 100000 in
theorem findHop_any (lm : Nat) (lbv : Array Value) (most bad i : Int) (r : List H10) (A : Option Addr) (cap : Nat) (w : World) (hr : Reads w w.heap.size 10 A r.length (fl H10.cs r)) (hl : r.length ≤ 1000) :
    Calls Try.prog 66 #[listv 64 lm lbv most bad, .slice A r.length cap, .int .i64 i] w fun en w' => (∃ q : Int, en = .returned (.int .i64 q) ∧ FindAt H10.id r i q) ∧ Below w.heap.size w w' := by
  obtain ⟨u1, eu1, bu1, ku1⟩ := alloc_step w (.cells #[.func (.func 64) #[] #[], .func (.func lm) #[] lbv, .int .i64 most, .int .i64 bad] 84)
  obtain ⟨u2, eu2, bu2, ku2⟩ := alloc_step u1 (.cells #[.int .i64 i] 3)
  have hb2 : Below w.heap.size w u2 := bu1.trans (bu2.mono bu1.size)
  have ku1' := (bu2.block _ (lt_of_block ku1)).trans ku1
  have hx := indexHop_any i w.heap.size u1.heap.size r A cap u2 (cell_of ku1' rfl) (cell_of ku2 rfl) (lt_of_block ku1') (lt_of_block ku2) ((hr.below hb2).more hb2.size) hl
  unfold listv
  refine (callsIn_wide (n := 6)).1 ?_
  refine callsIn_of_wp Try.func66 rfl trivial ?_
  simp only [Try.ntmps66, List.size_toArray, List.length_cons, List.length_nil, Nat.reduceAdd, Nat.reduceSub, Array.replicate_succ, Array.replicate_zero, List.push_toArray, List.append_toArray, List.nil_append, List.cons_append]
  gi_wp2
  refine ⟨trivial, (callsIn_wide.2 hx).mono ?_⟩
  rintro en w3 ⟨⟨q, rfl, hq⟩, hb3⟩
  gi_wp2
  go_ret
  exact ⟨⟨q, rfl, hq⟩, hb2.trans (hb3.mono hb2.size)⟩
end Go.Proofs.Ytpbpbijjkmjjjaa
