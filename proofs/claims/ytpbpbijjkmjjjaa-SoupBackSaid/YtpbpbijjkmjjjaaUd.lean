/- The lists of the soup: ids; may a thing be; by walks. No conditions but that the rows lie where they are said to lie. -/
import Derived.Test.YtpbpbijjkmjjjaaUc
set_option linter.unusedSimpArgs false
set_option linter.unusedVariables false
namespace Go.Proofs.Ytpbpbijjkmjjjaa
open Go Go.RowKit Go.Sx
attribute [local go_sem] Oper.semAt_some
/-- May a thing be, its id too? -/
def oneF {α : Type} (id : α → Int) (p : α → Bool) (x : α) : Bool := decide (1 ≤ id x) && decide (id x ≤ 1073741824) && p x
def listv (i m : Nat) (lb : Array Value) (most bad : Int) : Value := .agg #[.func (.func i) #[] #[], .func (.func m) #[] lb, .int .i64 most, .int .i64 bad]
theorem one_no1 {α : Type} {id : α → Int} {p : α → Bool} {x : α} (h : id x < 1) : oneF id p x = false := by
  have : ¬ 1 ≤ id x := by omega
  simp [oneF, this]
theorem one_no2 {α : Type} {id : α → Int} {p : α → Bool} {x : α} (h : 1073741824 < id x) : oneF id p x = false := by
  have : ¬ id x ≤ 1073741824 := by omega
  simp [oneF, this]
theorem one_yes {α : Type} {id : α → Int} {p : α → Bool} {x : α} (h1 : 1 ≤ id x) (h2 : id x ≤ 1073741824) : oneF id p x = p x := by simp [oneF, h1, h2]
theorem box8 {w : World} {B : Nat} {v0 v1 v2 v3 v4 v5 v6 v7 : Value} {T : TypeId} (h : w.heap[B]? = some (.cells #[v0, v1, v2, v3, v4, v5, v6, v7] T (0, 0))) :
    w.cell? ⟨B, 0, none⟩ = some v0 ∧ w.cell? ⟨B, 1, none⟩ = some v1 ∧ w.cell? ⟨B, 2, none⟩ = some v2 ∧ w.cell? ⟨B, 3, none⟩ = some v3 ∧ w.cell? ⟨B, 4, none⟩ = some v4 ∧ w.cell? ⟨B, 5, none⟩ = some v5 ∧ w.cell? ⟨B, 6, none⟩ = some v6 ∧ w.cell? ⟨B, 7, none⟩ = some v7 :=
  ⟨cell_of h rfl, cell_of h rfl, cell_of h rfl, cell_of h rfl, cell_of h rfl, cell_of h rfl, cell_of h rfl, cell_of h rfl⟩
theorem idBox_any (t : B8) (w : World) : Calls Try.prog 53 #[t.v] w fun en w' => en = .returned (.int .i64 t.id) ∧ Below w.heap.size w w' := by
  obtain ⟨id, x0, z0, x1, z1, y0, y1, ar⟩ := t
  obtain ⟨u1, eu1, bu1, ku1⟩ := alloc_step w (.cells #[.int .i64 id, .int .i64 x0, .int .i64 z0, .int .i64 x1, .int .i64 z1, .int .i64 y0, .int .i64 y1, .int .i64 ar] 64)
  have c0 : u1.cell? ⟨w.heap.size, 0, none⟩ = some _ := cell_of ku1 rfl
  unfold B8.v
  refine (callsIn_wide (n := 6)).1 ?_
  refine callsIn_of_wp Try.func53 rfl trivial ?_
  simp only [Try.ntmps53, List.size_toArray, List.length_cons, List.length_nil, Nat.reduceAdd, Nat.reduceSub, Array.replicate_succ, Array.replicate_zero, List.push_toArray, List.append_toArray, List.nil_append, List.cons_append]
  gi_wp2
  go_ret
  exact ⟨rfl, bu1⟩
theorem idHop_any (t : H10) (w : World) : Calls Try.prog 64 #[t.v] w fun en w' => en = .returned (.int .i64 t.id) ∧ Below w.heap.size w w' := by
  obtain ⟨id, fx, fz, fy, tx, tz, ty, both, ar, co⟩ := t
  obtain ⟨u1, eu1, bu1, ku1⟩ := alloc_step w (.cells #[.int .i64 id, .int .i64 fx, .int .i64 fz, .int .i64 fy, .int .i64 tx, .int .i64 tz, .int .i64 ty, .bool both, .int .i64 ar, .int .i64 co] 78)
  have c0 : u1.cell? ⟨w.heap.size, 0, none⟩ = some _ := cell_of ku1 rfl
  unfold H10.v
  refine (callsIn_wide (n := 6)).1 ?_
  refine callsIn_of_wp Try.func64 rfl trivial ?_
  simp only [Try.ntmps64, List.size_toArray, List.length_cons, List.length_nil, Nat.reduceAdd, Nat.reduceSub, Array.replicate_succ, Array.replicate_zero, List.push_toArray, List.append_toArray, List.nil_append, List.cons_append]
  gi_wp2
  go_ret
  exact ⟨rfl, bu1⟩
/-- The thing in a place. -/
theorem T10.at_ {w : World} {B n : Nat} {A : Option Addr} {l : List T10} (h : Reads w B 10 A n (fl T10.cs l)) (hn : n = l.length) {j : Nat} (hj : j < l.length) :
    ∃ ad, A = some ad ∧ (ad.add (j * 10)).block < B ∧ w.cell? (ad.add (j * 10)) = some (.int .i64 l[j].id) ∧ w.cell? ⟨(ad.add (j * 10)).block, (ad.add (j * 10)).off + 1, none⟩ = some (.int .i64 l[j].x0) ∧ w.cell? ⟨(ad.add (j * 10)).block, (ad.add (j * 10)).off + 2, none⟩ = some (.int .i64 l[j].y0) ∧ w.cell? ⟨(ad.add (j * 10)).block, (ad.add (j * 10)).off + 3, none⟩ = some (.int .i64 l[j].z0) ∧ w.cell? ⟨(ad.add (j * 10)).block, (ad.add (j * 10)).off + 4, none⟩ = some (.int .i64 l[j].x1) ∧ w.cell? ⟨(ad.add (j * 10)).block, (ad.add (j * 10)).off + 5, none⟩ = some (.int .i64 l[j].y1) ∧ w.cell? ⟨(ad.add (j * 10)).block, (ad.add (j * 10)).off + 6, none⟩ = some (.int .i64 l[j].z1) ∧ w.cell? ⟨(ad.add (j * 10)).block, (ad.add (j * 10)).off + 7, none⟩ = some (.int .i64 l[j].x2) ∧ w.cell? ⟨(ad.add (j * 10)).block, (ad.add (j * 10)).off + 8, none⟩ = some (.int .i64 l[j].y2) ∧ w.cell? ⟨(ad.add (j * 10)).block, (ad.add (j * 10)).off + 9, none⟩ = some (.int .i64 l[j].z2) := by
  obtain ⟨ad, e, hb, hc⟩ := fl_at T10.len h hn hj
  exact ⟨ad, e, by rw [block_of_add]; exact hb, hc 0 _ (by decide) rfl, by have := hc 1 _ (by decide) rfl; rw [← add_of_add] at this; exact this, by have := hc 2 _ (by decide) rfl; rw [← add_of_add] at this; exact this, by have := hc 3 _ (by decide) rfl; rw [← add_of_add] at this; exact this, by have := hc 4 _ (by decide) rfl; rw [← add_of_add] at this; exact this, by have := hc 5 _ (by decide) rfl; rw [← add_of_add] at this; exact this, by have := hc 6 _ (by decide) rfl; rw [← add_of_add] at this; exact this, by have := hc 7 _ (by decide) rfl; rw [← add_of_add] at this; exact this, by have := hc 8 _ (by decide) rfl; rw [← add_of_add] at this; exact this, by have := hc 9 _ (by decide) rfl; rw [← add_of_add] at this; exact this⟩
set_option maxHeartbeats 4000000 in
set_option maxRecDepth 100000 in
theorem oneTri_any (p : T10 → Bool) (a b : Value) (most bad : Int) (t : T10) (w : World) (hp : MayAt 42 #[a, b] T10.v p w) :
    Calls Try.prog 45 #[listv 41 42 #[a, b] most bad, t.v] w fun en w' => en = .returned (.bool (oneF T10.id p t)) ∧ Below w.heap.size w w' := by
  obtain ⟨u1, eu1, bu1, ku1⟩ := alloc_step w (.cells #[.func (.func 41) #[] #[], .func (.func 42) #[] #[a, b], .int .i64 most, .int .i64 bad] 55)
  obtain ⟨id, x0, y0, z0, x1, y1, z1, x2, y2, z2⟩ := t
  obtain ⟨u2, eu2, bu2, ku2⟩ := alloc_step u1 (.cells #[.int .i64 id, .int .i64 x0, .int .i64 y0, .int .i64 z0, .int .i64 x1, .int .i64 y1, .int .i64 z1, .int .i64 x2, .int .i64 y2, .int .i64 z2] 33)
  have hb2 : Below w.heap.size w u2 := bu1.trans (bu2.mono bu1.size)
  have ku1' := (bu2.block _ (lt_of_block ku1)).trans ku1
  obtain ⟨l0, l1, l2, l3⟩ := box4 ku1'
  obtain ⟨c0, c1, c2, c3, c4, c5, c6, c7, c8, c9⟩ := box10 ku2
  have hid := fun w => idTri_any ⟨id, x0, y0, z0, x1, y1, z1, x2, y2, z2⟩ w
  have hpp : ∀ W, Below w.heap.size w W → Calls Try.prog 42 #[.agg #[.int .i64 id, .int .i64 x0, .int .i64 y0, .int .i64 z0, .int .i64 x1, .int .i64 y1, .int .i64 z1, .int .i64 x2, .int .i64 y2, .int .i64 z2], a, b] W fun en w' => en = .returned (.bool (p ⟨id, x0, y0, z0, x1, y1, z1, x2, y2, z2⟩)) ∧ Below W.heap.size W w' := fun W h => hp W ⟨id, x0, y0, z0, x1, y1, z1, x2, y2, z2⟩ h
  unfold T10.v at hid
  unfold listv T10.v
  clear hp
  refine (callsIn_wide (n := 6)).1 ?_
  refine callsIn_of_wp Try.func45 rfl trivial ?_
  simp only [Try.ntmps45, List.size_toArray, List.length_cons, List.length_nil, Nat.reduceAdd, Nat.reduceSub, Array.replicate_succ, Array.replicate_zero, List.push_toArray, List.append_toArray, List.nil_append, List.cons_append]
  gi_wp2
  refine ⟨trivial, (callsIn_wide.2 (hid _)).mono ?_⟩
  rintro en w3 ⟨rfl, hb3⟩
  have hbw3 := hb2.trans (hb3.mono hb2.size)
  clear l0 l1 l2 l3 c0 c1 c2 c3 c4 c5 c6 c7 c8 c9
  have m1 := (hb3.block _ (lt_of_block ku1')).trans ku1'
  have m2 := (hb3.block _ (lt_of_block ku2)).trans ku2
  obtain ⟨l0, l1, l2, l3⟩ := box4 m1
  obtain ⟨c0, c1, c2, c3, c4, c5, c6, c7, c8, c9⟩ := box10 m2
  by_cases h1 : id < 1
  · have ho : Hid (oneF T10.id p ⟨id, x0, y0, z0, x1, y1, z1, x2, y2, z2⟩ = false) := Lib.hid (one_no1 h1)
    gi_wp2_with (refine wpListIn_off rfl ?_)
    go_ret
    exact ⟨by rw [ho.out]; rfl, hbw3⟩
  · have h1' : 1 ≤ id := by omega
    clear h1
    gi_wp2
    refine ⟨trivial, (callsIn_wide.2 (hid _)).mono ?_⟩
    rintro en w4 ⟨rfl, hb4⟩
    have hbw4 := hbw3.trans (hb4.mono hbw3.size)
    clear l0 l1 l2 l3 c0 c1 c2 c3 c4 c5 c6 c7 c8 c9
    have n1 := (hb4.block _ (lt_of_block m1)).trans m1
    have n2 := (hb4.block _ (lt_of_block m2)).trans m2
    obtain ⟨l0, l1, l2, l3⟩ := box4 n1
    obtain ⟨c0, c1, c2, c3, c4, c5, c6, c7, c8, c9⟩ := box10 n2
    by_cases h2 : 1073741824 < id
    · have ho : Hid (oneF T10.id p ⟨id, x0, y0, z0, x1, y1, z1, x2, y2, z2⟩ = false) := Lib.hid (one_no2 h2)
      have h2' : ¬ id ≤ 1073741824 := by omega
      gi_wp2_with (refine wpListIn_off rfl ?_)
      go_ret
      exact ⟨by rw [ho.out]; rfl, hbw4⟩
    · have h2' : id ≤ 1073741824 := by omega
      have ho : Hid (oneF T10.id p ⟨id, x0, y0, z0, x1, y1, z1, x2, y2, z2⟩ = p ⟨id, x0, y0, z0, x1, y1, z1, x2, y2, z2⟩) := Lib.hid (one_yes h1' h2')
      clear h2
      gi_wp2
      refine ⟨trivial, (callsIn_wide.2 (hpp _ hbw4)).mono ?_⟩
      rintro en w5 ⟨rfl, hb5⟩
      gi_wp2
      go_ret
      exact ⟨by rw [ho.out]; rfl, hbw4.trans (hb5.mono hbw4.size)⟩
/-- The thing in a place. -/
theorem B8.at_ {w : World} {B n : Nat} {A : Option Addr} {l : List B8} (h : Reads w B 8 A n (fl B8.cs l)) (hn : n = l.length) {j : Nat} (hj : j < l.length) :
    ∃ ad, A = some ad ∧ (ad.add (j * 8)).block < B ∧ w.cell? (ad.add (j * 8)) = some (.int .i64 l[j].id) ∧ w.cell? ⟨(ad.add (j * 8)).block, (ad.add (j * 8)).off + 1, none⟩ = some (.int .i64 l[j].x0) ∧ w.cell? ⟨(ad.add (j * 8)).block, (ad.add (j * 8)).off + 2, none⟩ = some (.int .i64 l[j].z0) ∧ w.cell? ⟨(ad.add (j * 8)).block, (ad.add (j * 8)).off + 3, none⟩ = some (.int .i64 l[j].x1) ∧ w.cell? ⟨(ad.add (j * 8)).block, (ad.add (j * 8)).off + 4, none⟩ = some (.int .i64 l[j].z1) ∧ w.cell? ⟨(ad.add (j * 8)).block, (ad.add (j * 8)).off + 5, none⟩ = some (.int .i64 l[j].y0) ∧ w.cell? ⟨(ad.add (j * 8)).block, (ad.add (j * 8)).off + 6, none⟩ = some (.int .i64 l[j].y1) ∧ w.cell? ⟨(ad.add (j * 8)).block, (ad.add (j * 8)).off + 7, none⟩ = some (.int .i64 l[j].ar) := by
  obtain ⟨ad, e, hb, hc⟩ := fl_at B8.len h hn hj
  exact ⟨ad, e, by rw [block_of_add]; exact hb, hc 0 _ (by decide) rfl, by have := hc 1 _ (by decide) rfl; rw [← add_of_add] at this; exact this, by have := hc 2 _ (by decide) rfl; rw [← add_of_add] at this; exact this, by have := hc 3 _ (by decide) rfl; rw [← add_of_add] at this; exact this, by have := hc 4 _ (by decide) rfl; rw [← add_of_add] at this; exact this, by have := hc 5 _ (by decide) rfl; rw [← add_of_add] at this; exact this, by have := hc 6 _ (by decide) rfl; rw [← add_of_add] at this; exact this, by have := hc 7 _ (by decide) rfl; rw [← add_of_add] at this; exact this⟩
set_option maxHeartbeats 4000000 in
set_option maxRecDepth 100000 in
theorem oneBox_any (p : B8 → Bool) (a : Value) (most bad : Int) (t : B8) (w : World) (hp : MayAt 54 #[a] B8.v p w) :
    Calls Try.prog 70 #[listv 53 54 #[a] most bad, t.v] w fun en w' => en = .returned (.bool (oneF B8.id p t)) ∧ Below w.heap.size w w' := by
  obtain ⟨u1, eu1, bu1, ku1⟩ := alloc_step w (.cells #[.func (.func 53) #[] #[], .func (.func 54) #[] #[a], .int .i64 most, .int .i64 bad] 70)
  obtain ⟨id, x0, z0, x1, z1, y0, y1, ar⟩ := t
  obtain ⟨u2, eu2, bu2, ku2⟩ := alloc_step u1 (.cells #[.int .i64 id, .int .i64 x0, .int .i64 z0, .int .i64 x1, .int .i64 z1, .int .i64 y0, .int .i64 y1, .int .i64 ar] 64)
  have hb2 : Below w.heap.size w u2 := bu1.trans (bu2.mono bu1.size)
  have ku1' := (bu2.block _ (lt_of_block ku1)).trans ku1
  obtain ⟨l0, l1, l2, l3⟩ := box4 ku1'
  obtain ⟨c0, c1, c2, c3, c4, c5, c6, c7⟩ := box8 ku2
  have hid := fun w => idBox_any ⟨id, x0, z0, x1, z1, y0, y1, ar⟩ w
  have hpp : ∀ W, Below w.heap.size w W → Calls Try.prog 54 #[.agg #[.int .i64 id, .int .i64 x0, .int .i64 z0, .int .i64 x1, .int .i64 z1, .int .i64 y0, .int .i64 y1, .int .i64 ar], a] W fun en w' => en = .returned (.bool (p ⟨id, x0, z0, x1, z1, y0, y1, ar⟩)) ∧ Below W.heap.size W w' := fun W h => hp W ⟨id, x0, z0, x1, z1, y0, y1, ar⟩ h
  unfold B8.v at hid
  unfold listv B8.v
  clear hp
  refine (callsIn_wide (n := 6)).1 ?_
  refine callsIn_of_wp Try.func70 rfl trivial ?_
  simp only [Try.ntmps70, List.size_toArray, List.length_cons, List.length_nil, Nat.reduceAdd, Nat.reduceSub, Array.replicate_succ, Array.replicate_zero, List.push_toArray, List.append_toArray, List.nil_append, List.cons_append]
  gi_wp2
  refine ⟨trivial, (callsIn_wide.2 (hid _)).mono ?_⟩
  rintro en w3 ⟨rfl, hb3⟩
  have hbw3 := hb2.trans (hb3.mono hb2.size)
  clear l0 l1 l2 l3 c0 c1 c2 c3 c4 c5 c6 c7
  have m1 := (hb3.block _ (lt_of_block ku1')).trans ku1'
  have m2 := (hb3.block _ (lt_of_block ku2)).trans ku2
  obtain ⟨l0, l1, l2, l3⟩ := box4 m1
  obtain ⟨c0, c1, c2, c3, c4, c5, c6, c7⟩ := box8 m2
  by_cases h1 : id < 1
  · have ho : Hid (oneF B8.id p ⟨id, x0, z0, x1, z1, y0, y1, ar⟩ = false) := Lib.hid (one_no1 h1)
    gi_wp2_with (refine wpListIn_off rfl ?_)
    go_ret
    exact ⟨by rw [ho.out]; rfl, hbw3⟩
  · have h1' : 1 ≤ id := by omega
    clear h1
    gi_wp2
    refine ⟨trivial, (callsIn_wide.2 (hid _)).mono ?_⟩
    rintro en w4 ⟨rfl, hb4⟩
    have hbw4 := hbw3.trans (hb4.mono hbw3.size)
    clear l0 l1 l2 l3 c0 c1 c2 c3 c4 c5 c6 c7
    have n1 := (hb4.block _ (lt_of_block m1)).trans m1
    have n2 := (hb4.block _ (lt_of_block m2)).trans m2
    obtain ⟨l0, l1, l2, l3⟩ := box4 n1
    obtain ⟨c0, c1, c2, c3, c4, c5, c6, c7⟩ := box8 n2
    by_cases h2 : 1073741824 < id
    · have ho : Hid (oneF B8.id p ⟨id, x0, z0, x1, z1, y0, y1, ar⟩ = false) := Lib.hid (one_no2 h2)
      have h2' : ¬ id ≤ 1073741824 := by omega
      gi_wp2_with (refine wpListIn_off rfl ?_)
      go_ret
      exact ⟨by rw [ho.out]; rfl, hbw4⟩
    · have h2' : id ≤ 1073741824 := by omega
      have ho : Hid (oneF B8.id p ⟨id, x0, z0, x1, z1, y0, y1, ar⟩ = p ⟨id, x0, z0, x1, z1, y0, y1, ar⟩) := Lib.hid (one_yes h1' h2')
      clear h2
      gi_wp2
      refine ⟨trivial, (callsIn_wide.2 (hpp _ hbw4)).mono ?_⟩
      rintro en w5 ⟨rfl, hb5⟩
      gi_wp2
      go_ret
      exact ⟨by rw [ho.out]; rfl, hbw4.trans (hb5.mono hbw4.size)⟩
/-- The thing in a place. -/
theorem H10.at_ {w : World} {B n : Nat} {A : Option Addr} {l : List H10} (h : Reads w B 10 A n (fl H10.cs l)) (hn : n = l.length) {j : Nat} (hj : j < l.length) :
    ∃ ad, A = some ad ∧ (ad.add (j * 10)).block < B ∧ w.cell? (ad.add (j * 10)) = some (.int .i64 l[j].id) ∧ w.cell? ⟨(ad.add (j * 10)).block, (ad.add (j * 10)).off + 1, none⟩ = some (.int .i64 l[j].fx) ∧ w.cell? ⟨(ad.add (j * 10)).block, (ad.add (j * 10)).off + 2, none⟩ = some (.int .i64 l[j].fz) ∧ w.cell? ⟨(ad.add (j * 10)).block, (ad.add (j * 10)).off + 3, none⟩ = some (.int .i64 l[j].fy) ∧ w.cell? ⟨(ad.add (j * 10)).block, (ad.add (j * 10)).off + 4, none⟩ = some (.int .i64 l[j].tx) ∧ w.cell? ⟨(ad.add (j * 10)).block, (ad.add (j * 10)).off + 5, none⟩ = some (.int .i64 l[j].tz) ∧ w.cell? ⟨(ad.add (j * 10)).block, (ad.add (j * 10)).off + 6, none⟩ = some (.int .i64 l[j].ty) ∧ w.cell? ⟨(ad.add (j * 10)).block, (ad.add (j * 10)).off + 7, none⟩ = some (.bool l[j].both) ∧ w.cell? ⟨(ad.add (j * 10)).block, (ad.add (j * 10)).off + 8, none⟩ = some (.int .i64 l[j].ar) ∧ w.cell? ⟨(ad.add (j * 10)).block, (ad.add (j * 10)).off + 9, none⟩ = some (.int .i64 l[j].co) := by
  obtain ⟨ad, e, hb, hc⟩ := fl_at H10.len h hn hj
  exact ⟨ad, e, by rw [block_of_add]; exact hb, hc 0 _ (by decide) rfl, by have := hc 1 _ (by decide) rfl; rw [← add_of_add] at this; exact this, by have := hc 2 _ (by decide) rfl; rw [← add_of_add] at this; exact this, by have := hc 3 _ (by decide) rfl; rw [← add_of_add] at this; exact this, by have := hc 4 _ (by decide) rfl; rw [← add_of_add] at this; exact this, by have := hc 5 _ (by decide) rfl; rw [← add_of_add] at this; exact this, by have := hc 6 _ (by decide) rfl; rw [← add_of_add] at this; exact this, by have := hc 7 _ (by decide) rfl; rw [← add_of_add] at this; exact this, by have := hc 8 _ (by decide) rfl; rw [← add_of_add] at this; exact this, by have := hc 9 _ (by decide) rfl; rw [← add_of_add] at this; exact this⟩
set_option maxHeartbeats 4000000 in
set_option maxRecDepth 100000 in
theorem oneHop_any (p : H10 → Bool) (a : Value) (most bad : Int) (t : H10) (w : World) (hp : MayAt 65 #[a] H10.v p w) :
    Calls Try.prog 71 #[listv 64 65 #[a] most bad, t.v] w fun en w' => en = .returned (.bool (oneF H10.id p t)) ∧ Below w.heap.size w w' := by
  obtain ⟨u1, eu1, bu1, ku1⟩ := alloc_step w (.cells #[.func (.func 64) #[] #[], .func (.func 65) #[] #[a], .int .i64 most, .int .i64 bad] 84)
  obtain ⟨id, fx, fz, fy, tx, tz, ty, both, ar, co⟩ := t
  obtain ⟨u2, eu2, bu2, ku2⟩ := alloc_step u1 (.cells #[.int .i64 id, .int .i64 fx, .int .i64 fz, .int .i64 fy, .int .i64 tx, .int .i64 tz, .int .i64 ty, .bool both, .int .i64 ar, .int .i64 co] 78)
  have hb2 : Below w.heap.size w u2 := bu1.trans (bu2.mono bu1.size)
  have ku1' := (bu2.block _ (lt_of_block ku1)).trans ku1
  obtain ⟨l0, l1, l2, l3⟩ := box4 ku1'
  obtain ⟨c0, c1, c2, c3, c4, c5, c6, c7, c8, c9⟩ := box10 ku2
  have hid := fun w => idHop_any ⟨id, fx, fz, fy, tx, tz, ty, both, ar, co⟩ w
  have hpp : ∀ W, Below w.heap.size w W → Calls Try.prog 65 #[.agg #[.int .i64 id, .int .i64 fx, .int .i64 fz, .int .i64 fy, .int .i64 tx, .int .i64 tz, .int .i64 ty, .bool both, .int .i64 ar, .int .i64 co], a] W fun en w' => en = .returned (.bool (p ⟨id, fx, fz, fy, tx, tz, ty, both, ar, co⟩)) ∧ Below W.heap.size W w' := fun W h => hp W ⟨id, fx, fz, fy, tx, tz, ty, both, ar, co⟩ h
  unfold H10.v at hid
  unfold listv H10.v
  clear hp
  refine (callsIn_wide (n := 6)).1 ?_
  refine callsIn_of_wp Try.func71 rfl trivial ?_
  simp only [Try.ntmps71, List.size_toArray, List.length_cons, List.length_nil, Nat.reduceAdd, Nat.reduceSub, Array.replicate_succ, Array.replicate_zero, List.push_toArray, List.append_toArray, List.nil_append, List.cons_append]
  gi_wp2
  refine ⟨trivial, (callsIn_wide.2 (hid _)).mono ?_⟩
  rintro en w3 ⟨rfl, hb3⟩
  have hbw3 := hb2.trans (hb3.mono hb2.size)
  clear l0 l1 l2 l3 c0 c1 c2 c3 c4 c5 c6 c7 c8 c9
  have m1 := (hb3.block _ (lt_of_block ku1')).trans ku1'
  have m2 := (hb3.block _ (lt_of_block ku2)).trans ku2
  obtain ⟨l0, l1, l2, l3⟩ := box4 m1
  obtain ⟨c0, c1, c2, c3, c4, c5, c6, c7, c8, c9⟩ := box10 m2
  by_cases h1 : id < 1
  · have ho : Hid (oneF H10.id p ⟨id, fx, fz, fy, tx, tz, ty, both, ar, co⟩ = false) := Lib.hid (one_no1 h1)
    gi_wp2_with (refine wpListIn_off rfl ?_)
    go_ret
    exact ⟨by rw [ho.out]; rfl, hbw3⟩
  · have h1' : 1 ≤ id := by omega
    clear h1
    gi_wp2
    refine ⟨trivial, (callsIn_wide.2 (hid _)).mono ?_⟩
    rintro en w4 ⟨rfl, hb4⟩
    have hbw4 := hbw3.trans (hb4.mono hbw3.size)
    clear l0 l1 l2 l3 c0 c1 c2 c3 c4 c5 c6 c7 c8 c9
    have n1 := (hb4.block _ (lt_of_block m1)).trans m1
    have n2 := (hb4.block _ (lt_of_block m2)).trans m2
    obtain ⟨l0, l1, l2, l3⟩ := box4 n1
    obtain ⟨c0, c1, c2, c3, c4, c5, c6, c7, c8, c9⟩ := box10 n2
    by_cases h2 : 1073741824 < id
    · have ho : Hid (oneF H10.id p ⟨id, fx, fz, fy, tx, tz, ty, both, ar, co⟩ = false) := Lib.hid (one_no2 h2)
      have h2' : ¬ id ≤ 1073741824 := by omega
      gi_wp2_with (refine wpListIn_off rfl ?_)
      go_ret
      exact ⟨by rw [ho.out]; rfl, hbw4⟩
    · have h2' : id ≤ 1073741824 := by omega
      have ho : Hid (oneF H10.id p ⟨id, fx, fz, fy, tx, tz, ty, both, ar, co⟩ = p ⟨id, fx, fz, fy, tx, tz, ty, both, ar, co⟩) := Lib.hid (one_yes h1' h2')
      clear h2
      gi_wp2
      refine ⟨trivial, (callsIn_wide.2 (hpp _ hbw4)).mono ?_⟩
      rintro en w5 ⟨rfl, hb5⟩
      gi_wp2
      go_ret
      exact ⟨by rw [ho.out]; rfl, hbw4.trans (hb5.mono hbw4.size)⟩
end Go.Proofs.Ytpbpbijjkmjjjaa
