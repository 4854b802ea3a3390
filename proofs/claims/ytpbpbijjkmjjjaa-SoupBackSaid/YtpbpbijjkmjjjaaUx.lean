/- soup.Tri, soup.Drop by walks. No conditions but that things lie where they are said to lie. -/
import Derived.Test.YtpbpbijjkmjjjaaUw
set_option linter.unusedSimpArgs false
set_option linter.unusedVariables false
namespace Go.Proofs.Ytpbpbijjkmjjjaa
open Go Go.RowKit Go.Sx
attribute [local go_sem] Oper.semAt_some
theorem T10.v_inj {t u : T10} (h : t.v = u.v) : t = u := by
  obtain ⟨_, _, _, _, _, _, _, _, _, _⟩ := t
  obtain ⟨_, _, _, _, _, _, _, _, _, _⟩ := u
  simpa [T10.v] using h
set_option maxHeartbeats 4000000 in
set_option maxRecDepth 100000 in
theorem stri_any (s : Soup) (i : Int) (A1 A2 A3 : Option Addr) (c1 c2 c3 : Nat) (w : World) (hs : SoupAt w w.heap.size A1 A2 A3 s) (hl : s.lens) :
    Calls Try.prog 8 #[soupv A1 A2 A3 c1 c2 c3 s, .int .i64 i] w fun en w' =>
      (((∀ x ∈ s.ts, x.id ≠ i) ∧ ∃ t : T10, en = .returned (.tuple #[t.v, .bool false])) ∨
        ∃ (k : Nat) (hk : k < s.ts.length), s.ts[k].id = i ∧ (∀ m (hm : m < s.ts.length), m < k → s.ts[m].id ≠ i) ∧ en = .returned (.tuple #[s.ts[k].v, .bool true])) ∧ Below w.heap.size w w' := by
  obtain ⟨u1, eu1, bu1, ku1⟩ := alloc_step w (.cells #[.slice A1 s.ts.length c1, .slice A2 s.bs.length c2, .slice A3 s.hs.length c3] 28)
  obtain ⟨u2, eu2, bu2, ku2⟩ := alloc_step u1 (.cells #[.int .i64 0, .int .i64 0, .int .i64 0, .int .i64 0, .int .i64 0, .int .i64 0, .int .i64 0, .int .i64 0, .int .i64 0, .int .i64 0] 33)
  have hb2 := bu1.trans (bu2.mono bu1.size)
  have ku1' := (bu2.block _ (lt_of_block ku1)).trans ku1
  obtain ⟨s0, s1, s2⟩ := box3 ku1'
  have z1 := lt_of_block ku1'
  obtain ⟨iT, hiT, hzT0, hzT1, hzT2⟩ := info_parts infoTri
  have hfi := fun (a b : Value) (W : World) (h : Below w.heap.size w W) => first_any 42 #[a, b] 200 40 i s.ts A1 c1 W ((hs.t.below h).more h.size) hl.1
  unfold listv at hfi
  unfold soupv
  refine (callsIn_wide (n := 6)).1 ?_
  refine callsIn_of_wp Try.func8 rfl trivial ?_
  simp only [Try.ntmps8, List.size_toArray, List.length_cons, List.length_nil, Nat.reduceAdd, Nat.reduceSub, Array.replicate_succ, Array.replicate_zero, List.push_toArray, List.append_toArray, List.nil_append, List.cons_append]
  gi_wp2
  have hS : (CellsL [(⟨w.heap.size, 0, none⟩, .slice A1 s.ts.length c1)]) (u2.drew) := ⟨s0, trivial⟩
  refine wpIn_region_ord [(1, true), (2, true), (3, true), (0, false), (4, false), (5, true), (6, true), (7, false)] (CellsL [(⟨w.heap.size, 0, none⟩, .slice A1 s.ts.length c1)]) (fun _ => trivial) rfl (by first | exact then_put rfl | (intro c d v a w h; cases d <;> exact h)) (by kernel_rfl) ?_
  simp only [List.length_cons, List.length_nil, Nat.reduceAdd, List.drop_succ_cons, List.drop_zero]
  iterate 3 (apply wpOrd_quiet rfl hS rfl; (intro w' hw'; obtain ⟨q0, _⟩ := hw'; go_simp; exact rfl); go_simp)
  refine wpOrd_move rfl rfl ?_
  go_simp
  refine ⟨trivial, (callsIn_wide.2 (tris_any 0 0 _)).mono ?_⟩
  rintro en w3 ⟨⟨xa, xb, rfl, hma⟩, hd3⟩
  have hb3 : Below u2.heap.size u2 w3 := ⟨hd3.os, hd3.tape, hd3.output, hd3.size, hd3.block⟩
  have hbw3 := hb2.trans (hb3.mono hb2.size)
  replace hS := CellsL.keep hd3 hS ⟨z1, trivial⟩
  have z3 := Nat.lt_of_lt_of_le z1 hb3.size
  unfold listv
  refine ⟨hS, ?_⟩
  go_simp
  refine wpOrd_move rfl rfl ?_
  go_simp
  refine ⟨trivial, (callsIn_wide.2 (hfi xa xb w3 hbw3)).mono ?_⟩
  rintro en w4 ⟨hout, hb4⟩
  have hbw4 := hbw3.trans (hb4.mono hbw3.size)
  replace hS := CellsL.keep hb4 hS ⟨z3, trivial⟩
  have m2 := (hb4.block _ (Nat.lt_of_lt_of_le (lt_of_block ku2) hb3.size)).trans ((hb3.block _ (lt_of_block ku2)).trans ku2)
  obtain ⟨t, bo, rfl, hO⟩ : ∃ (t : T10) (bo : Bool), en = .returned (.tuple #[t.v, .bool bo]) ∧ (((∀ x ∈ s.ts, x.id ≠ i) ∧ bo = false) ∨ ∃ (k : Nat) (hk : k < s.ts.length), s.ts[k].id = i ∧ (∀ m (hm : m < s.ts.length), m < k → s.ts[m].id ≠ i) ∧ t = s.ts[k] ∧ bo = true) := by
    rcases hout with ⟨h1, t, rfl⟩ | ⟨k, hk, h1, h2, rfl⟩
    · exact ⟨t, false, rfl, .inl ⟨h1, rfl⟩⟩
    · exact ⟨_, true, rfl, .inr ⟨k, hk, h1, h2, rfl, rfl⟩⟩
  replace hO := Lib.hid hO
  unfold T10.v
  refine ⟨hS, ?_⟩
  go_simp
  iterate 2 (apply wpOrd_quiet rfl hS rfl; (intro w' hw'; obtain ⟨q0, _⟩ := hw'; go_simp; exact rfl); go_simp)
  refine wpOrd_move rfl rfl ?_
  refine wpIn_store_boxg (.tmp 4) (.tmp 11) rfl hiT rfl rfl [.int .i64 t.id, .int .i64 t.x0, .int .i64 t.y0, .int .i64 t.z0, .int .i64 t.x1, .int .i64 t.y1, .int .i64 t.z1, .int .i64 t.x2, .int .i64 t.y2, .int .i64 t.z2] rfl hzT1.symm (by simp [Value.oneCell']) m2 rfl ?_
  intro w6 hkm hgs
  replace hS : CellsL [(⟨w.heap.size, 0, none⟩, .slice A1 s.ts.length c1)] w6 := ⟨(World.cell?_of_block (hgs.block w.heap.size (Nat.lt_of_lt_of_le z3 hb4.size) (by have := lt_of_block ku1; intro e; injection e with e; omega))).trans hS.1, trivial⟩
  refine ⟨hS, ?_⟩
  go_simp
  refine wpOrd_nil ?_
  clear hS
  gi_wp2
  refine bodyPost_ret (results_tri2 rfl _ _ u1.heap.size _ _ _ _ _ _ _ _ _ _ rfl hkm) rfl ?_
  refine ⟨?_, below_own hbw4 hbw4.size hgs bu1.size⟩
  rcases hO.out with ⟨h1, rfl⟩ | ⟨k, hk, h1, h2, rfl, rfl⟩
  · exact .inl ⟨h1, t, rfl⟩
  · exact .inr ⟨k, hk, h1, h2, rfl⟩
/-- What a row is without the first thing of an id. -/
def dropR1 {α : Type} (id : α → Int) (i : Int) (r l' : List α) : Prop := ∃ (k : Nat) (hk : k < r.length), id r[k] = i ∧ (∀ m (hm : m < r.length), m < k → id r[m] ≠ i) ∧ l' = r.take k ++ r.drop (k + 1)
def dropR0 {α : Type} (id : α → Int) (i : Int) (r : List α) (e : Int) : Prop := e = 4 ∧ ∀ x ∈ r, id x ≠ i
theorem drop_len {α : Type} {r : List α} {k : Nat} (hk : k < r.length) : (r.take k ++ r.drop (k + 1)).length = r.length - 1 := by simp; omega
set_option maxHeartbeats 4000000 in
set_option maxRecDepth 100000 in
theorem dropcTri_any (i : Int) (r : List T10) (A : Option Addr) (cap P : Nat) (w : World) (hP : w.cell? ⟨P, 0, none⟩ = some (.int .i64 i)) (z2 : P < w.heap.size)
    (hr : Reads w w.heap.size 10 A r.length (fl T10.cs r)) (hl : r.length ≤ 1000) :
    Calls Try.prog 22 #[.slice A r.length cap, .pointer (some ⟨P, 0, none⟩)] w fun en w' => Out 10 T10.cs (dropR0 T10.id i r) (dropR1 T10.id i r) en w' ∧ Below w.heap.size w w' := by
  have had := fun (x y : Value) (W : World) (h : Below w.heap.size w W) => dropTri_any 42 #[x, y] 200 40 i r A cap W ((hr.below h).more h.size) hl
  unfold listv at had
  refine (callsIn_wide (n := 6)).1 ?_
  refine callsIn_of_wp Try.func22 rfl trivial ?_
  simp only [Try.ntmps22, List.size_toArray, List.length_cons, List.length_nil, Nat.reduceAdd, Nat.reduceSub, Array.replicate_succ, Array.replicate_zero, List.push_toArray, List.append_toArray, List.nil_append, List.cons_append]
  gi_wp2
  have hS : (CellsL [(⟨P, 0, none⟩, .int .i64 i)]) (w.drew) := ⟨hP, trivial⟩
  refine wpIn_region_ord [(1, true), (2, true), (0, false), (3, false), (4, true), (5, true), (6, true)] (CellsL [(⟨P, 0, none⟩, .int .i64 i)]) (fun _ => trivial) rfl (by first | exact then_put rfl | (intro c d v a w h; cases d <;> exact h)) (by kernel_rfl) ?_
  simp only [List.length_cons, List.length_nil, Nat.reduceAdd, List.drop_succ_cons, List.drop_zero]
  iterate 2 (apply wpOrd_quiet rfl hS rfl; (intro w' hw'; obtain ⟨q0, _⟩ := hw'; go_simp; exact rfl); go_simp)
  refine wpOrd_move rfl rfl ?_
  go_simp
  refine ⟨trivial, (callsIn_wide.2 (tris_any 0 0 _)).mono ?_⟩
  rintro en w4 ⟨⟨xa, xb, rfl, hma⟩, hd4⟩
  have hb4 : Below w.heap.size w w4 := ⟨hd4.os, hd4.tape, hd4.output, hd4.size, hd4.block⟩
  replace hS := CellsL.keep hd4 hS ⟨z2, trivial⟩
  unfold listv
  refine ⟨hS, ?_⟩
  go_simp
  refine wpOrd_move rfl rfl ?_
  go_simp
  refine ⟨trivial, (callsIn_wide.2 (had xa xb w4 hb4)).mono ?_⟩
  rintro en w5 ⟨hout, hb5⟩
  replace hS := CellsL.keep hb5 hS ⟨Nat.lt_of_lt_of_le z2 hb4.size, trivial⟩
  obtain ⟨vv, ve, rfl, hO⟩ : ∃ vv ve, en = .returned (.tuple #[vv, ve]) ∧ Out 10 T10.cs (dropR0 T10.id i r) (dropR1 T10.id i r) (.returned (.tuple #[vv, ve])) w5 := by
    rcases hout with ⟨h1, rfl⟩ | ⟨k, hk, h1, h2, A', c', rfl, hr5⟩
    · exact ⟨_, _, rfl, .inl ⟨4, by decide, ⟨rfl, h1⟩, rfl⟩⟩
    · exact ⟨_, _, rfl, .inr ⟨_, A', c', ⟨k, hk, h1, h2, rfl⟩, by rw [drop_len hk], by rw [drop_len hk]; exact hr5⟩⟩
  replace hO := Lib.hid hO
  refine ⟨hS, ?_⟩
  go_simp
  iterate 3 (apply wpOrd_quiet rfl hS rfl; (intro w' hw'; obtain ⟨q0, _⟩ := hw'; go_simp; exact rfl); go_simp)
  refine wpOrd_nil ?_
  clear hS
  gi_wp2
  go_ret2
  exact ⟨hO.out, hb4.trans (hb5.mono hb4.size)⟩
set_option maxHeartbeats 4000000 in
set_option maxRecDepth 100000 in
theorem dropcBox_any (i : Int) (r : List B8) (A : Option Addr) (cap C P : Nat) (w : World) (hC : w.heap[C]? = some (.cells #[.int .i64 0, .int .i64 0, .int .i64 0, .int .i64 0, .int .i64 0, .int .i64 0, .int .i64 0] 23 (0, 0))) (hP : w.cell? ⟨P, 0, none⟩ = some (.int .i64 i)) (z2 : P < w.heap.size)
    (hr : Reads w w.heap.size 8 A r.length (fl B8.cs r)) (hl : r.length ≤ 1000) :
    Calls Try.prog 26 #[.slice A r.length cap, .pointer (some ⟨C, 0, none⟩), .pointer (some ⟨P, 0, none⟩)] w fun en w' => Out 8 B8.cs (dropR0 B8.id i r) (dropR1 B8.id i r) en w' ∧ Below w.heap.size w w' := by
  have had := fun (x : Value) (W : World) (h : Below w.heap.size w W) => dropBox_any 54 #[x] 16 2 i r A cap W ((hr.below h).more h.size) hl
  unfold listv at had
  obtain ⟨q0, q1, q2, q3, q4, q5, q6⟩ := box7 hC
  have z1 := lt_of_block hC
  refine (callsIn_wide (n := 6)).1 ?_
  refine callsIn_of_wp Try.func26 rfl trivial ?_
  simp only [Try.ntmps26, List.size_toArray, List.length_cons, List.length_nil, Nat.reduceAdd, Nat.reduceSub, Array.replicate_succ, Array.replicate_zero, List.push_toArray, List.append_toArray, List.nil_append, List.cons_append]
  gi_wp2
  have hS : (CellsL [(⟨C, 0, none⟩, .int .i64 0), (⟨C, 1, none⟩, .int .i64 0), (⟨C, 2, none⟩, .int .i64 0), (⟨C, 3, none⟩, .int .i64 0), (⟨C, 4, none⟩, .int .i64 0), (⟨C, 5, none⟩, .int .i64 0), (⟨C, 6, none⟩, .int .i64 0), (⟨P, 0, none⟩, .int .i64 i)]) (w.drew) := ⟨q0, q1, q2, q3, q4, q5, q6, hP, trivial⟩
  refine wpIn_region_ord [(0, true), (2, true), (3, true), (1, false), (4, false), (5, true), (6, true), (7, true)] (CellsL [(⟨C, 0, none⟩, .int .i64 0), (⟨C, 1, none⟩, .int .i64 0), (⟨C, 2, none⟩, .int .i64 0), (⟨C, 3, none⟩, .int .i64 0), (⟨C, 4, none⟩, .int .i64 0), (⟨C, 5, none⟩, .int .i64 0), (⟨C, 6, none⟩, .int .i64 0), (⟨P, 0, none⟩, .int .i64 i)]) (fun _ => trivial) rfl (by first | exact then_put rfl | (intro c d v a w h; cases d <;> exact h)) (by kernel_rfl) ?_
  simp only [List.length_cons, List.length_nil, Nat.reduceAdd, List.drop_succ_cons, List.drop_zero]
  iterate 3 (apply wpOrd_quiet rfl hS rfl; (intro w' hw'; obtain ⟨q0, q1, q2, q3, q4, q5, q6, q7, _⟩ := hw'; go_simp; exact rfl); go_simp)
  refine wpOrd_move rfl rfl ?_
  go_simp
  refine ⟨trivial, (callsIn_wide.2 (boxes_any 0 0 0 0 0 0 0 _)).mono ?_⟩
  rintro en w4 ⟨⟨xa, rfl, hma⟩, hd4⟩
  have hb4 : Below w.heap.size w w4 := ⟨hd4.os, hd4.tape, hd4.output, hd4.size, hd4.block⟩
  replace hS := CellsL.keep hd4 hS ⟨z1, z1, z1, z1, z1, z1, z1, z2, trivial⟩
  unfold listv
  refine ⟨hS, ?_⟩
  go_simp
  refine wpOrd_move rfl rfl ?_
  go_simp
  refine ⟨trivial, (callsIn_wide.2 (had xa w4 hb4)).mono ?_⟩
  rintro en w5 ⟨hout, hb5⟩
  have y1 := Nat.lt_of_lt_of_le z1 hb4.size
  replace hS := CellsL.keep hb5 hS ⟨y1, y1, y1, y1, y1, y1, y1, Nat.lt_of_lt_of_le z2 hb4.size, trivial⟩
  obtain ⟨vv, ve, rfl, hO⟩ : ∃ vv ve, en = .returned (.tuple #[vv, ve]) ∧ Out 8 B8.cs (dropR0 B8.id i r) (dropR1 B8.id i r) (.returned (.tuple #[vv, ve])) w5 := by
    rcases hout with ⟨h1, rfl⟩ | ⟨k, hk, h1, h2, A', c', rfl, hr5⟩
    · exact ⟨_, _, rfl, .inl ⟨4, by decide, ⟨rfl, h1⟩, rfl⟩⟩
    · exact ⟨_, _, rfl, .inr ⟨_, A', c', ⟨k, hk, h1, h2, rfl⟩, by rw [drop_len hk], by rw [drop_len hk]; exact hr5⟩⟩
  replace hO := Lib.hid hO
  refine ⟨hS, ?_⟩
  go_simp
  iterate 3 (apply wpOrd_quiet rfl hS rfl; (intro w' hw'; obtain ⟨q0, q1, q2, q3, q4, q5, q6, q7, _⟩ := hw'; go_simp; exact rfl); go_simp)
  refine wpOrd_nil ?_
  clear hS
  gi_wp2
  go_ret2
  exact ⟨hO.out, hb4.trans (hb5.mono hb4.size)⟩
set_option maxHeartbeats 4000000 in
set_option maxRecDepth 100000 in
theorem dropcHop_any (i : Int) (r : List H10) (A : Option Addr) (cap C P : Nat) (w : World) (hC : w.heap[C]? = some (.cells #[.int .i64 0, .int .i64 0, .int .i64 0, .int .i64 0, .int .i64 0, .int .i64 0, .int .i64 0] 23 (0, 0))) (hP : w.cell? ⟨P, 0, none⟩ = some (.int .i64 i)) (z2 : P < w.heap.size)
    (hr : Reads w w.heap.size 10 A r.length (fl H10.cs r)) (hl : r.length ≤ 1000) :
    Calls Try.prog 31 #[.slice A r.length cap, .pointer (some ⟨C, 0, none⟩), .pointer (some ⟨P, 0, none⟩)] w fun en w' => Out 10 H10.cs (dropR0 H10.id i r) (dropR1 H10.id i r) en w' ∧ Below w.heap.size w w' := by
  have had := fun (x : Value) (W : World) (h : Below w.heap.size w W) => dropHop_any 65 #[x] 16 2 i r A cap W ((hr.below h).more h.size) hl
  unfold listv at had
  obtain ⟨q0, q1, q2, q3, q4, q5, q6⟩ := box7 hC
  have z1 := lt_of_block hC
  refine (callsIn_wide (n := 6)).1 ?_
  refine callsIn_of_wp Try.func31 rfl trivial ?_
  simp only [Try.ntmps31, List.size_toArray, List.length_cons, List.length_nil, Nat.reduceAdd, Nat.reduceSub, Array.replicate_succ, Array.replicate_zero, List.push_toArray, List.append_toArray, List.nil_append, List.cons_append]
  gi_wp2
  have hS : (CellsL [(⟨C, 0, none⟩, .int .i64 0), (⟨C, 1, none⟩, .int .i64 0), (⟨C, 2, none⟩, .int .i64 0), (⟨C, 3, none⟩, .int .i64 0), (⟨C, 4, none⟩, .int .i64 0), (⟨C, 5, none⟩, .int .i64 0), (⟨C, 6, none⟩, .int .i64 0), (⟨P, 0, none⟩, .int .i64 i)]) (w.drew) := ⟨q0, q1, q2, q3, q4, q5, q6, hP, trivial⟩
  refine wpIn_region_ord [(0, true), (2, true), (3, true), (1, false), (4, false), (5, true), (6, true), (7, true)] (CellsL [(⟨C, 0, none⟩, .int .i64 0), (⟨C, 1, none⟩, .int .i64 0), (⟨C, 2, none⟩, .int .i64 0), (⟨C, 3, none⟩, .int .i64 0), (⟨C, 4, none⟩, .int .i64 0), (⟨C, 5, none⟩, .int .i64 0), (⟨C, 6, none⟩, .int .i64 0), (⟨P, 0, none⟩, .int .i64 i)]) (fun _ => trivial) rfl (by first | exact then_put rfl | (intro c d v a w h; cases d <;> exact h)) (by kernel_rfl) ?_
  simp only [List.length_cons, List.length_nil, Nat.reduceAdd, List.drop_succ_cons, List.drop_zero]
  iterate 3 (apply wpOrd_quiet rfl hS rfl; (intro w' hw'; obtain ⟨q0, q1, q2, q3, q4, q5, q6, q7, _⟩ := hw'; go_simp; exact rfl); go_simp)
  refine wpOrd_move rfl rfl ?_
  go_simp
  refine ⟨trivial, (callsIn_wide.2 (hops_any 0 0 0 0 0 0 0 _)).mono ?_⟩
  rintro en w4 ⟨⟨xa, rfl, hma⟩, hd4⟩
  have hb4 : Below w.heap.size w w4 := ⟨hd4.os, hd4.tape, hd4.output, hd4.size, hd4.block⟩
  replace hS := CellsL.keep hd4 hS ⟨z1, z1, z1, z1, z1, z1, z1, z2, trivial⟩
  unfold listv
  refine ⟨hS, ?_⟩
  go_simp
  refine wpOrd_move rfl rfl ?_
  go_simp
  refine ⟨trivial, (callsIn_wide.2 (had xa w4 hb4)).mono ?_⟩
  rintro en w5 ⟨hout, hb5⟩
  have y1 := Nat.lt_of_lt_of_le z1 hb4.size
  replace hS := CellsL.keep hb5 hS ⟨y1, y1, y1, y1, y1, y1, y1, Nat.lt_of_lt_of_le z2 hb4.size, trivial⟩
  obtain ⟨vv, ve, rfl, hO⟩ : ∃ vv ve, en = .returned (.tuple #[vv, ve]) ∧ Out 10 H10.cs (dropR0 H10.id i r) (dropR1 H10.id i r) (.returned (.tuple #[vv, ve])) w5 := by
    rcases hout with ⟨h1, rfl⟩ | ⟨k, hk, h1, h2, A', c', rfl, hr5⟩
    · exact ⟨_, _, rfl, .inl ⟨4, by decide, ⟨rfl, h1⟩, rfl⟩⟩
    · exact ⟨_, _, rfl, .inr ⟨_, A', c', ⟨k, hk, h1, h2, rfl⟩, by rw [drop_len hk], by rw [drop_len hk]; exact hr5⟩⟩
  replace hO := Lib.hid hO
  refine ⟨hS, ?_⟩
  go_simp
  iterate 3 (apply wpOrd_quiet rfl hS rfl; (intro w' hw'; obtain ⟨q0, q1, q2, q3, q4, q5, q6, q7, _⟩ := hw'; go_simp; exact rfl); go_simp)
  refine wpOrd_nil ?_
  clear hS
  gi_wp2
  go_ret2
  exact ⟨hO.out, hb4.trans (hb5.mono hb4.size)⟩
end Go.Proofs.Ytpbpbijjkmjjjaa
