/- The lists of the soup: a thing is dropped; by walks. No conditions but that the rows lie where they are said to lie. -/
import Derived.Test.YtpbpbijjkmjjjaaUg
set_option linter.unusedSimpArgs false
set_option linter.unusedVariables false
namespace Go.Proofs.Ytpbpbijjkmjjjaa
open Go Go.RowKit Go.Sx
attribute [local go_sem] Oper.semAt_some
theorem wpIn_store_box {P : Program} {n : Nat} {o : Oper} {a : Act} {w : World} {K : Act → World → Prop} {Q : Exit → Act → World → Prop} {t : TypeId} (x y : Operand) (ho : o.op = .store t x y) {inf : TypeInfo} (hi : P.info? t = some inf) {g : Nat} {T : TypeId} {cur : Array Value} (hx : a.eval x = .pointer (some ⟨g, 0, none⟩)) {v : Value} (hy : a.eval y = v)
    (cs : List Value) (hc : v.cells.toList = cs) (hl : cs.length = inf.size) (h1 : ∀ u ∈ cs, u.oneCell' = true) (hg : w.heap[g]? = some (.cells cur T (0, 0))) (hfit : cur.size = cs.length)
    (h : ∀ w', w'.heap[g]? = some (.cells cs.toArray T (0, 0)) → Below g w w' → K (a.put o.dst undef) w') : o.wpIn Fence.wide n P a w K Q := by
  refine wpIn_store_block x y ho hi hx hy cs hc hl h1 hg (by omega) (h _ ?_ ?_)
  · have e : (cur.toList.take 0 ++ cs ++ cur.toList.drop (0 + cs.length)).toArray = cs.toArray := by
      rw [List.drop_eq_nil_of_le (by simp [hfit])]
      simp
    rw [e]
    exact setRow_heap _ _ _ _ _ _ hg
  · exact ⟨rfl, rfl, rfl, by simp [World.setRow], fun k hk => setRow_other w g k _ (by omega)⟩
theorem results_tri2 {fn : Func} {t u : Tmp} (h : fn.results = #[.cell t 33, .tmp u]) (tmps : Array Value) (w : World) (B : Nat) (v0 v1 v2 v3 v4 v5 v6 v7 v8 v9 : Value) (ht : tmps.getD t undef = .pointer (some ⟨B, 0, none⟩)) {T : TypeId} (hb : w.heap[B]? = some (.cells #[v0, v1, v2, v3, v4, v5, v6, v7, v8, v9] T (0, 0))) :
    (results fn tmps).run Try.prog w = .ok (.tuple #[.agg #[v0, v1, v2, v3, v4, v5, v6, v7, v8, v9], tmps.getD u undef]) w := by
  have ht' : tmps[t]?.getD undef = .pointer (some ⟨B, 0, none⟩) := by simpa using ht
  have e : ∀ q u, #[v0, v1, v2, v3, v4, v5, v6, v7, v8, v9][q]? = some u → w.cell? ⟨B, q, none⟩ = some u := fun q u hq => by simp [World.cell?, hb, hq]
  have e0 := e 0 _ rfl
  have e1 := e 1 _ rfl
  have e2 := e 2 _ rfl
  have e3 := e 3 _ rfl
  have e4 := e 4 _ rfl
  have e5 := e 5 _ rfl
  have e6 := e 6 _ rfl
  have e7 := e 7 _ rfl
  have e8 := e 8 _ rfl
  have e9 := e 9 _ rfl
  simp [results, h, ht', e0, e1, e2, e3, e4, e5, e6, e7, e8, e9, go_sem]
theorem results_soup {fn : Func} {t : Tmp} (h : fn.results = #[.cell t 28]) (tmps : Array Value) (w : World) (B : Nat) (v0 v1 v2 : Value) (ht : tmps.getD t undef = .pointer (some ⟨B, 0, none⟩)) {T : TypeId} (hb : w.heap[B]? = some (.cells #[v0, v1, v2] T (0, 0))) :
    (results fn tmps).run Try.prog w = .ok (.agg #[v0, v1, v2]) w := by
  have ht' : tmps[t]?.getD undef = .pointer (some ⟨B, 0, none⟩) := by simpa using ht
  have e : ∀ q u, #[v0, v1, v2][q]? = some u → w.cell? ⟨B, q, none⟩ = some u := fun q u hq => by simp [World.cell?, hb, hq]
  have e0 := e 0 _ rfl
  have e1 := e 1 _ rfl
  have e2 := e 2 _ rfl
  simp [results, h, ht', e0, e1, e2, go_sem]
theorem results_soup2 {fn : Func} {t u : Tmp} (h : fn.results = #[.cell t 28, .tmp u]) (tmps : Array Value) (w : World) (B : Nat) (v0 v1 v2 : Value) (ht : tmps.getD t undef = .pointer (some ⟨B, 0, none⟩)) {T : TypeId} (hb : w.heap[B]? = some (.cells #[v0, v1, v2] T (0, 0))) :
    (results fn tmps).run Try.prog w = .ok (.tuple #[.agg #[v0, v1, v2], tmps.getD u undef]) w := by
  have ht' : tmps[t]?.getD undef = .pointer (some ⟨B, 0, none⟩) := by simpa using ht
  have e : ∀ q u, #[v0, v1, v2][q]? = some u → w.cell? ⟨B, q, none⟩ = some u := fun q u hq => by simp [World.cell?, hb, hq]
  have e0 := e 0 _ rfl
  have e1 := e 1 _ rfl
  have e2 := e 2 _ rfl
  simp [results, h, ht', e0, e1, e2, go_sem]
theorem results_listT {fn : Func} {t : Tmp} (h : fn.results = #[.cell t 55]) (tmps : Array Value) (w : World) (B : Nat) (v0 v1 v2 v3 : Value) (ht : tmps.getD t undef = .pointer (some ⟨B, 0, none⟩)) {T : TypeId} (hb : w.heap[B]? = some (.cells #[v0, v1, v2, v3] T (0, 0))) :
    (results fn tmps).run Try.prog w = .ok (.agg #[v0, v1, v2, v3]) w := by
  have ht' : tmps[t]?.getD undef = .pointer (some ⟨B, 0, none⟩) := by simpa using ht
  have e : ∀ q u, #[v0, v1, v2, v3][q]? = some u → w.cell? ⟨B, q, none⟩ = some u := fun q u hq => by simp [World.cell?, hb, hq]
  have e0 := e 0 _ rfl
  have e1 := e 1 _ rfl
  have e2 := e 2 _ rfl
  have e3 := e 3 _ rfl
  simp [results, h, ht', e0, e1, e2, e3, go_sem]
theorem results_listB {fn : Func} {t : Tmp} (h : fn.results = #[.cell t 70]) (tmps : Array Value) (w : World) (B : Nat) (v0 v1 v2 v3 : Value) (ht : tmps.getD t undef = .pointer (some ⟨B, 0, none⟩)) {T : TypeId} (hb : w.heap[B]? = some (.cells #[v0, v1, v2, v3] T (0, 0))) :
    (results fn tmps).run Try.prog w = .ok (.agg #[v0, v1, v2, v3]) w := by
  have ht' : tmps[t]?.getD undef = .pointer (some ⟨B, 0, none⟩) := by simpa using ht
  have e : ∀ q u, #[v0, v1, v2, v3][q]? = some u → w.cell? ⟨B, q, none⟩ = some u := fun q u hq => by simp [World.cell?, hb, hq]
  have e0 := e 0 _ rfl
  have e1 := e 1 _ rfl
  have e2 := e 2 _ rfl
  have e3 := e 3 _ rfl
  simp [results, h, ht', e0, e1, e2, e3, go_sem]
theorem results_listH {fn : Func} {t : Tmp} (h : fn.results = #[.cell t 84]) (tmps : Array Value) (w : World) (B : Nat) (v0 v1 v2 v3 : Value) (ht : tmps.getD t undef = .pointer (some ⟨B, 0, none⟩)) {T : TypeId} (hb : w.heap[B]? = some (.cells #[v0, v1, v2, v3] T (0, 0))) :
    (results fn tmps).run Try.prog w = .ok (.agg #[v0, v1, v2, v3]) w := by
  have ht' : tmps[t]?.getD undef = .pointer (some ⟨B, 0, none⟩) := by simpa using ht
  have e : ∀ q u, #[v0, v1, v2, v3][q]? = some u → w.cell? ⟨B, q, none⟩ = some u := fun q u hq => by simp [World.cell?, hb, hq]
  have e0 := e 0 _ rfl
  have e1 := e 1 _ rfl
  have e2 := e 2 _ rfl
  have e3 := e 3 _ rfl
  simp [results, h, ht', e0, e1, e2, e3, go_sem]
theorem own_addr {w : World} {base e size n : Nat} {v : Value} {xs : List Value} (h : w.ownsRow base e size v n xs) (hn : 0 < n) : ∃ g cap, v = .slice (some ⟨g, 0, none⟩) n cap ∧ base ≤ g := by
  rcases h.2 with ⟨_, h'⟩ | ⟨g, cap, cur, h', hb, _⟩
  · omega
  · exact ⟨g, cap, h', hb⟩
/-- A row of the call's own that has grown: what lay below is as it was. -/
theorem below_own {B : Nat} {w w' w'' : World} (h : Below B w w') (hB : B ≤ w'.heap.size) {g : Nat} (hg : w'.grownBy w'' (some g)) (hBg : B ≤ g) : Below B w w'' :=
  ⟨hg.os.trans h.os, hg.tape.trans h.tape, hg.output.trans h.output, Nat.le_trans h.size hg.size, fun k hk => (hg.block k (Nat.lt_of_lt_of_le hk hB) (fun e => by injection e with e; omega)).trans (h.block k hk)⟩
set_option maxHeartbeats 4000000 in
set_option maxRecDepth 100000 in
theorem dropTri_any (lm : Nat) (lbv : Array Value) (most bad i : Int) (r : List T10) (A : Option Addr) (cap : Nat) (w : World) (hr : Reads w w.heap.size 10 A r.length (fl T10.cs r)) (hl : r.length ≤ 1000) :
    Calls Try.prog 23 #[listv 41 lm lbv most bad, .slice A r.length cap, .int .i64 i] w fun en w' =>
      (((∀ x ∈ r, x.id ≠ i) ∧ en = .returned (.tuple #[.slice none 0 0, .int .i64 4])) ∨
        ∃ (k : Nat) (hk : k < r.length), r[k].id = i ∧ (∀ m (hm : m < r.length), m < k → r[m].id ≠ i) ∧ ∃ A' c', en = .returned (.tuple #[.slice A' (r.length - 1) c', .int .i64 0]) ∧ Reads w' w'.heap.size 10 A' (r.length - 1) (fl T10.cs (r.take k ++ r.drop (k + 1)))) ∧ Below w.heap.size w w' := by
  obtain ⟨u1, eu1, bu1, ku1⟩ := alloc_step w (.cells #[.func (.func 41) #[] #[], .func (.func lm) #[] lbv, .int .i64 most, .int .i64 bad] 55)
  obtain ⟨l0, l1, l2, l3⟩ := box4 ku1
  have hf := findTri_any lm lbv most bad i r A cap u1 ((hr.below bu1).more bu1.size) hl
  unfold listv at hf ⊢
  refine (callsIn_wide (n := 6)).1 ?_
  refine callsIn_of_wp Try.func23 rfl trivial ?_
  simp only [Try.ntmps23, List.size_toArray, List.length_cons, List.length_nil, Nat.reduceAdd, Nat.reduceSub, Array.replicate_succ, Array.replicate_zero, List.push_toArray, List.append_toArray, List.nil_append, List.cons_append]
  gi_wp2
  refine ⟨trivial, (callsIn_wide.2 hf).mono ?_⟩
  rintro en w3 ⟨⟨q, rfl, hq⟩, hb3⟩
  have hbw3 := bu1.trans (hb3.mono bu1.size)
  rcases hq with ⟨rfl, hno⟩ | ⟨k, hk, rfl, hid, hno⟩
  · replace hno := Lib.hid hno
    gi_wp2
    go_ret2
    exact ⟨.inl ⟨hno.out, rfl⟩, hbw3⟩
  · have hcl := cloneTri_any r A cap w3 ((hr.below hbw3).more hbw3.size) hl
    have hwk : IntKind.i64.wrap ((k : Int) + 1) = (k : Int) + 1 := by rw [IntKind.wrap_i64]; omega
    have hk0 : ¬ (k : Int) < 0 := by omega
    replace hid := Lib.hid hid
    replace hno := Lib.hid hno
    gi_wp2
    refine ⟨trivial, (callsIn_wide.2 hcl).mono ?_⟩
    rintro en w4 ⟨v, rfl, hown, hb4⟩
    obtain ⟨g, c4, rfl, hg⟩ := own_addr hown (by omega)
    have hbw4 := hbw3.trans (hb4.mono hbw3.size)
    have hdl := deleteTri_any w3.heap.size g c4 r k hk hl w4 hown
    gi_wp2
    refine ⟨trivial, (callsIn_wide.2 hdl).mono ?_⟩
    rintro en w5 ⟨rfl, hown5, hg5⟩
    gi_wp2
    go_ret2
    refine ⟨.inr ⟨k, hk, hid.out, hno.out, _, _, rfl, Reads.of_own hown5⟩, below_own hbw4 hbw4.size hg5 (Nat.le_trans hbw3.size hg)⟩
set_option maxHeartbeats 4000000 in
set_option maxRecDepth 100000 in
theorem dropBox_any (lm : Nat) (lbv : Array Value) (most bad i : Int) (r : List B8) (A : Option Addr) (cap : Nat) (w : World) (hr : Reads w w.heap.size 8 A r.length (fl B8.cs r)) (hl : r.length ≤ 1000) :
    Calls Try.prog 28 #[listv 53 lm lbv most bad, .slice A r.length cap, .int .i64 i] w fun en w' =>
      (((∀ x ∈ r, x.id ≠ i) ∧ en = .returned (.tuple #[.slice none 0 0, .int .i64 4])) ∨
        ∃ (k : Nat) (hk : k < r.length), r[k].id = i ∧ (∀ m (hm : m < r.length), m < k → r[m].id ≠ i) ∧ ∃ A' c', en = .returned (.tuple #[.slice A' (r.length - 1) c', .int .i64 0]) ∧ Reads w' w'.heap.size 8 A' (r.length - 1) (fl B8.cs (r.take k ++ r.drop (k + 1)))) ∧ Below w.heap.size w w' := by
  obtain ⟨u1, eu1, bu1, ku1⟩ := alloc_step w (.cells #[.func (.func 53) #[] #[], .func (.func lm) #[] lbv, .int .i64 most, .int .i64 bad] 70)
  obtain ⟨l0, l1, l2, l3⟩ := box4 ku1
  have hf := findBox_any lm lbv most bad i r A cap u1 ((hr.below bu1).more bu1.size) hl
  unfold listv at hf ⊢
  refine (callsIn_wide (n := 6)).1 ?_
  refine callsIn_of_wp Try.func28 rfl trivial ?_
  simp only [Try.ntmps28, List.size_toArray, List.length_cons, List.length_nil, Nat.reduceAdd, Nat.reduceSub, Array.replicate_succ, Array.replicate_zero, List.push_toArray, List.append_toArray, List.nil_append, List.cons_append]
  gi_wp2
  refine ⟨trivial, (callsIn_wide.2 hf).mono ?_⟩
  rintro en w3 ⟨⟨q, rfl, hq⟩, hb3⟩
  have hbw3 := bu1.trans (hb3.mono bu1.size)
  rcases hq with ⟨rfl, hno⟩ | ⟨k, hk, rfl, hid, hno⟩
  · replace hno := Lib.hid hno
    gi_wp2
    go_ret2
    exact ⟨.inl ⟨hno.out, rfl⟩, hbw3⟩
  · have hcl := cloneBox_any r A cap w3 ((hr.below hbw3).more hbw3.size) hl
    have hwk : IntKind.i64.wrap ((k : Int) + 1) = (k : Int) + 1 := by rw [IntKind.wrap_i64]; omega
    have hk0 : ¬ (k : Int) < 0 := by omega
    replace hid := Lib.hid hid
    replace hno := Lib.hid hno
    gi_wp2
    refine ⟨trivial, (callsIn_wide.2 hcl).mono ?_⟩
    rintro en w4 ⟨v, rfl, hown, hb4⟩
    obtain ⟨g, c4, rfl, hg⟩ := own_addr hown (by omega)
    have hbw4 := hbw3.trans (hb4.mono hbw3.size)
    have hdl := deleteBox_any w3.heap.size g c4 r k hk hl w4 hown
    gi_wp2
    refine ⟨trivial, (callsIn_wide.2 hdl).mono ?_⟩
    rintro en w5 ⟨rfl, hown5, hg5⟩
    gi_wp2
    go_ret2
    refine ⟨.inr ⟨k, hk, hid.out, hno.out, _, _, rfl, Reads.of_own hown5⟩, below_own hbw4 hbw4.size hg5 (Nat.le_trans hbw3.size hg)⟩
set_option maxHeartbeats 4000000 in
set_option maxRecDepth 100000 in
theorem dropHop_any (lm : Nat) (lbv : Array Value) (most bad i : Int) (r : List H10) (A : Option Addr) (cap : Nat) (w : World) (hr : Reads w w.heap.size 10 A r.length (fl H10.cs r)) (hl : r.length ≤ 1000) :
    Calls Try.prog 33 #[listv 64 lm lbv most bad, .slice A r.length cap, .int .i64 i] w fun en w' =>
      (((∀ x ∈ r, x.id ≠ i) ∧ en = .returned (.tuple #[.slice none 0 0, .int .i64 4])) ∨
        ∃ (k : Nat) (hk : k < r.length), r[k].id = i ∧ (∀ m (hm : m < r.length), m < k → r[m].id ≠ i) ∧ ∃ A' c', en = .returned (.tuple #[.slice A' (r.length - 1) c', .int .i64 0]) ∧ Reads w' w'.heap.size 10 A' (r.length - 1) (fl H10.cs (r.take k ++ r.drop (k + 1)))) ∧ Below w.heap.size w w' := by
  obtain ⟨u1, eu1, bu1, ku1⟩ := alloc_step w (.cells #[.func (.func 64) #[] #[], .func (.func lm) #[] lbv, .int .i64 most, .int .i64 bad] 84)
  obtain ⟨l0, l1, l2, l3⟩ := box4 ku1
  have hf := findHop_any lm lbv most bad i r A cap u1 ((hr.below bu1).more bu1.size) hl
  unfold listv at hf ⊢
  refine (callsIn_wide (n := 6)).1 ?_
  refine callsIn_of_wp Try.func33 rfl trivial ?_
  simp only [Try.ntmps33, List.size_toArray, List.length_cons, List.length_nil, Nat.reduceAdd, Nat.reduceSub, Array.replicate_succ, Array.replicate_zero, List.push_toArray, List.append_toArray, List.nil_append, List.cons_append]
  gi_wp2
  refine ⟨trivial, (callsIn_wide.2 hf).mono ?_⟩
  rintro en w3 ⟨⟨q, rfl, hq⟩, hb3⟩
  have hbw3 := bu1.trans (hb3.mono bu1.size)
  rcases hq with ⟨rfl, hno⟩ | ⟨k, hk, rfl, hid, hno⟩
  · replace hno := Lib.hid hno
    gi_wp2
    go_ret2
    exact ⟨.inl ⟨hno.out, rfl⟩, hbw3⟩
  · have hcl := cloneHop_any r A cap w3 ((hr.below hbw3).more hbw3.size) hl
    have hwk : IntKind.i64.wrap ((k : Int) + 1) = (k : Int) + 1 := by rw [IntKind.wrap_i64]; omega
    have hk0 : ¬ (k : Int) < 0 := by omega
    replace hid := Lib.hid hid
    replace hno := Lib.hid hno
    gi_wp2
    refine ⟨trivial, (callsIn_wide.2 hcl).mono ?_⟩
    rintro en w4 ⟨v, rfl, hown, hb4⟩
    obtain ⟨g, c4, rfl, hg⟩ := own_addr hown (by omega)
    have hbw4 := hbw3.trans (hb4.mono hbw3.size)
    have hdl := deleteHop_any w3.heap.size g c4 r k hk hl w4 hown
    gi_wp2
    refine ⟨trivial, (callsIn_wide.2 hdl).mono ?_⟩
    rintro en w5 ⟨rfl, hown5, hg5⟩
    gi_wp2
    go_ret2
    refine ⟨.inr ⟨k, hk, hid.out, hno.out, _, _, rfl, Reads.of_own hown5⟩, below_own hbw4 hbw4.size hg5 (Nat.le_trans hbw3.size hg)⟩
set_option maxHeartbeats 4000000 in
set_option maxRecDepth 100000 in
/-- The first thing of an id. -/
theorem first_any (lm : Nat) (lbv : Array Value) (most bad i : Int) (r : List T10) (A : Option Addr) (cap : Nat) (w : World) (hr : Reads w w.heap.size 10 A r.length (fl T10.cs r)) (hl : r.length ≤ 1000) :
    Calls Try.prog 20 #[listv 41 lm lbv most bad, .slice A r.length cap, .int .i64 i] w fun en w' =>
      (((∀ x ∈ r, x.id ≠ i) ∧ ∃ t : T10, en = .returned (.tuple #[t.v, .bool false])) ∨
        ∃ (k : Nat) (hk : k < r.length), r[k].id = i ∧ (∀ m (hm : m < r.length), m < k → r[m].id ≠ i) ∧ en = .returned (.tuple #[r[k].v, .bool true])) ∧ Below w.heap.size w w' := by
  obtain ⟨u1, eu1, bu1, ku1⟩ := alloc_step w (.cells #[.func (.func 41) #[] #[], .func (.func lm) #[] lbv, .int .i64 most, .int .i64 bad] 55)
  obtain ⟨u2, eu2, bu2, ku2⟩ := alloc_step u1 (.cells #[.int .i64 0, .int .i64 0, .int .i64 0, .int .i64 0, .int .i64 0, .int .i64 0, .int .i64 0, .int .i64 0, .int .i64 0, .int .i64 0] 33)
  have hb2 : Below w.heap.size w u2 := bu1.trans (bu2.mono bu1.size)
  have ku1' := (bu2.block _ (lt_of_block ku1)).trans ku1
  obtain ⟨l0, l1, l2, l3⟩ := box4 ku1'
  obtain ⟨iT, hiT, hzT0, hzT1, hzT2⟩ := info_parts infoTri
  have hf := findTri_any lm lbv most bad i r A cap u2 ((hr.below hb2).more hb2.size) hl
  unfold listv at hf ⊢
  refine (callsIn_wide (n := 6)).1 ?_
  refine callsIn_of_wp Try.func20 rfl trivial ?_
  simp only [Try.ntmps20, List.size_toArray, List.length_cons, List.length_nil, Nat.reduceAdd, Nat.reduceSub, Array.replicate_succ, Array.replicate_zero, List.push_toArray, List.append_toArray, List.nil_append, List.cons_append]
  gi_wp2
  refine ⟨trivial, (callsIn_wide.2 hf).mono ?_⟩
  rintro en w3 ⟨⟨q, rfl, hq⟩, hb3⟩
  have hbw3 := hb2.trans (hb3.mono hb2.size)
  have n2 := (hb3.block _ (lt_of_block ku2)).trans ku2
  rcases hq with ⟨rfl, hno⟩ | ⟨k, hk, rfl, hid, hno⟩
  · replace hno := Lib.hid hno
    obtain ⟨c0, c1, c2, c3, c4, c5, c6, c7, c8, c9⟩ := box10 n2
    gi_wp2_with (refine wpListIn_plain rfl fun K' hK' => ?_; refine wpIn_store_box (.tmp 6) (.tmp 19) rfl hiT rfl rfl [.int .i64 0, .int .i64 0, .int .i64 0, .int .i64 0, .int .i64 0, .int .i64 0, .int .i64 0, .int .i64 0, .int .i64 0, .int .i64 0] rfl hzT1.symm (by simp [Value.oneCell']) n2 rfl ?_; intro w6 hkm hbs; refine hK' _ _ ?_)
    have hb6 := hbw3.trans (hbs.mono bu1.size)
    refine bodyPost_ret (results_tri2 rfl _ _ u1.heap.size _ _ _ _ _ _ _ _ _ _ rfl hkm) rfl ?_
    exact ⟨.inl ⟨hno.out, ⟨0, 0, 0, 0, 0, 0, 0, 0, 0, 0⟩, rfl⟩, hb6⟩
  · have hk' : (k : Int) < (r.length : Int) := by omega
    have hk0 : (0 : Int) ≤ (k : Int) := by omega
    replace hid := Lib.hid hid
    replace hno := Lib.hid hno
    obtain ⟨ad, rfl, hba, c0, c1, c2, c3, c4, c5, c6, c7, c8, c9⟩ := T10.at_ (hr.below hbw3) rfl hk
    generalize hPa : ad.add (k * 10) = Pa at hba c0 c1 c2 c3 c4 c5 c6 c7 c8 c9
    obtain ⟨t, ht⟩ : ∃ t, t = r[k] := ⟨_, rfl⟩
    rw [← ht] at c0 c1 c2 c3 c4 c5 c6 c7 c8 c9
    replace ht := Lib.hid ht
    obtain ⟨id, x0, y0, z0, x1, y1, z1, x2, y2, z2⟩ := t
    simp only at c0 c1 c2 c3 c4 c5 c6 c7 c8 c9
    gi_wp2_with (refine wpListIn_plain rfl fun K' hK' => ?_; refine wpIn_store_box (.tmp 6) (.tmp 18) rfl hiT rfl rfl [.int .i64 id, .int .i64 x0, .int .i64 y0, .int .i64 z0, .int .i64 x1, .int .i64 y1, .int .i64 z1, .int .i64 x2, .int .i64 y2, .int .i64 z2] rfl hzT1.symm (by simp [Value.oneCell']) n2 rfl ?_; intro w6 hkm hbs; refine hK' _ _ ?_)
    have hb6 := hbw3.trans (hbs.mono bu1.size)
    refine bodyPost_ret (results_tri2 rfl _ _ u1.heap.size _ _ _ _ _ _ _ _ _ _ rfl hkm) rfl ?_
    exact ⟨.inr ⟨k, hk, hid.out, hno.out, by rw [← ht.out]; rfl⟩, hb6⟩
end Go.Proofs.Ytpbpbijjkmjjjaa
