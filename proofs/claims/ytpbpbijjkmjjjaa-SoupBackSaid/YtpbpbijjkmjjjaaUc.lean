/- Which triangles may be: soup.tris and what it hands on, by walks. No conditions but that w and d lie where they are said to lie. -/
import Derived.Test.YtpbpbijjkmjjjaaUb
import Derived.Test.YtpbpbijjkmjjjaaUp
import Derived.Test.YtpbpbijjkmjjjaaSxUse
namespace Go
theorem wpListIn_off {n : Nat} {P : Program} {w : World} {ops : Array Oper} {rest : List Oper} {o : Oper} {a : Act} {Q : Exit → Act → World → Prop} (hw : Region.wanted o (yielded ops a.tmps) = false) (h : wpListIn Fence.wide n P ops Q rest (a.put o.dst undef) w) : wpListIn Fence.wide n P ops Q (o :: rest) a w := by
  simp only [wpListIn, hw]
  exact ⟨fun _ _ => trivial, h⟩
end Go
set_option linter.unusedSimpArgs false
set_option linter.unusedVariables false
namespace Go.Proofs.Ytpbpbijjkmjjjaa
open Go Go.RowKit Go.Sx
attribute [local go_sem] Oper.semAt_some
theorem alloc_step (w : World) (o : Obj) : ∃ x, w.alloc o = x ∧ Below w.heap.size w x ∧ x.heap[w.heap.size]? = some o := ⟨_, rfl, (Below.refl _ _).alloc (Nat.le_refl _) _, World.alloc_heap_new _ _⟩
/-- A function value. -/
def fnv (g : Nat) (lb : Array Value) : Value := .func (.func g) #[] lb
/-- What is asked of a function value that says whether a thing may be. -/
def MayAt {α : Type} (g : Nat) (lb : Array Value) (v : α → Value) (p : α → Bool) (w : World) : Prop :=
  ∀ (W : World) (x : α), Below w.heap.size w W → Calls Try.prog g (#[v x] ++ lb) W fun en w' => en = .returned (.bool (p x)) ∧ Below W.heap.size W w'
theorem MayAt.below {α : Type} {g : Nat} {lb : Array Value} {v : α → Value} {p : α → Bool} {w w' : World} (h : MayAt g lb v p w) (hb : Below w.heap.size w w') : MayAt g lb v p w' :=
  fun W x hW => h W x (hb.trans (hW.mono hb.size))
noncomputable def vok (w d x y z : Int) : Bool := decide (0 ≤ x) && decide (x ≤ w) && decide (0 ≤ z) && decide (z ≤ d) && heightF y
/-- May a triangle be, but for its id? -/
noncomputable def triMay (w d : Int) (t : T10) : Bool :=
  vok w d t.x0 t.y0 t.z0 && vok w d t.x1 t.y1 t.z1 && vok w d t.x2 t.y2 t.z2 &&
    (crossF1 (wrap64 (t.x1 - t.x0)) (wrap64 (t.z1 - t.z0)) (wrap64 (t.x2 - t.x0)) (wrap64 (t.z2 - t.z0)) == 0) &&
    !(crossF0 (wrap64 (t.x1 - t.x0)) (wrap64 (t.z1 - t.z0)) (wrap64 (t.x2 - t.x0)) (wrap64 (t.z2 - t.z0)) == 0)
theorem box10 {w : World} {B : Nat} {v0 v1 v2 v3 v4 v5 v6 v7 v8 v9 : Value} {T : TypeId} (h : w.heap[B]? = some (.cells #[v0, v1, v2, v3, v4, v5, v6, v7, v8, v9] T (0, 0))) :
    w.cell? ⟨B, 0, none⟩ = some v0 ∧ w.cell? ⟨B, 1, none⟩ = some v1 ∧ w.cell? ⟨B, 2, none⟩ = some v2 ∧ w.cell? ⟨B, 3, none⟩ = some v3 ∧ w.cell? ⟨B, 4, none⟩ = some v4 ∧ w.cell? ⟨B, 5, none⟩ = some v5 ∧ w.cell? ⟨B, 6, none⟩ = some v6 ∧ w.cell? ⟨B, 7, none⟩ = some v7 ∧ w.cell? ⟨B, 8, none⟩ = some v8 ∧ w.cell? ⟨B, 9, none⟩ = some v9 :=
  ⟨cell_of h rfl, cell_of h rfl, cell_of h rfl, cell_of h rfl, cell_of h rfl, cell_of h rfl, cell_of h rfl, cell_of h rfl, cell_of h rfl, cell_of h rfl⟩
theorem box4 {w : World} {B : Nat} {v0 v1 v2 v3 : Value} {T : TypeId} (h : w.heap[B]? = some (.cells #[v0, v1, v2, v3] T (0, 0))) :
    w.cell? ⟨B, 0, none⟩ = some v0 ∧ w.cell? ⟨B, 1, none⟩ = some v1 ∧ w.cell? ⟨B, 2, none⟩ = some v2 ∧ w.cell? ⟨B, 3, none⟩ = some v3 :=
  ⟨cell_of h rfl, cell_of h rfl, cell_of h rfl, cell_of h rfl⟩
theorem box3 {w : World} {B : Nat} {v0 v1 v2 : Value} {T : TypeId} (h : w.heap[B]? = some (.cells #[v0, v1, v2] T (0, 0))) :
    w.cell? ⟨B, 0, none⟩ = some v0 ∧ w.cell? ⟨B, 1, none⟩ = some v1 ∧ w.cell? ⟨B, 2, none⟩ = some v2 :=
  ⟨cell_of h rfl, cell_of h rfl, cell_of h rfl⟩
theorem cross_any (a b c d : Int) (w : World) : Calls Try.prog 44 #[.int .i64 a, .int .i64 b, .int .i64 c, .int .i64 d] w fun en w' => en = .returned (.tuple #[.int .i64 (crossF0 a b c d), .int .i64 (crossF1 a b c d)]) ∧ Below w.heap.size w w' :=
  crossC_holds [.int .i64 a, .int .i64 b, .int .i64 c, .int .i64 d] ⟨a, _, rfl, b, _, rfl, c, _, rfl, d, _, rfl, rfl⟩ w
theorem height_any (a : Int) (w : World) : Calls Try.prog 43 #[.int .i64 a] w fun en w' => en = .returned (.bool (heightF a)) ∧ Below w.heap.size w w' :=
  heightC_holds [.int .i64 a] ⟨a, _, rfl, rfl⟩ w
theorem idTri_any (t : T10) (w : World) : Calls Try.prog 41 #[t.v] w fun en w' => en = .returned (.int .i64 t.id) ∧ Below w.heap.size w w' := by
  obtain ⟨u1, eu1, bu1, ku1⟩ := alloc_step w (.cells #[.int .i64 t.id, .int .i64 t.x0, .int .i64 t.y0, .int .i64 t.z0, .int .i64 t.x1, .int .i64 t.y1, .int .i64 t.z1, .int .i64 t.x2, .int .i64 t.y2, .int .i64 t.z2] 33)
  have c0 : u1.cell? ⟨w.heap.size, 0, none⟩ = some _ := cell_of ku1 rfl
  unfold T10.v
  refine (callsIn_wide (n := 6)).1 ?_
  refine callsIn_of_wp Try.func41 rfl trivial ?_
  simp only [Try.ntmps41, List.size_toArray, List.length_cons, List.length_nil, Nat.reduceAdd, Nat.reduceSub, Array.replicate_succ, Array.replicate_zero, List.push_toArray, List.append_toArray, List.nil_append, List.cons_append]
  gi_wp2
  go_ret
  exact ⟨rfl, bu1⟩
theorem vok_e1 {W D x y z : Int} (h : x < 0) : vok W D x y z = false := by
  have : ¬ 0 ≤ x := by omega
  simp [vok, this]
theorem vok_e2 {W D x y z : Int} (h : W < x) : vok W D x y z = false := by
  have : ¬ x ≤ W := by omega
  simp [vok, this]
theorem vok_e3 {W D x y z : Int} (h : z < 0) : vok W D x y z = false := by
  have : ¬ 0 ≤ z := by omega
  simp [vok, this]
theorem vok_e4 {W D x y z : Int} (h : D < z) : vok W D x y z = false := by
  have : ¬ z ≤ D := by omega
  simp [vok, this]
theorem vok_e5 {W D x y z : Int} (h : heightF y = false) : vok W D x y z = false := by simp [vok, h]
theorem vok_yes {W D x y z : Int} (a1 : 0 ≤ x) (a2 : x ≤ W) (a3 : 0 ≤ z) (a4 : z ≤ D) (h5 : heightF y = true) : vok W D x y z = true := by simp [vok, a1, a2, a3, a4, h5]
section
variable {W D id x0 y0 z0 x1 y1 z1 x2 y2 z2 : Int}
theorem may_no0 (h : vok W D x0 y0 z0 = false) : triMay W D ⟨id, x0, y0, z0, x1, y1, z1, x2, y2, z2⟩ = false := by simp [triMay, h]
theorem may_no1 (h : vok W D x1 y1 z1 = false) : triMay W D ⟨id, x0, y0, z0, x1, y1, z1, x2, y2, z2⟩ = false := by simp [triMay, h]
theorem may_no2 (h : vok W D x2 y2 z2 = false) : triMay W D ⟨id, x0, y0, z0, x1, y1, z1, x2, y2, z2⟩ = false := by simp [triMay, h]
theorem may_all (h0 : vok W D x0 y0 z0 = true) (h1 : vok W D x1 y1 z1 = true) (h2 : vok W D x2 y2 z2 = true) : triMay W D ⟨id, x0, y0, z0, x1, y1, z1, x2, y2, z2⟩ =
    ((crossF1 (wrap64 (x1 - x0)) (wrap64 (z1 - z0)) (wrap64 (x2 - x0)) (wrap64 (z2 - z0)) == 0) &&
      !(crossF0 (wrap64 (x1 - x0)) (wrap64 (z1 - z0)) (wrap64 (x2 - x0)) (wrap64 (z2 - z0)) == 0)) := by simp [triMay, h0, h1, h2]
end
set_option maxHeartbeats 4000000 in
set_option maxRecDepth 100000 in
theorem triMay_any (t : T10) (W D : Int) (bw bd : Nat) (w : World) (h1 : w.cell? ⟨bw, 0, none⟩ = some (.int .i64 W)) (h2 : w.cell? ⟨bd, 0, none⟩ = some (.int .i64 D)) (hw : bw < w.heap.size) (hd : bd < w.heap.size) :
    Calls Try.prog 42 #[t.v, .pointer (some ⟨bw, 0, none⟩), .pointer (some ⟨bd, 0, none⟩)] w fun en w' => en = .returned (.bool (triMay W D t)) ∧ Below w.heap.size w w' := by
  obtain ⟨id, x0, y0, z0, x1, y1, z1, x2, y2, z2⟩ := t
  obtain ⟨u1, eu1, bu1, ku1⟩ := alloc_step w (.cells #[.int .i64 id, .int .i64 x0, .int .i64 y0, .int .i64 z0, .int .i64 x1, .int .i64 y1, .int .i64 z1, .int .i64 x2, .int .i64 y2, .int .i64 z2] 33)
  obtain ⟨c0, c1, c2, c3, c4, c5, c6, c7, c8, c9⟩ := box10 ku1
  unfold T10.v
  refine (callsIn_wide (n := 6)).1 ?_
  refine callsIn_of_wp Try.func42 rfl trivial ?_
  simp only [Try.ntmps42, List.size_toArray, List.length_cons, List.length_nil, Nat.reduceAdd, Nat.reduceSub, Array.replicate_succ, Array.replicate_zero, List.push_toArray, List.append_toArray, List.nil_append, List.cons_append]
  gi_wp2
  gi_loopw [11] (fun x wr => ∃ k : Nat, x = .int .i64 k ∧ k ≤ 3 ∧ (0 < k → vok W D x0 y0 z0 = true) ∧ (1 < k → vok W D x1 y1 z1 = true) ∧ (2 < k → vok W D x2 y2 z2 = true) ∧ Below u1.heap.size u1 wr) (fun x _ => 3 - (intOf x).toNat)
  case atStart => exact ⟨0, rfl, by omega, fun h => absurd h (by omega), fun h => absurd h (by omega), fun h => absurd h (by omega), Below.refl _ _⟩
  case round =>
  clear c0 c1 c2 c3 c4 c5 c6 c7 c8 c9
  obtain ⟨k, rfl, hk, v0, v1, v2, hlow⟩ := hrel
  obtain ⟨c0, c1, c2, c3, c4, c5, c6, c7, c8, c9⟩ := box10 ((hlow.block _ (lt_of_block ku1)).trans ku1)
  have hb := bu1.trans (hlow.mono bu1.size)
  have g1 := (hb.cell (p := ⟨bw, 0, none⟩) hw).trans h1
  have g2 := (hb.cell (p := ⟨bd, 0, none⟩) hd).trans h2
  have lw : bw < wr.heap.size := Nat.lt_of_lt_of_le hw hb.size
  have ld : bd < wr.heap.size := Nat.lt_of_lt_of_le hd hb.size
  clear h1 h2
  rcases (by omega : k = 0 ∨ k = 1 ∨ k = 2 ∨ k = 3) with rfl | rfl | rfl | rfl
  · have hix : ∀ w, (Instr.index 31 (.agg #[.int .i64 x0, .int .i64 y0, .int .i64 z0, .int .i64 x1, .int .i64 y1, .int .i64 z1, .int .i64 x2, .int .i64 y2, .int .i64 z2]) (.int .i64 0)).run Try.prog w = .ok (.agg #[.int .i64 x0, .int .i64 y0, .int .i64 z0]) w := fun _ => by kernel_rfl
    by_cases e1 : x0 < 0
    · gi_wp2_with (refine wpListIn_off rfl ?_)
      go_ret
      exact ⟨by rw [may_no0 (vok_e1 e1)]; rfl, hb.alloc hb.size _⟩
    · skip
      by_cases e2 : W < x0
      · gi_wp2_with (refine wpListIn_off rfl ?_)
        go_ret
        exact ⟨by rw [may_no0 (vok_e2 e2)]; rfl, hb.alloc hb.size _⟩
      · skip
        by_cases e3 : z0 < 0
        · gi_wp2_with (refine wpListIn_off rfl ?_)
          go_ret
          exact ⟨by rw [may_no0 (vok_e3 e3)]; rfl, hb.alloc hb.size _⟩
        · skip
          by_cases e4 : D < z0
          · gi_wp2_with (refine wpListIn_off rfl ?_)
            go_ret
            exact ⟨by rw [may_no0 (vok_e4 e4)]; rfl, hb.alloc hb.size _⟩
          · skip
            have hh := fun w => height_any y0 w
            cases e5 : heightF y0 with
            | false =>
              rw [e5] at hh
              gi_wp2
              refine ⟨trivial, (callsIn_wide.2 (hh _)).mono ?_⟩
              rintro en w3 ⟨rfl, hb3⟩
              gi_wp2
              go_ret
              exact ⟨by rw [may_no0 (vok_e5 e5)]; rfl, (hb.alloc hb.size _).trans (hb3.mono (hb.alloc hb.size _).size)⟩
            | true =>
              rw [e5] at hh
              gi_wp2
              refine ⟨trivial, (callsIn_wide.2 (hh _)).mono ?_⟩
              rintro en w3 ⟨rfl, hb3⟩
              gi_wp2
              go_roundw
              case rel => exact ⟨1, rfl, by omega, fun _ => vok_yes e1 e2 e3 e4 e5, fun h => absurd h (by omega), fun h => absurd h (by omega), (hlow.alloc hlow.size _).trans (hb3.mono (hlow.alloc hlow.size _).size)⟩
              case measure => simp [intOf]
  · have hix : ∀ w, (Instr.index 31 (.agg #[.int .i64 x0, .int .i64 y0, .int .i64 z0, .int .i64 x1, .int .i64 y1, .int .i64 z1, .int .i64 x2, .int .i64 y2, .int .i64 z2]) (.int .i64 1)).run Try.prog w = .ok (.agg #[.int .i64 x1, .int .i64 y1, .int .i64 z1]) w := fun _ => by kernel_rfl
    by_cases e1 : x1 < 0
    · gi_wp2_with (refine wpListIn_off rfl ?_)
      go_ret
      exact ⟨by rw [may_no1 (vok_e1 e1)]; rfl, hb.alloc hb.size _⟩
    · skip
      by_cases e2 : W < x1
      · gi_wp2_with (refine wpListIn_off rfl ?_)
        go_ret
        exact ⟨by rw [may_no1 (vok_e2 e2)]; rfl, hb.alloc hb.size _⟩
      · skip
        by_cases e3 : z1 < 0
        · gi_wp2_with (refine wpListIn_off rfl ?_)
          go_ret
          exact ⟨by rw [may_no1 (vok_e3 e3)]; rfl, hb.alloc hb.size _⟩
        · skip
          by_cases e4 : D < z1
          · gi_wp2_with (refine wpListIn_off rfl ?_)
            go_ret
            exact ⟨by rw [may_no1 (vok_e4 e4)]; rfl, hb.alloc hb.size _⟩
          · skip
            have hh := fun w => height_any y1 w
            cases e5 : heightF y1 with
            | false =>
              rw [e5] at hh
              gi_wp2
              refine ⟨trivial, (callsIn_wide.2 (hh _)).mono ?_⟩
              rintro en w3 ⟨rfl, hb3⟩
              gi_wp2
              go_ret
              exact ⟨by rw [may_no1 (vok_e5 e5)]; rfl, (hb.alloc hb.size _).trans (hb3.mono (hb.alloc hb.size _).size)⟩
            | true =>
              rw [e5] at hh
              gi_wp2
              refine ⟨trivial, (callsIn_wide.2 (hh _)).mono ?_⟩
              rintro en w3 ⟨rfl, hb3⟩
              gi_wp2
              go_roundw
              case rel => exact ⟨2, rfl, by omega, fun _ => v0 (by omega), fun _ => vok_yes e1 e2 e3 e4 e5, fun h => absurd h (by omega), (hlow.alloc hlow.size _).trans (hb3.mono (hlow.alloc hlow.size _).size)⟩
              case measure => simp [intOf]
  · have hix : ∀ w, (Instr.index 31 (.agg #[.int .i64 x0, .int .i64 y0, .int .i64 z0, .int .i64 x1, .int .i64 y1, .int .i64 z1, .int .i64 x2, .int .i64 y2, .int .i64 z2]) (.int .i64 2)).run Try.prog w = .ok (.agg #[.int .i64 x2, .int .i64 y2, .int .i64 z2]) w := fun _ => by kernel_rfl
    by_cases e1 : x2 < 0
    · gi_wp2_with (refine wpListIn_off rfl ?_)
      go_ret
      exact ⟨by rw [may_no2 (vok_e1 e1)]; rfl, hb.alloc hb.size _⟩
    · skip
      by_cases e2 : W < x2
      · gi_wp2_with (refine wpListIn_off rfl ?_)
        go_ret
        exact ⟨by rw [may_no2 (vok_e2 e2)]; rfl, hb.alloc hb.size _⟩
      · skip
        by_cases e3 : z2 < 0
        · gi_wp2_with (refine wpListIn_off rfl ?_)
          go_ret
          exact ⟨by rw [may_no2 (vok_e3 e3)]; rfl, hb.alloc hb.size _⟩
        · skip
          by_cases e4 : D < z2
          · gi_wp2_with (refine wpListIn_off rfl ?_)
            go_ret
            exact ⟨by rw [may_no2 (vok_e4 e4)]; rfl, hb.alloc hb.size _⟩
          · skip
            have hh := fun w => height_any y2 w
            cases e5 : heightF y2 with
            | false =>
              rw [e5] at hh
              gi_wp2
              refine ⟨trivial, (callsIn_wide.2 (hh _)).mono ?_⟩
              rintro en w3 ⟨rfl, hb3⟩
              gi_wp2
              go_ret
              exact ⟨by rw [may_no2 (vok_e5 e5)]; rfl, (hb.alloc hb.size _).trans (hb3.mono (hb.alloc hb.size _).size)⟩
            | true =>
              rw [e5] at hh
              gi_wp2
              refine ⟨trivial, (callsIn_wide.2 (hh _)).mono ?_⟩
              rintro en w3 ⟨rfl, hb3⟩
              gi_wp2
              go_roundw
              case rel => exact ⟨3, rfl, by omega, fun _ => v0 (by omega), fun _ => v1 (by omega), fun _ => vok_yes e1 e2 e3 e4 e5, (hlow.alloc hlow.size _).trans (hb3.mono (hlow.alloc hlow.size _).size)⟩
              case measure => simp [intOf]
  · have hc := fun w => cross_any (wrap64 (x1 - x0)) (wrap64 (z1 - z0)) (wrap64 (x2 - x0)) (wrap64 (z2 - z0)) w
    have hm := may_all (id := id) (v0 (by omega)) (v1 (by omega)) (v2 (by omega))
    generalize crossF1 (wrap64 (x1 - x0)) (wrap64 (z1 - z0)) (wrap64 (x2 - x0)) (wrap64 (z2 - z0)) = ce at hc hm
    generalize crossF0 (wrap64 (x1 - x0)) (wrap64 (z1 - z0)) (wrap64 (x2 - x0)) (wrap64 (z2 - z0)) = cv at hc hm
    replace hm := Lib.hid hm
    gi_wp2
    refine ⟨trivial, (callsIn_wide.2 (hc _)).mono ?_⟩
    rintro en w3 ⟨rfl, hb3⟩
    by_cases e : ce = 0
    · subst e
      by_cases f : cv = 0
      · subst f
        gi_wp2
        go_ret
        exact ⟨by rw [hm.out]; simp, hb.trans (hb3.mono hb.size)⟩
      · have f' : (cv != 0) = true := by simpa using f
        have hm2 : Hid (triMay W D ⟨id, x0, y0, z0, x1, y1, z1, x2, y2, z2⟩ = true) := Lib.hid (by rw [hm.out]; simpa using f)
        clear f
        gi_wp2
        go_ret
        exact ⟨by rw [hm2.out]; simp, hb.trans (hb3.mono hb.size)⟩
    · have hm2 : Hid (triMay W D ⟨id, x0, y0, z0, x1, y1, z1, x2, y2, z2⟩ = false) := Lib.hid (by rw [hm.out]; simp [e])
      have e' : (ce == 0) = false := by simpa using e
      gi_wp2
      go_ret
      exact ⟨by rw [hm2.out]; simp, hb.trans (hb3.mono hb.size)⟩
end Go.Proofs.Ytpbpbijjkmjjjaa
