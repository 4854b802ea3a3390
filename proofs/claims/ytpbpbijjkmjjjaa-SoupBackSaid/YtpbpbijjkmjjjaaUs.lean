/- soup.Check by a walk. No conditions but that the rows lie where they are said to lie. -/
import Derived.Test.YtpbpbijjkmjjjaaUr
set_option linter.unusedSimpArgs false
set_option linter.unusedVariables false
namespace Go.Proofs.Ytpbpbijjkmjjjaa
open Go Go.RowKit Go.Sx
attribute [local go_sem] Oper.semAt_some
/-- A soup's rows. -/
structure Soup where
  ts : List T10
  bs : List B8
  hs : List H10
/-- Where a soup's rows lie. -/
structure SoupAt (w : World) (B : Nat) (A1 A2 A3 : Option Addr) (s : Soup) : Prop where
  t : Reads w B 10 A1 s.ts.length (fl T10.cs s.ts)
  b : Reads w B 8 A2 s.bs.length (fl B8.cs s.bs)
  h : Reads w B 10 A3 s.hs.length (fl H10.cs s.hs)
theorem SoupAt.below {w w' : World} {B : Nat} {A1 A2 A3 : Option Addr} {s : Soup} (h : SoupAt w B A1 A2 A3 s) (hb : Below B w w') : SoupAt w' B A1 A2 A3 s := ⟨h.t.below hb, h.b.below hb, h.h.below hb⟩
theorem SoupAt.more {w : World} {B B' : Nat} {A1 A2 A3 : Option Addr} {s : Soup} (h : SoupAt w B A1 A2 A3 s) (hb : B ≤ B') : SoupAt w B' A1 A2 A3 s := ⟨h.t.more hb, h.b.more hb, h.h.more hb⟩
def soupv (A1 A2 A3 : Option Addr) (c1 c2 c3 : Nat) (s : Soup) : Value := .agg #[.slice A1 s.ts.length c1, .slice A2 s.bs.length c2, .slice A3 s.hs.length c3]
def Soup.lens (s : Soup) : Prop := s.ts.length ≤ 1000 ∧ s.bs.length ≤ 1000 ∧ s.hs.length ≤ 1000
noncomputable def rowsOk (W D : Int) (s : Soup) : Bool := rowOk T10.id (triMay W D) 200 s.ts && rowOk B8.id (boxMay W D) 16 s.bs && rowOk H10.id (hopMay W D) 16 s.hs
def cfgv (a b c d e f g : Int) : Value := .agg #[.int .i64 a, .int .i64 b, .int .i64 c, .int .i64 d, .int .i64 e, .int .i64 f, .int .i64 g]
/-- What soup.Check tells. -/
noncomputable def soupC (a b c d e f g : Int) (s : Soup) : Int := if checkF a b c d e f g = 0 then (if rowsOk f g s = true then 0 else 2) else 20
theorem cfg_any (a b c d e f g : Int) (w : World) : Calls Try.prog 37 #[.agg #[.int .i64 a, .int .i64 b, .int .i64 c, .int .i64 d, .int .i64 e, .int .i64 f, .int .i64 g]] w fun en w' => en = .returned (.int .i64 (checkF a b c d e f g)) ∧ Below w.heap.size w w' :=
  checkC_holds [.int .i64 a, .int .i64 b, .int .i64 c, .int .i64 d, .int .i64 e, .int .i64 f, .int .i64 g] ⟨a, _, rfl, b, _, rfl, c, _, rfl, d, _, rfl, e, _, rfl, f, _, rfl, g, _, rfl, rfl⟩ w
set_option maxHeartbeats 4000000 in
set_option maxRecDepth 100000 in
theorem scheck_any (a b c d e f g : Int) (s : Soup) (A1 A2 A3 : Option Addr) (c1 c2 c3 : Nat) (w : World) (hs : SoupAt w w.heap.size A1 A2 A3 s) (hl : s.lens) :
    Calls Try.prog 12 #[cfgv a b c d e f g, soupv A1 A2 A3 c1 c2 c3 s] w fun en w' => en = .returned (.int .i64 (soupC a b c d e f g s)) ∧ Below w.heap.size w w' := by
  obtain ⟨l1, l2, l3⟩ := hl
  obtain ⟨u1, eu1, bu1, ku1⟩ := alloc_step w (.cells #[.int .i64 a, .int .i64 b, .int .i64 c, .int .i64 d, .int .i64 e, .int .i64 f, .int .i64 g] 23)
  obtain ⟨u2, eu2, bu2, ku2⟩ := alloc_step u1 (.cells #[.slice A1 s.ts.length c1, .slice A2 s.bs.length c2, .slice A3 s.hs.length c3] 28)
  have hb2 := bu1.trans (bu2.mono bu1.size)
  have ku1' := (bu2.block _ (lt_of_block ku1)).trans ku1
  obtain ⟨q0, q1, q2, q3, q4, q5, q6⟩ := box7 ku1'
  have hck := fun w => cfg_any a b c d e f g w
  have hso : Hid (soupC a b c d e f g s = if checkF a b c d e f g = 0 then (if rowsOk f g s = true then 0 else 2) else 20) := Lib.hid rfl
  generalize checkF a b c d e f g = ce at hck hso
  unfold cfgv soupv
  refine (callsIn_wide (n := 6)).1 ?_
  refine callsIn_of_wp Try.func12 rfl trivial ?_
  simp only [Try.ntmps12, List.size_toArray, List.length_cons, List.length_nil, Nat.reduceAdd, Nat.reduceSub, Array.replicate_succ, Array.replicate_zero, List.push_toArray, List.append_toArray, List.nil_append, List.cons_append]
  gi_wp2
  refine ⟨trivial, (callsIn_wide.2 (hck _)).mono ?_⟩
  rintro en w3 ⟨rfl, hb3⟩
  have hbw3 := hb2.trans (hb3.mono hb2.size)
  clear q0 q1 q2 q3 q4 q5 q6
  have m1 := (hb3.block _ (lt_of_block ku1')).trans ku1'
  have m2 := (hb3.block _ (lt_of_block ku2)).trans ku2
  by_cases hc : ce = 0
  · subst hc
    obtain ⟨q0, q1, q2, q3, q4, q5, q6⟩ := box7 m1
    obtain ⟨s0, s1, s2⟩ := box3 m2
    have z1 := lt_of_block m1
    have z2 := lt_of_block m2
    have hrk : Hid (rowsOk f g s = (rowOk T10.id (triMay f g) 200 s.ts && rowOk B8.id (boxMay f g) 16 s.bs && rowOk H10.id (hopMay f g) 16 s.hs)) := Lib.hid rfl
    gi_wp2
    have hS : (CellsL [(⟨w.heap.size, 5, none⟩, .int .i64 f), (⟨w.heap.size, 6, none⟩, .int .i64 g), (⟨u1.heap.size, 0, none⟩, .slice A1 s.ts.length c1)]) (w3.drew) := ⟨q5, q6, s0, trivial⟩
    refine wpIn_region_ord [(0, true), (1, true), (2, true), (3, true), (5, true), (6, true), (4, false), (7, false), (8, true)] (CellsL [(⟨w.heap.size, 5, none⟩, .int .i64 f), (⟨w.heap.size, 6, none⟩, .int .i64 g), (⟨u1.heap.size, 0, none⟩, .slice A1 s.ts.length c1)]) (fun _ => trivial) rfl (by first | exact then_put rfl | (intro c d v a w h; cases d <;> exact h)) (by kernel_rfl) ?_
    simp only [List.length_cons, List.length_nil, Nat.reduceAdd, List.drop_succ_cons, List.drop_zero]
    iterate 6 (apply wpOrd_quiet rfl hS rfl; (intro w' hw'; obtain ⟨q0, q1, q2, _⟩ := hw'; go_simp; exact rfl); go_simp)
    refine wpOrd_move rfl rfl ?_
    go_simp
    refine ⟨trivial, (callsIn_wide.2 (tris_any f g _)).mono ?_⟩
    rintro en w4 ⟨⟨xa, xb, rfl, hma⟩, hd4⟩
    have hb4 : Below w3.heap.size w3 w4 := ⟨hd4.os, hd4.tape, hd4.output, hd4.size, hd4.block⟩
    have hbw4 := hbw3.trans (hb4.mono hbw3.size)
    replace hS := CellsL.keep hd4 hS ⟨z1, z1, z2, trivial⟩
    unfold listv
    refine ⟨hS, ?_⟩
    go_simp
    refine wpOrd_move rfl rfl ?_
    go_simp
    refine ⟨trivial, (callsIn_wide.2 (checkTri_any (triMay f g) xa xb 200 40 s.ts A1 c1 w4 hma ((hs.t.below hbw4).more hbw4.size) l1)).mono ?_⟩
    rintro en w5 ⟨rfl, hb5⟩
    have hbw5 := hbw4.trans (hb5.mono hbw4.size)
    replace hS := CellsL.keep hb5 hS ⟨Nat.lt_of_lt_of_le z1 hb4.size, Nat.lt_of_lt_of_le z1 hb4.size, Nat.lt_of_lt_of_le z2 hb4.size, trivial⟩
    refine ⟨hS, ?_⟩
    go_simp
    iterate 1 (apply wpOrd_quiet rfl hS rfl; (intro w' hw'; obtain ⟨q0, q1, q2, _⟩ := hw'; go_simp; exact rfl); go_simp)
    refine wpOrd_nil ?_
    cases hr1 : rowOk T10.id (triMay f g) 200 s.ts with
    | false =>
      have hv : Hid (soupC a b c d e f g s = 2) := Lib.hid (by rw [hso.out]; simp [hrk.out, hr1])
      replace hr1 := Lib.hid hr1
      clear hS
      gi_wp2
      go_ret
      exact ⟨by rw [hv.out]; rfl, hbw5⟩
    | true =>
      replace hr1 := Lib.hid hr1
      clear hS q0 q1 q2 q3 q4 q5 q6 s0 s1 s2
      have hb35 := hb4.trans (hb5.mono hb4.size)
      have n1 := (hb35.block _ z1).trans m1
      have n2 := (hb35.block _ z2).trans m2
      obtain ⟨q0, q1, q2, q3, q4, q5, q6⟩ := box7 n1
      obtain ⟨s0, s1, s2⟩ := box3 n2
      have z3 := lt_of_block n1
      have z4 := lt_of_block n2
      gi_wp2
      have hS : (CellsL [(⟨w.heap.size, 0, none⟩, .int .i64 a), (⟨w.heap.size, 1, none⟩, .int .i64 b), (⟨w.heap.size, 2, none⟩, .int .i64 c), (⟨w.heap.size, 3, none⟩, .int .i64 d), (⟨w.heap.size, 4, none⟩, .int .i64 e), (⟨w.heap.size, 5, none⟩, .int .i64 f), (⟨w.heap.size, 6, none⟩, .int .i64 g), (⟨u1.heap.size, 1, none⟩, .slice A2 s.bs.length c2)]) (w5.drew) := ⟨q0, q1, q2, q3, q4, q5, q6, s1, trivial⟩
      refine wpIn_region_ord [(0, true), (2, true), (3, true), (1, false), (4, false), (5, true)] (CellsL [(⟨w.heap.size, 0, none⟩, .int .i64 a), (⟨w.heap.size, 1, none⟩, .int .i64 b), (⟨w.heap.size, 2, none⟩, .int .i64 c), (⟨w.heap.size, 3, none⟩, .int .i64 d), (⟨w.heap.size, 4, none⟩, .int .i64 e), (⟨w.heap.size, 5, none⟩, .int .i64 f), (⟨w.heap.size, 6, none⟩, .int .i64 g), (⟨u1.heap.size, 1, none⟩, .slice A2 s.bs.length c2)]) (fun _ => trivial) rfl (by first | exact then_put rfl | (intro c d v a w h; cases d <;> exact h)) (by kernel_rfl) ?_
      simp only [List.length_cons, List.length_nil, Nat.reduceAdd, List.drop_succ_cons, List.drop_zero]
      iterate 3 (apply wpOrd_quiet rfl hS rfl; (intro w' hw'; obtain ⟨q0, q1, q2, q3, q4, q5, q6, q7, _⟩ := hw'; go_simp; exact rfl); go_simp)
      refine wpOrd_move rfl rfl ?_
      go_simp
      refine ⟨trivial, (callsIn_wide.2 (boxes_any a b c d e f g _)).mono ?_⟩
      rintro en w6 ⟨⟨xc, rfl, hmb⟩, hd6⟩
      have hb6 : Below w5.heap.size w5 w6 := ⟨hd6.os, hd6.tape, hd6.output, hd6.size, hd6.block⟩
      have hbw6 := hbw5.trans (hb6.mono hbw5.size)
      replace hS := CellsL.keep hd6 hS ⟨z3, z3, z3, z3, z3, z3, z3, z4, trivial⟩
      unfold listv
      refine ⟨hS, ?_⟩
      go_simp
      refine wpOrd_move rfl rfl ?_
      go_simp
      refine ⟨trivial, (callsIn_wide.2 (checkBox_any (boxMay f g) xc 16 2 s.bs A2 c2 w6 hmb ((hs.b.below hbw6).more hbw6.size) l2)).mono ?_⟩
      rintro en w7 ⟨rfl, hb7⟩
      have hbw7 := hbw6.trans (hb7.mono hbw6.size)
      have y3 := Nat.lt_of_lt_of_le z3 hb6.size
      have y4 := Nat.lt_of_lt_of_le z4 hb6.size
      replace hS := CellsL.keep hb7 hS ⟨y3, y3, y3, y3, y3, y3, y3, y4, trivial⟩
      refine ⟨hS, ?_⟩
      go_simp
      iterate 1 (apply wpOrd_quiet rfl hS rfl; (intro w' hw'; obtain ⟨q0, q1, q2, q3, q4, q5, q6, q7, _⟩ := hw'; go_simp; exact rfl); go_simp)
      refine wpOrd_nil ?_
      cases hr2 : rowOk B8.id (boxMay f g) 16 s.bs with
      | false =>
        have hv : Hid (soupC a b c d e f g s = 2) := Lib.hid (by rw [hso.out]; simp [hrk.out, hr1.out, hr2])
        replace hr2 := Lib.hid hr2
        clear hS
        gi_wp2
        go_ret
        exact ⟨by rw [hv.out]; rfl, hbw7⟩
      | true =>
        replace hr2 := Lib.hid hr2
        clear hS q0 q1 q2 q3 q4 q5 q6 s0 s1 s2
        have hb57 := hb6.trans (hb7.mono hb6.size)
        have o1 := (hb57.block _ z3).trans n1
        have o2 := (hb57.block _ z4).trans n2
        obtain ⟨q0, q1, q2, q3, q4, q5, q6⟩ := box7 o1
        obtain ⟨s0, s1, s2⟩ := box3 o2
        have z5 := lt_of_block o1
        have z6 := lt_of_block o2
        gi_wp2
        have hS : (CellsL [(⟨w.heap.size, 0, none⟩, .int .i64 a), (⟨w.heap.size, 1, none⟩, .int .i64 b), (⟨w.heap.size, 2, none⟩, .int .i64 c), (⟨w.heap.size, 3, none⟩, .int .i64 d), (⟨w.heap.size, 4, none⟩, .int .i64 e), (⟨w.heap.size, 5, none⟩, .int .i64 f), (⟨w.heap.size, 6, none⟩, .int .i64 g), (⟨u1.heap.size, 2, none⟩, .slice A3 s.hs.length c3)]) (w7.drew) := ⟨q0, q1, q2, q3, q4, q5, q6, s2, trivial⟩
        refine wpIn_region_ord [(0, true), (2, true), (3, true), (1, false), (4, false), (5, true)] (CellsL [(⟨w.heap.size, 0, none⟩, .int .i64 a), (⟨w.heap.size, 1, none⟩, .int .i64 b), (⟨w.heap.size, 2, none⟩, .int .i64 c), (⟨w.heap.size, 3, none⟩, .int .i64 d), (⟨w.heap.size, 4, none⟩, .int .i64 e), (⟨w.heap.size, 5, none⟩, .int .i64 f), (⟨w.heap.size, 6, none⟩, .int .i64 g), (⟨u1.heap.size, 2, none⟩, .slice A3 s.hs.length c3)]) (fun _ => trivial) rfl (by first | exact then_put rfl | (intro c d v a w h; cases d <;> exact h)) (by kernel_rfl) ?_
        simp only [List.length_cons, List.length_nil, Nat.reduceAdd, List.drop_succ_cons, List.drop_zero]
        iterate 3 (apply wpOrd_quiet rfl hS rfl; (intro w' hw'; obtain ⟨q0, q1, q2, q3, q4, q5, q6, q7, _⟩ := hw'; go_simp; exact rfl); go_simp)
        refine wpOrd_move rfl rfl ?_
        go_simp
        refine ⟨trivial, (callsIn_wide.2 (hops_any a b c d e f g _)).mono ?_⟩
        rintro en w8 ⟨⟨xd, rfl, hmh⟩, hd8⟩
        have hb8 : Below w7.heap.size w7 w8 := ⟨hd8.os, hd8.tape, hd8.output, hd8.size, hd8.block⟩
        have hbw8 := hbw7.trans (hb8.mono hbw7.size)
        replace hS := CellsL.keep hd8 hS ⟨z5, z5, z5, z5, z5, z5, z5, z6, trivial⟩
        unfold listv
        refine ⟨hS, ?_⟩
        go_simp
        refine wpOrd_move rfl rfl ?_
        go_simp
        refine ⟨trivial, (callsIn_wide.2 (checkHop_any (hopMay f g) xd 16 2 s.hs A3 c3 w8 hmh ((hs.h.below hbw8).more hbw8.size) l3)).mono ?_⟩
        rintro en w9 ⟨rfl, hb9⟩
        have hbw9 := hbw8.trans (hb9.mono hbw8.size)
        have y5 := Nat.lt_of_lt_of_le z5 hb8.size
        have y6 := Nat.lt_of_lt_of_le z6 hb8.size
        replace hS := CellsL.keep hb9 hS ⟨y5, y5, y5, y5, y5, y5, y5, y6, trivial⟩
        refine ⟨hS, ?_⟩
        go_simp
        iterate 1 (apply wpOrd_quiet rfl hS rfl; (intro w' hw'; obtain ⟨q0, q1, q2, q3, q4, q5, q6, q7, _⟩ := hw'; go_simp; exact rfl); go_simp)
        refine wpOrd_nil ?_
        cases hr3 : rowOk H10.id (hopMay f g) 16 s.hs with
        | false =>
          have hv : Hid (soupC a b c d e f g s = 2) := Lib.hid (by rw [hso.out]; simp [hrk.out, hr1.out, hr2.out, hr3])
          replace hr3 := Lib.hid hr3
          clear hS
          gi_wp2
          go_ret
          exact ⟨by rw [hv.out]; rfl, hbw9⟩
        | true =>
          have hv : Hid (soupC a b c d e f g s = 0) := Lib.hid (by rw [hso.out]; simp [hrk.out, hr1.out, hr2.out, hr3])
          replace hr3 := Lib.hid hr3
          clear hS
          gi_wp2
          go_ret
          exact ⟨by rw [hv.out]; rfl, hbw9⟩
  · have hv : Hid (soupC a b c d e f g s = 20) := Lib.hid (by rw [hso.out, if_neg hc])
    have hc' : (ce != 0) = true := by simpa using hc
    clear hc
    gi_wp2
    go_ret
    exact ⟨by rw [hv.out]; rfl, hbw3⟩
end Go.Proofs.Ytpbpbijjkmjjjaa
