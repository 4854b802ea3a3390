/- open.Check and links.look, by walks. No conditions but that the grid lies where it is said to lie. -/
import Derived.Test.YtcdfojfafnecdaaMc
import Derived.RangeFuncRecord
namespace Go.Proofs.Ytcdfojfafnecdaa
open Go Go.RowKit Go.Sx
def cfgv (a b c d e f g : Int) : Value := .agg #[.int .i64 a, .int .i64 b, .int .i64 c, .int .i64 d, .int .i64 e, .int .i64 f, .int .i64 g]
/-- It returns an error's number, which is 0 just where p. -/
def ErrIff (e : Ending) (p : Prop) : Prop := ∃ n, e = .returned (.int .i64 n) ∧ (n = 0 ↔ p)
theorem chk_any (a b c d e f g : Int) (w : World) : Calls Try.prog 32 #[cfgv a b c d e f g] w fun en w' => en = .returned (.int .i64 (checkF a b c d e f g)) ∧ Below w.heap.size w w' :=
  checkC_holds [.int .i64 a, .int .i64 b, .int .i64 c, .int .i64 d, .int .i64 e, .int .i64 f, .int .i64 g] ⟨a, _, rfl, b, _, rfl, c, _, rfl, d, _, rfl, e, _, rfl, f, _, rfl, g, _, rfl, rfl⟩ w
set_option maxHeartbeats 1000000 in
set_option maxRecDepth 100000 in
theorem ocheck_any (X Z W D : Int) (rows : List (List V3)) (A : Option Addr) (cap : Nat) (w : World) (hr : RowsAt w w.heap.size A rows) (hl : lensOk rows) :
    Calls Try.prog 48 #[.agg #[.int .i64 X, .int .i64 Z, .int .i64 W, .int .i64 D, .slice A rows.length cap]] w fun e w' => ErrIff e (gridOk X Z W D rows) ∧ Below w.heap.size w w' := by
  have hlt : ∀ o : Obj, Below w.heap.size w (w.alloc o) := fun o => (Below.refl _ _).alloc (Nat.le_refl _) _
  have hg := GAt.new X Z W D A rows.length cap w 26
  have hm := may_any w.heap.size X Z W D rows A cap _ hg ((hr.below (hlt _)).more (by simp)) hl
  clear hg
  go_enter Try.func48, Try.ntmps48
  go_wp2_with (go_at_call 51; refine hm.mono ?_; rintro en w1 ⟨⟨b, rfl, hbi⟩, hb1⟩)
  · have hbf : b = false := by cases b; rfl; simp_all
    subst hbf
    go_ret
    exact ⟨⟨2, rfl, ⟨fun h => by simp at h, fun h => by have := hbi.2 h; simp at this⟩⟩, (hlt _).trans (hb1.mono (by simp))⟩
  · have hbt : b = true := by cases b; simp_all; rfl
    subst hbt
    go_ret
    exact ⟨⟨0, rfl, ⟨fun _ => hbi.1 rfl, fun _ => rfl⟩⟩, (hlt _).trans (hb1.mono (by simp))⟩
theorem results_m {fn : Func} {t u : Tmp} (h : fn.results = #[.cell t 83, .tmp u]) (tmps : Array Value) (w : World) (B : Nat) (v0 v1 v2 v3 v4 v5 v6 v7 : Value) (ht : tmps.getD t undef = .pointer (some ⟨B, 0, none⟩))
    (c0 : w.cell? ⟨B, 0, none⟩ = some v0) (c1 : w.cell? ⟨B, 1, none⟩ = some v1) (c2 : w.cell? ⟨B, 2, none⟩ = some v2) (c3 : w.cell? ⟨B, 3, none⟩ = some v3) (c4 : w.cell? ⟨B, 4, none⟩ = some v4) (c5 : w.cell? ⟨B, 5, none⟩ = some v5) (c6 : w.cell? ⟨B, 6, none⟩ = some v6) (c7 : w.cell? ⟨B, 7, none⟩ = some v7) :
    (results fn tmps).run Try.prog w = .ok (.tuple #[.agg #[v0, v1, v2, v3, v4, v5, v6, v7], tmps.getD u undef]) w := by
  have ht' : tmps[t]?.getD undef = .pointer (some ⟨B, 0, none⟩) := by simpa using ht
  simp [results, h, ht', c0, c1, c2, c3, c4, c5, c6, c7, go_sem]
/-- A model's box that holds nothing yet. -/
structure MBox (B : Nat) (w : World) : Prop where
  c0 : w.cell? ⟨B, 0, none⟩ = some (.int .i64 0)
  c1 : w.cell? ⟨B, 1, none⟩ = some (.int .i64 0)
  c2 : w.cell? ⟨B, 2, none⟩ = some (.int .i64 0)
  c3 : w.cell? ⟨B, 3, none⟩ = some (.int .i64 0)
  c4 : w.cell? ⟨B, 4, none⟩ = some (.int .i64 0)
  c5 : w.cell? ⟨B, 5, none⟩ = some (.int .i64 0)
  c6 : w.cell? ⟨B, 6, none⟩ = some (.int .i64 0)
  c7 : w.cell? ⟨B, 7, none⟩ = some (.pointer none)
  f0 : w.frozen? ⟨B, 0, none⟩ = false
  f1 : w.frozen? ⟨B, 1, none⟩ = false
  f2 : w.frozen? ⟨B, 2, none⟩ = false
  f3 : w.frozen? ⟨B, 3, none⟩ = false
  f4 : w.frozen? ⟨B, 4, none⟩ = false
  f5 : w.frozen? ⟨B, 5, none⟩ = false
  f6 : w.frozen? ⟨B, 6, none⟩ = false
  f7 : w.frozen? ⟨B, 7, none⟩ = false
  lt : B < w.heap.size
theorem MBox.of {B : Nat} {w : World} (h : w.heap[B]? = some (.cells #[.int .i64 0, .int .i64 0, .int .i64 0, .int .i64 0, .int .i64 0, .int .i64 0, .int .i64 0, .pointer none] 83 (0, 0))) : MBox B w := by
  refine ⟨?_, ?_, ?_, ?_, ?_, ?_, ?_, ?_, ?_, ?_, ?_, ?_, ?_, ?_, ?_, ?_, (Array.getElem?_eq_some_iff.1 h).1⟩
  iterate 8 (simp [World.cell?, h])
  iterate 8 (simp [World.frozen?, h])
theorem set8_below {w w2 : World} (h : Below w.heap.size w w2) {B : Nat} (hB : w.heap.size ≤ B) {v0 v1 v2 v3 v4 v5 v6 v7 : Value} :
    Below w.heap.size w ((((((((w2.setCell ⟨B, 0, none⟩ v0).setCell ⟨B, 1, none⟩ v1).setCell ⟨B, 2, none⟩ v2).setCell ⟨B, 3, none⟩ v3).setCell ⟨B, 4, none⟩ v4).setCell ⟨B, 5, none⟩ v5).setCell ⟨B, 6, none⟩ v6).setCell ⟨B, 7, none⟩ v7) :=
  (((((((h.setCell (p := ⟨B, 0, none⟩) hB _).setCell (p := ⟨B, 1, none⟩) hB _).setCell (p := ⟨B, 2, none⟩) hB _).setCell (p := ⟨B, 3, none⟩) hB _).setCell (p := ⟨B, 4, none⟩) hB _).setCell (p := ⟨B, 5, none⟩) hB _).setCell (p := ⟨B, 6, none⟩) hB _).setCell (p := ⟨B, 7, none⟩) hB _
def CfgB (B : Nat) (a b c d e f g : Int) (w : World) : Prop :=
  w.cell? ⟨B, 0, none⟩ = some (.int .i64 a) ∧ w.cell? ⟨B, 1, none⟩ = some (.int .i64 b) ∧ w.cell? ⟨B, 2, none⟩ = some (.int .i64 c) ∧ w.cell? ⟨B, 3, none⟩ = some (.int .i64 d) ∧ w.cell? ⟨B, 4, none⟩ = some (.int .i64 e) ∧ w.cell? ⟨B, 5, none⟩ = some (.int .i64 f) ∧ w.cell? ⟨B, 6, none⟩ = some (.int .i64 g)
theorem CfgB.new (a b c d e f g : Int) (w : World) (t : TypeId) (o : Obj) : CfgB w.heap.size a b c d e f g ((w.alloc (.cells #[.int .i64 a, .int .i64 b, .int .i64 c, .int .i64 d, .int .i64 e, .int .i64 f, .int .i64 g] t)).alloc o) := by
  refine ⟨?_, ?_, ?_, ?_, ?_, ?_, ?_⟩ <;> (rw [World.cell?_alloc_past _ _ _ (by simp)]; exact World.cell?_alloc_at _ _ _ _ rfl)
theorem CfgB.below {B N : Nat} {a b c d e f g : Int} {w w' : World} (h : CfgB B a b c d e f g w) (hb : Below N w w') (hN : B < N) : CfgB B a b c d e f g w' := by
  obtain ⟨h0, h1, h2, h3, h4, h5, h6⟩ := h
  have e0 : ∀ q, w'.cell? ⟨B, q, none⟩ = w.cell? ⟨B, q, none⟩ := fun q => hb.cell (by exact hN)
  exact ⟨(e0 _).trans h0, (e0 _).trans h1, (e0 _).trans h2, (e0 _).trans h3, (e0 _).trans h4, (e0 _).trans h5, (e0 _).trans h6⟩
/-- What look tells: the model, or an error. -/
def LookRet (en : Ending) (a b c d e f g : Int) (B : Nat) (p : Prop) : Prop :=
  (p ∧ en = .returned (.tuple #[.agg #[.int .i64 a, .int .i64 b, .int .i64 c, .int .i64 d, .int .i64 e, .int .i64 f, .int .i64 g, .pointer (some ⟨B, 0, none⟩)], .int .i64 0])) ∨
  (¬ p ∧ ∃ er, er ≠ 0 ∧ en = .returned (.tuple #[.agg #[.int .i64 0, .int .i64 0, .int .i64 0, .int .i64 0, .int .i64 0, .int .i64 0, .int .i64 0, .pointer none], .int .i64 er]))
set_option maxHeartbeats 1000000 in
set_option maxRecDepth 100000 in
theorem look_any (a b c d e f g : Int) (B : Nat) (X Z W D : Int) (rows : List (List V3)) (A : Option Addr) (cap : Nat) (w : World) (hg : GAt B X Z W D A rows.length cap w) (hr : RowsAt w w.heap.size A rows) (hl : lensOk rows) :
    Calls Try.prog 37 #[cfgv a b c d e f g, .pointer (some ⟨B, 0, none⟩)] w fun en w' =>
      LookRet en a b c d e f g B (checkF a b c d e f g = 0 ∧ gridOk X Z W D rows) ∧ Below w.heap.size w w' := by
  have h1 := fun w => chk_any a b c d e f g w
  unfold cfgv at h1 ⊢
  have hlt2 : ∀ o o' : Obj, Below w.heap.size w ((w.alloc o).alloc o') := fun o o' => ((Below.refl _ _).alloc (Nat.le_refl _) _).alloc (by simp) _
  go_enter Try.func37, Try.ntmps37
  have hblk : ((w.alloc (.cells #[.int .i64 a, .int .i64 b, .int .i64 c, .int .i64 d, .int .i64 e, .int .i64 f, .int .i64 g] 23)).alloc (.cells #[.int .i64 0, .int .i64 0, .int .i64 0, .int .i64 0, .int .i64 0, .int .i64 0, .int .i64 0, .pointer none] 83)).heap[w.heap.size + 1]? = some (.cells #[.int .i64 0, .int .i64 0, .int .i64 0, .int .i64 0, .int .i64 0, .int .i64 0, .int .i64 0, .pointer none] 83 (0, 0)) := by
    have h2 := World.alloc_heap_new (w.alloc (.cells #[.int .i64 a, .int .i64 b, .int .i64 c, .int .i64 d, .int .i64 e, .int .i64 f, .int .i64 g] 23)) (.cells #[.int .i64 0, .int .i64 0, .int .i64 0, .int .i64 0, .int .i64 0, .int .i64 0, .int .i64 0, .pointer none] 83)
    simpa using h2
  by_cases hk : checkF a b c d e f g = 0
  · rw [hk] at h1
    obtain ⟨g0, g1, g2, g3, g4, g5⟩ := id hg
    go_wp2_with (first
      | (go_at_call 32; refine (h1 _).mono ?_; rintro en w1 ⟨rfl, hb1⟩; have hb01 := (hlt2 _ _).trans (hb1.mono (by simp <;> omega)); obtain ⟨g10, g11, g12, g13, g14, g15⟩ := hg.below hb01 g5; have hr1 := (hr.below hb01).more hb01.size; have hblk1 := (hb1.block (w.heap.size + 1) (by simp)).trans hblk; have hcf : CfgB w.heap.size a b c d e f g w1 := CfgB.below (CfgB.new a b c d e f g w _ _) hb1 (by simp <;> omega); obtain ⟨q0, q1, q2, q3, q4, q5, q6⟩ := id hcf)
      | (go_at_call 48; refine (ocheck_any X Z W D rows A cap _ hr1 hl).mono ?_; rintro en w2 ⟨⟨er, rfl, hei⟩, hb2⟩; have hb02 := hb01.trans (hb2.mono hb01.size); obtain ⟨c0, c1, c2, c3, c4, c5, c6, c7, f0, f1, f2, f3, f4, f5, f6, f7, lt⟩ := MBox.of ((hb2.block (w.heap.size + 1) (by have := hb1.size; simp at this; omega)).trans hblk1); obtain ⟨r0, r1, r2, r3, r4, r5, r6⟩ := CfgB.below hcf hb2 (by have := hb1.size; simp at this; omega)))
    · have hne : er ≠ 0 := by simp_all
      refine bodyPost_ret (results_m rfl _ _ (w.heap.size + 1) (.int .i64 0) (.int .i64 0) (.int .i64 0) (.int .i64 0) (.int .i64 0) (.int .i64 0) (.int .i64 0) (.pointer none) rfl ?_ ?_ ?_ ?_ ?_ ?_ ?_ ?_) rfl ?_
      iterate 8 (go_simp)
      exact ⟨.inr ⟨fun h => hne (hei.2 h.2), 2, by decide, rfl⟩, set8_below hb02 (by omega)⟩
    · have hne : er = 0 := by simp_all
      refine bodyPost_ret (results_m rfl _ _ (w.heap.size + 1) (.int .i64 a) (.int .i64 b) (.int .i64 c) (.int .i64 d) (.int .i64 e) (.int .i64 f) (.int .i64 g) (.pointer (some ⟨B, 0, none⟩)) rfl ?_ ?_ ?_ ?_ ?_ ?_ ?_ ?_) rfl ?_
      iterate 8 (go_simp)
      exact ⟨.inl ⟨⟨hk, hei.1 hne⟩, rfl⟩, set8_below hb02 (by omega)⟩
  · have hk' : (checkF a b c d e f g != 0) = true := by simpa using hk
    go_wp2_with (go_at_call 32; refine (h1 _).mono ?_; rintro en w1 ⟨rfl, hb1⟩; obtain ⟨c0, c1, c2, c3, c4, c5, c6, c7, f0, f1, f2, f3, f4, f5, f6, f7, lt⟩ := MBox.of ((hb1.block (w.heap.size + 1) (by simp)).trans hblk))
    have hb01 := (hlt2 (.cells #[.int .i64 a, .int .i64 b, .int .i64 c, .int .i64 d, .int .i64 e, .int .i64 f, .int .i64 g] 23) (.cells #[.int .i64 0, .int .i64 0, .int .i64 0, .int .i64 0, .int .i64 0, .int .i64 0, .int .i64 0, .pointer none] 83)).trans (hb1.mono (by simp <;> omega))
    refine bodyPost_ret (results_m rfl _ _ (w.heap.size + 1) (.int .i64 0) (.int .i64 0) (.int .i64 0) (.int .i64 0) (.int .i64 0) (.int .i64 0) (.int .i64 0) (.pointer none) rfl ?_ ?_ ?_ ?_ ?_ ?_ ?_ ?_) rfl ?_
    iterate 8 (go_simp)
    exact ⟨.inr ⟨fun h => hk h.1, 20, by decide, rfl⟩, set8_below hb01 (by omega)⟩
end Go.Proofs.Ytcdfojfafnecdaa
