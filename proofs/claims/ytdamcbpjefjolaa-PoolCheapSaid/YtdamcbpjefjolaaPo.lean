/- pool.New$1: which of two items comes first, by a walk. No conditions. -/
import Derived.Test.YtdamcbpjefjolaaPl
import Derived.Test.YtdamcbpjefjolaaGe
namespace Go.Proofs.Ytdamcbpjefjolaa
open Go Go.RowKit Go.Sx
attribute [local go_sem] Oper.semAt_some
theorem compare_any (a b : Int) (w : World) : Calls Try.prog 24 #[.int .i64 a, .int .i64 b] w fun en w' => en = .returned (.int .i64 (compareF a b)) ∧ Below w.heap.size w w' :=
  compareC_holds [.int .i64 a, .int .i64 b] ⟨a, _, rfl, b, _, rfl, rfl⟩ w
theorem compare_val (a b : Int) : compareF a b = if a < b then -1 else if b < a then 1 else 0 := by
  simp only [compareF_eq, isNaNF_eq, beq_self_eq_true, Bool.not_true, cond_false]
  by_cases h : a < b <;> by_cases h' : b < a <;> simp [h, h']
set_option maxHeartbeats 1000000 in
set_option maxRecDepth 100000 in
theorem or2_any (a b : Int) (g c : Nat) (w : World) (h0 : w.cell? ⟨g, 0, none⟩ = some (.int .i64 a)) (h1 : w.cell? ⟨g, 1, none⟩ = some (.int .i64 b)) :
    Calls Try.prog 23 #[.slice (some ⟨g, 0, none⟩) 2 c] w fun en w' => en = .returned (.int .i64 (if a = 0 then b else a)) ∧ w = w' := by
  go_enter Try.func23, Try.ntmps23
  go_wp2
  go_loopw [8] (fun x wr => (x = .int .i64 0 ∨ x = .int .i64 1 ∧ a = 0 ∨ x = .int .i64 2 ∧ a = 0 ∧ b = 0) ∧ wr = w) (fun x _ => 2 - (intOf x).toNat)
  case atStart => exact ⟨.inl rfl, rfl⟩
  case round =>
    obtain ⟨hx, rfl⟩ := hrel
    rcases hx with rfl | ⟨rfl, ha⟩ | ⟨rfl, ha, hb⟩
    · by_cases ha : a = 0
      · subst ha
        go_wp2
        exact ⟨⟨.inr (.inl ⟨rfl, trivial⟩), trivial⟩, by decide⟩
      · go_wp2
        go_ret
        exact ⟨rfl, rfl⟩
    · subst ha
      by_cases hb : b = 0
      · subst hb
        go_wp2
        exact ⟨⟨.inr (.inr ⟨rfl, trivial, trivial⟩), trivial⟩, by decide⟩
      · go_wp2
        go_ret
        exact ⟨rfl, rfl⟩
    · subst ha; subst hb
      go_wp2
      go_ret
      exact ⟨rfl, rfl⟩
/-- Which of two items comes first. -/
def lessV (a b : V3) : Bool := decide (a.y < b.y) || (decide (a.y = b.y) && decide (a.x < b.x))
theorem lessV_val (a b : V3) : decide ((if compareF a.y b.y = 0 then compareF a.x b.x else compareF a.y b.y) < 0) = lessV a b := by
  unfold lessV
  simp only [compare_val]
  by_cases h1 : a.y < b.y
  · simp [h1]
  · by_cases h2 : b.y < a.y
    · simp [h1, h2, show ¬ a.y = b.y by omega]
    · have h3 : a.y = b.y := by omega
      by_cases h4 : a.x < b.x <;> by_cases h5 : b.x < a.x <;> simp [h3, h4, h5]
theorem or2_r {a b r : Int} (hr : (if a = 0 then b else a) = r) {g c : Nat} {w : World} (h0 : w.cell? ⟨g, 0, none⟩ = some (.int .i64 a)) (h1 : w.cell? ⟨g, 1, none⟩ = some (.int .i64 b)) :
    Calls Try.prog 23 #[.slice (some ⟨g, 0, none⟩) 2 c] w fun en w' => en = .returned (.int .i64 r) ∧ w = w' := by subst hr; exact or2_any a b g c w h0 h1
set_option maxHeartbeats 1000000 in
set_option maxRecDepth 100000 in
theorem less_any (a b : V3) (w : World) :
    Calls Try.prog 22 #[.agg #[.int .i64 a.x, .int .i64 a.y, .int .i64 a.z], .agg #[.int .i64 b.x, .int .i64 b.y, .int .i64 b.z]] w fun en w' => en = .returned (.bool (lessV a b)) ∧ Below w.heap.size w w' := by
  obtain ⟨r, hr⟩ : ∃ r, (if compareF a.y b.y = 0 then compareF a.x b.x else compareF a.y b.y) = r := ⟨_, rfl⟩
  have hv := lessV_val a b
  rw [hr] at hv
  refine (callsIn_wide (n := 6)).1 ?_
  refine callsIn_of_wp Try.func22 rfl trivial ?_
  simp only [Try.ntmps22, List.size_toArray, List.length_cons, List.length_nil, Nat.reduceAdd, Nat.reduceSub, Array.replicate_succ, Array.replicate_zero, List.push_toArray, List.append_toArray, List.nil_append, List.cons_append]
  gi_wp2
  obtain ⟨W, hW⟩ : ∃ W, W = ((w.alloc (.cells #[.int .i64 a.x, .int .i64 a.y, .int .i64 a.z] 30)).alloc (.cells #[.int .i64 b.x, .int .i64 b.y, .int .i64 b.z] 30)) := ⟨_, rfl⟩
  have hs : W.heap.size = w.heap.size + 2 := by rw [hW]; simp
  have hb : Below w.heap.size w W := by rw [hW]; exact ((Below.refl _ _).alloc (Nat.le_refl _) _).alloc (by simp) _
  have l0 : W.heap[w.heap.size]? = some (.cells #[.int .i64 a.x, .int .i64 a.y, .int .i64 a.z] 30) := by rw [hW]; exact two_alloc w _ _
  have l1 : W.heap[w.heap.size + 1]? = some (.cells #[.int .i64 b.x, .int .i64 b.y, .int .i64 b.z] 30) := by rw [hW]; exact alloc2_new w _ _
  rw [← hW]
  clear hW
  have hS : (CellsL [(⟨w.heap.size, 0, none⟩, .int .i64 a.x), (⟨w.heap.size, 1, none⟩, .int .i64 a.y), (⟨w.heap.size + 1, 0, none⟩, .int .i64 b.x), (⟨w.heap.size + 1, 1, none⟩, .int .i64 b.y)]) (W.drew) := ⟨cell_of l0 rfl, cell_of l0 rfl, cell_of l1 rfl, cell_of l1 rfl, trivial⟩
  refine wpIn_region_ord [(0, true), (1, true), (2, true), (3, true), (5, true), (6, true), (7, true), (8, true), (4, false), (9, false), (10, false), (11, false), (12, true)] (CellsL [(⟨w.heap.size, 0, none⟩, .int .i64 a.x), (⟨w.heap.size, 1, none⟩, .int .i64 a.y), (⟨w.heap.size + 1, 0, none⟩, .int .i64 b.x), (⟨w.heap.size + 1, 1, none⟩, .int .i64 b.y)]) (fun _ => trivial) rfl (by first | exact then_put rfl | (intro c d v a w h; cases d <;> exact h)) (by kernel_rfl) ?_
  simp only [List.length_cons, List.length_nil, Nat.reduceAdd, List.drop_succ_cons, List.drop_zero]
  iterate 8 (apply wpOrd_quiet rfl hS rfl; (intro w' hw'; obtain ⟨q0, q1, q2, q3, _⟩ := hw'; go_simp; exact rfl); go_simp)
  refine wpOrd_move rfl rfl ?_
  go_simp
  refine ⟨trivial, (callsIn_wide.2 (compare_any _ _ _)).mono ?_⟩
  rintro en w5 ⟨rfl, hb5⟩
  have hlt : LtL [(⟨w.heap.size, 0, none⟩, .int .i64 a.x), (⟨w.heap.size, 1, none⟩, .int .i64 a.y), (⟨w.heap.size + 1, 0, none⟩, .int .i64 b.x), (⟨w.heap.size + 1, 1, none⟩, .int .i64 b.y)] W.heap.size := ⟨by show w.heap.size < _; omega, by show w.heap.size < _; omega, by show w.heap.size + 1 < _; omega, by show w.heap.size + 1 < _; omega, trivial⟩
  replace hS := hS.keep hb5 hlt
  replace hb : Below w.heap.size w w5 := hb.drew.trans (hb5.mono hb.size)
  have hs5 := hb5.size
  refine ⟨hS, ?_⟩
  go_simp
  refine wpOrd_move rfl rfl ?_
  go_simp
  refine ⟨trivial, (callsIn_wide.2 (compare_any _ _ _)).mono ?_⟩
  rintro en w6 ⟨rfl, hb6⟩
  replace hS := hS.keep hb6 (hlt.mono hs5)
  replace hb : Below w.heap.size w w6 := hb.trans (hb6.mono hb.size)
  refine ⟨hS, ?_⟩
  go_simp
  refine wpOrd_move rfl rfl ?_
  go_simp
  replace hb : Below w.heap.size w (w6.alloc (.cells #[.int .i64 (compareF a.y b.y), .int .i64 (compareF a.x b.x)] 3)) := hb.alloc hb.size _
  have o0 : (w6.alloc (.cells #[.int .i64 (compareF a.y b.y), .int .i64 (compareF a.x b.x)] 3)).cell? ⟨w6.heap.size, 0, none⟩ = some (.int .i64 (compareF a.y b.y)) := cell_of (World.alloc_heap_new _ _) rfl
  have o1 : (w6.alloc (.cells #[.int .i64 (compareF a.y b.y), .int .i64 (compareF a.x b.x)] 3)).cell? ⟨w6.heap.size, 1, none⟩ = some (.int .i64 (compareF a.x b.x)) := cell_of (World.alloc_heap_new _ _) rfl
  replace hS := hS.keep ((Below.refl _ _).alloc (Nat.le_refl _) (.cells #[.int .i64 (compareF a.y b.y), .int .i64 (compareF a.x b.x)] 3)) ((hlt.mono hs5).mono hb6.size)
  refine ⟨hS, ?_⟩
  go_simp
  refine wpOrd_move rfl rfl ?_
  go_simp
  refine ⟨trivial, (callsIn_wide.2 (or2_r hr o0 o1)).mono ?_⟩
  rintro en w7 ⟨rfl, rfl⟩
  refine ⟨hS, ?_⟩
  go_simp
  iterate 1 (apply wpOrd_quiet rfl hS rfl; (intro w' hw'; obtain ⟨q0, q1, q2, q3, _⟩ := hw'; go_simp; exact rfl); go_simp)
  refine wpOrd_nil ?_
  gi_wp2
  go_ret
  exact ⟨by rw [← hv]; rfl, hb⟩
end Go.Proofs.Ytdamcbpjefjolaa
