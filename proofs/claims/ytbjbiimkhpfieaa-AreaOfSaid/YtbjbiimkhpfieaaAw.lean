/- AreaOf by a walk: its call tells true. No conditions but that the boxes lie where they are said to lie. -/
import Derived.Test.YtbjbiimkhpfieaaAt
import Derived.Test.YtbjbiimkhpfieaaAu
namespace Go.Proofs.Ytbjbiimkhpfieaa
open Go Go.RowKit Go.Sx
attribute [local go_sem] Oper.semAt_some
def SA (h : Nat) (b : B8) (x z y : Int) (W0 w' : World) : Prop :=
  w'.cell? ⟨h, 0, none⟩ = some (.int .i64 b.id) ∧ w'.cell? ⟨h, 1, none⟩ = some (.int .i64 b.x0) ∧ w'.cell? ⟨h, 2, none⟩ = some (.int .i64 b.z0) ∧ w'.cell? ⟨h, 3, none⟩ = some (.int .i64 b.x1) ∧ w'.cell? ⟨h, 4, none⟩ = some (.int .i64 b.z1) ∧ w'.cell? ⟨h, 5, none⟩ = some (.int .i64 b.y0) ∧ w'.cell? ⟨h, 6, none⟩ = some (.int .i64 b.y1) ∧ w'.cell? ⟨h, 7, none⟩ = some (.int .i64 b.ar) ∧ w'.cell? ⟨h + 1, 0, none⟩ = some (.int .i64 x) ∧ w'.cell? ⟨h + 1, 1, none⟩ = some (.int .i64 z) ∧ w'.cell? ⟨h + 1, 2, none⟩ = some (.int .i64 y) ∧ Below (h + 2) W0 w' ∧ h + 2 ≤ w'.heap.size
theorem SA.below {h : Nat} {b : B8} {x z y : Int} {W0 w' : World} (k : SA h b x z y W0 w') : Below (h + 2) W0 w' := k.2.2.2.2.2.2.2.2.2.2.2.1
theorem SA.keep {h : Nat} {b : B8} {x z y : Int} {W0 w' w2 : World} (k : SA h b x z y W0 w') (hb : Below w'.heap.size w' w2) : SA h b x z y W0 w2 := by
  obtain ⟨a0, a1, a2, a3, a4, a5, a6, a7, b0, b1, b2, c, hs⟩ := k
  have e : ∀ j q, j < h + 2 → w2.cell? ⟨j, q, none⟩ = w'.cell? ⟨j, q, none⟩ := fun j q hj => hb.cell (by show j < _; omega)
  exact ⟨(e _ _ (by omega)).trans a0, (e _ _ (by omega)).trans a1, (e _ _ (by omega)).trans a2, (e _ _ (by omega)).trans a3, (e _ _ (by omega)).trans a4, (e _ _ (by omega)).trans a5, (e _ _ (by omega)).trans a6, (e _ _ (by omega)).trans a7,
    (e _ _ (by omega)).trans b0, (e _ _ (by omega)).trans b1, (e _ _ (by omega)).trans b2, c.trans (hb.mono hs), Nat.le_trans hs hb.size⟩
set_option maxHeartbeats 4000000 in
set_option maxRecDepth 100000 in
theorem aof_any (l : List B8) (A : Option Addr) (cap : Nat) (b : B8) (x z y : Int) (w : World) (hr : Reads w w.heap.size 8 A l.length (bcs l)) (hl : l.length ≤ 9223372036854775807) :
    Calls Try.prog 4 #[.slice A l.length cap, .agg b.cs.toArray, .agg #[.int .i64 x, .int .i64 z, .int .i64 y]] w fun en w' => en = .returned (.bool true) ∧ Below w.heap.size w w' := by
  obtain ⟨W0, hW0⟩ : ∃ W0, (w.alloc (.cells b.cs.toArray 45)).alloc (.cells #[.int .i64 x, .int .i64 z, .int .i64 y] 47) = W0 := ⟨_, rfl⟩
  have hb0 : Below w.heap.size w W0 := by rw [← hW0]; exact ((Below.refl _ _).alloc (Nat.le_refl _) _).alloc (by simp) _
  have hz0 : W0.heap.size = w.heap.size + 2 := by rw [← hW0]; simp
  have hS0 : SA w.heap.size b x z y W0 W0 := by
    have k1 : ∀ q u, b.cs.toArray[q]? = some u → W0.cell? ⟨w.heap.size, q, none⟩ = some u := fun q u hq => by
      rw [← hW0, World.cell?_alloc_past _ _ _ (by simp)]
      exact (World.cell?_alloc_at _ _ _ _ rfl).trans hq
    have k2 : ∀ q u, #[Value.int .i64 x, .int .i64 z, .int .i64 y][q]? = some u → W0.cell? ⟨w.heap.size + 1, q, none⟩ = some u := fun q u hq => by
      rw [← hW0]
      exact (World.cell?_alloc_at _ _ _ _ (by simp)).trans hq
    exact ⟨k1 0 _ rfl, k1 1 _ rfl, k1 2 _ rfl, k1 3 _ rfl, k1 4 _ rfl, k1 5 _ rfl, k1 6 _ rfl, k1 7 _ rfl, k2 0 _ rfl, k2 1 _ rfl, k2 2 _ rfl, Below.refl _ _, by omega⟩
  have hin := fun w => aIn_any b x z y w
  have hrin := fun w => rIn_any b x z y w
  have hof : ∀ {V : World}, Below (w.heap.size + 2) W0 V → Calls Try.prog 19 #[.slice A l.length cap, .agg #[.int .i64 x, .int .i64 z, .int .i64 y]] V fun en w' => en = .returned (.int .i64 (ofF l x z y)) ∧ Below V.heap.size V w' := fun {V} h =>
    of_any l A cap x z y V ((hr.below (hb0.trans (h.mono (by omega)))).more (hb0.trans (h.mono (by omega))).size) hl
  have hrof : ∀ {V : World}, Below (w.heap.size + 2) W0 V → Calls Try.prog 20 #[.slice A l.length cap, .agg #[.int .i64 x, .int .i64 z, .int .i64 y]] V fun en w' => en = .returned (.int .i64 (ofF l x z y)) ∧ Below V.heap.size V w' := fun {V} h =>
    rof_any l A cap x z y V ((hr.below (hb0.trans (h.mono (by omega)))).more (hb0.trans (h.mono (by omega))).size) hl
  have hwk := fun w => wakes12_any w
  generalize ofF l x z y = v at hof hrof
  unfold B8.cs at hin hrin hW0 ⊢
  have hl' : ((l.length : Nat) : Int) ≤ 9223372036854775807 := by omega
  refine (callsIn_wide (n := 6)).1 ?_
  refine callsIn_of_wp Try.func4 rfl trivial ?_ rfl
  simp only [Try.ntmps4, List.size_toArray, List.length_cons, List.length_nil, Nat.reduceAdd, Nat.reduceSub, Array.replicate_succ, Array.replicate_zero, List.push_toArray, List.append_toArray, List.nil_append, List.cons_append]
  by_cases h100 : (100 : Int) < (l.length : Int)
  · gi_wp2_with (refine ⟨trivial, ?_⟩; gi_at_call 16; refine (callsIn_wide.2 (hwk _)).mono ?_; rintro en w9 ⟨rfl, hb9⟩)
    try rw [hW0] at hb9
    refine bodyPost_ret (results_tmp rfl _ _ _) rfl ?_
    exact ⟨rfl, hb0.trans (hb9.mono hb0.size)⟩
  · gi_wp2
    try rw [hW0]
    clear hW0
    refine wpIn_region_ord [(0, true), (1, true), (3, true), (4, true), (2, false), (5, false), (6, true), (7, true), (8, true), (9, true), (11, true), (12, true), (10, false), (13, false), (14, true), (15, true), (16, true), (17, false)] (fun w' => w'.cell? ⟨w.heap.size, 0, none⟩ = some (.int .i64 b.id) ∧ w'.cell? ⟨w.heap.size, 1, none⟩ = some (.int .i64 b.x0) ∧ w'.cell? ⟨w.heap.size, 2, none⟩ = some (.int .i64 b.z0) ∧ w'.cell? ⟨w.heap.size, 3, none⟩ = some (.int .i64 b.x1) ∧ w'.cell? ⟨w.heap.size, 4, none⟩ = some (.int .i64 b.z1) ∧ w'.cell? ⟨w.heap.size, 5, none⟩ = some (.int .i64 b.y0) ∧ w'.cell? ⟨w.heap.size, 6, none⟩ = some (.int .i64 b.y1) ∧ w'.cell? ⟨w.heap.size, 7, none⟩ = some (.int .i64 b.ar) ∧ w'.cell? ⟨w.heap.size + 1, 0, none⟩ = some (.int .i64 x) ∧ w'.cell? ⟨w.heap.size + 1, 1, none⟩ = some (.int .i64 z) ∧ w'.cell? ⟨w.heap.size + 1, 2, none⟩ = some (.int .i64 y) ∧ Below (w.heap.size + 2) W0 w' ∧ w.heap.size + 2 ≤ w'.heap.size) (fun _ => trivial) rfl (by intro c d v a w h; cases d <;> exact h) (by kernel_rfl) ?_
    have hS : SA w.heap.size b x z y W0 W0.drew := SA.keep hS0 ((Below.refl _ _).drew)
    simp only [List.length_cons, List.length_nil, Nat.reduceAdd, List.drop_succ_cons, List.drop_zero]
    cases hi : inB b x z y
    all_goals rw [hi] at hin hrin
    · iterate 4 (apply wpOrd_quiet rfl hS rfl; (intro w' hw'; obtain ⟨q0, q1, q2, q3, q4, q5, q6, q7, q8, q9, q10, q11, q12⟩ := hw'; go_simp; exact rfl); go_simp)
      refine wpOrd_move rfl rfl ?_
      go_simp
      refine ⟨trivial, (callsIn_wide.2 (hin _)).mono ?_⟩
      rintro en w5 ⟨rfl, hb5⟩
      have hbw5' : Below W0.drew.heap.size W0.drew w5 := hb5
      have hS5 : SA w.heap.size b x z y W0 w5 := SA.keep hS hbw5'
      refine ⟨hS5, ?_⟩
      go_simp
      refine wpOrd_move rfl rfl ?_
      go_simp
      refine ⟨trivial, (callsIn_wide.2 (hrin _)).mono ?_⟩
      rintro en w6 ⟨rfl, hb6⟩
      have hbw6' : Below w5.heap.size w5 w6 := hb6
      have hS6 : SA w.heap.size b x z y W0 w6 := SA.keep hS5 hbw6'
      refine ⟨hS6, ?_⟩
      go_simp
      iterate 6 (apply wpOrd_quiet rfl hS6 rfl; (intro w' hw'; obtain ⟨q0, q1, q2, q3, q4, q5, q6, q7, q8, q9, q10, q11, q12⟩ := hw'; go_simp; exact rfl); go_simp)
      refine wpOrd_move rfl rfl ?_
      go_simp
      refine ⟨trivial, (callsIn_wide.2 (hof (SA.below hS6))).mono ?_⟩
      rintro en w7 ⟨rfl, hb7⟩
      have hbw7' : Below w6.heap.size w6 w7 := hb7
      have hS7 : SA w.heap.size b x z y W0 w7 := SA.keep hS6 hbw7'
      refine ⟨hS7, ?_⟩
      go_simp
      refine wpOrd_move rfl rfl ?_
      go_simp
      refine ⟨trivial, (callsIn_wide.2 (hrof (SA.below hS7))).mono ?_⟩
      rintro en w8 ⟨rfl, hb8⟩
      have hbw8' : Below w7.heap.size w7 w8 := hb8
      have hS8 : SA w.heap.size b x z y W0 w8 := SA.keep hS7 hbw8'
      refine ⟨hS8, ?_⟩
      go_simp
      iterate 3 (apply wpOrd_quiet rfl hS8 rfl; (intro w' hw'; obtain ⟨q0, q1, q2, q3, q4, q5, q6, q7, q8, q9, q10, q11, q12⟩ := hw'; go_simp; exact rfl); go_simp)
      refine wpOrd_move rfl rfl ?_
      go_simp
      refine ⟨trivial, (callsIn_wide.2 (hwk _)).mono ?_⟩
      rintro en w9 ⟨rfl, hb9⟩
      have hbw9' : Below w8.heap.size w8 w9 := hb9
      have hS9 : SA w.heap.size b x z y W0 w9 := SA.keep hS8 hbw9'
      refine ⟨hS9, ?_⟩
      go_simp
      refine wpOrd_nil ?_
      gi_wp2
      refine bodyPost_ret (results_tmp rfl _ _ _) rfl ?_
      exact ⟨rfl, hb0.trans ((SA.below hS9).mono (Nat.le_add_right _ 2))⟩
    · iterate 4 (apply wpOrd_quiet rfl hS rfl; (intro w' hw'; obtain ⟨q0, q1, q2, q3, q4, q5, q6, q7, q8, q9, q10, q11, q12⟩ := hw'; go_simp; exact rfl); go_simp)
      refine wpOrd_move rfl rfl ?_
      go_simp
      refine ⟨trivial, (callsIn_wide.2 (hin _)).mono ?_⟩
      rintro en w5 ⟨rfl, hb5⟩
      have hbw5' : Below W0.drew.heap.size W0.drew w5 := hb5
      have hS5 : SA w.heap.size b x z y W0 w5 := SA.keep hS hbw5'
      refine ⟨hS5, ?_⟩
      go_simp
      refine wpOrd_move rfl rfl ?_
      go_simp
      refine ⟨trivial, (callsIn_wide.2 (hrin _)).mono ?_⟩
      rintro en w6 ⟨rfl, hb6⟩
      have hbw6' : Below w5.heap.size w5 w6 := hb6
      have hS6 : SA w.heap.size b x z y W0 w6 := SA.keep hS5 hbw6'
      refine ⟨hS6, ?_⟩
      go_simp
      iterate 6 (apply wpOrd_quiet rfl hS6 rfl; (intro w' hw'; obtain ⟨q0, q1, q2, q3, q4, q5, q6, q7, q8, q9, q10, q11, q12⟩ := hw'; go_simp; exact rfl); go_simp)
      refine wpOrd_move rfl rfl ?_
      go_simp
      refine ⟨trivial, (callsIn_wide.2 (hof (SA.below hS6))).mono ?_⟩
      rintro en w7 ⟨rfl, hb7⟩
      have hbw7' : Below w6.heap.size w6 w7 := hb7
      have hS7 : SA w.heap.size b x z y W0 w7 := SA.keep hS6 hbw7'
      refine ⟨hS7, ?_⟩
      go_simp
      refine wpOrd_move rfl rfl ?_
      go_simp
      refine ⟨trivial, (callsIn_wide.2 (hrof (SA.below hS7))).mono ?_⟩
      rintro en w8 ⟨rfl, hb8⟩
      have hbw8' : Below w7.heap.size w7 w8 := hb8
      have hS8 : SA w.heap.size b x z y W0 w8 := SA.keep hS7 hbw8'
      refine ⟨hS8, ?_⟩
      go_simp
      iterate 3 (apply wpOrd_quiet rfl hS8 rfl; (intro w' hw'; obtain ⟨q0, q1, q2, q3, q4, q5, q6, q7, q8, q9, q10, q11, q12⟩ := hw'; go_simp; exact rfl); go_simp)
      refine wpOrd_move rfl rfl ?_
      go_simp
      refine ⟨trivial, (callsIn_wide.2 (hwk _)).mono ?_⟩
      rintro en w9 ⟨rfl, hb9⟩
      have hbw9' : Below w8.heap.size w8 w9 := hb9
      have hS9 : SA w.heap.size b x z y W0 w9 := SA.keep hS8 hbw9'
      refine ⟨hS9, ?_⟩
      go_simp
      refine wpOrd_nil ?_
      gi_wp2
      refine bodyPost_ret (results_tmp rfl _ _ _) rfl ?_
      exact ⟨rfl, hb0.trans ((SA.below hS9).mono (Nat.le_add_right _ 2))⟩
theorem areaOf_calls (v0 : Value) (x0 x1 x2 x3 x4 x5 x6 x7 x8 x9 x10 : Int) (xs0 : List Value) (w : World) (hin : InVal w.heap.size w v0 xs0 [.i, .i, .i, .i, .i, .i, .i, .i]) (hlen : xs0.length / 8 ≤ 9223372036854775807) :
    Calls Try.prog 4 #[v0, .agg #[.int .i64 x0, .int .i64 x1, .int .i64 x2, .int .i64 x3, .int .i64 x4, .int .i64 x5, .int .i64 x6, .int .i64 x7], .agg #[.int .i64 x8, .int .i64 x9, .int .i64 x10]] w fun en w' => en = .returned (.bool true) ∧ Below w.heap.size w w' := by
  obtain ⟨A, c, rfl, hr⟩ := b8s_ok hin
  exact aof_any (b8s xs0) A c ⟨x0, x1, x2, x3, x4, x5, x6, x7⟩ x8 x9 x10 w hr (by simpa [b8s] using hlen)
end Go.Proofs.Ytbjbiimkhpfieaa
