/- pool.Take, by a walk. No conditions but that the pool lies where it is said to lie. -/
import Derived.Test.YtdamcbpjefjolaaPt
namespace Go.Proofs.Ytdamcbpjefjolaa
open Go Go.RowKit Go.Sx Go.Mp
attribute [local go_sem] Oper.semAt_some
/-- A heap's item is that of an open node. -/
def Valid (E : List En) (y : V3) : Prop := ∃ e ∈ E, e.k = y.x ∧ e.t = false ∧ e.x = y
/-- What Take tells and does. -/
def TakeRel (E : List En) (h : List V3) (en : Ending) (E' : List En) (h' : List V3) : Prop :=
  (en = .returned (.tuple #[.agg #[.int .i64 0, .int .i64 0, .int .i64 0], .int .i64 4]) ∧ E' = E ∧ h' = [] ∧ ∀ y ∈ h, ¬ Valid E y) ∨
  ∃ (y : V3) (D : List V3) (E1 : List En) (e : En) (E2 : List En), en = .returned (.tuple #[.agg #[.int .i64 y.x, .int .i64 y.y, .int .i64 y.z], .int .i64 0]) ∧ E = E1 ++ e :: E2 ∧ e.k = y.x ∧ e.t = false ∧ e.x = y ∧ E' = E1 ++ { e with t := true } :: E2 ∧
    (D ++ y :: h').Perm h ∧ (∀ z ∈ D, ¬ Valid E z) ∧ (∀ z ∈ h', lessV z y = false) ∧ Heap h'
def lenAt (b : Nat) (w : World) : Nat := match w.cell? ⟨b, 2, none⟩ with
  | some (.slice _ n _) => n
  | _ => 0
theorem PoolIn.len {w : World} {base b bm : Nat} {v : Value} {room : Int} {E : List En} {h : List V3} (H : PoolIn w base b bm v room E h) : lenAt b w = h.length := by
  unfold lenAt
  rw [H.pb.cells.2.2.1]
  rcases H.row.2 with ⟨rfl, h0⟩ | ⟨g, cap, cur, rfl, _⟩
  · exact h0.symm
  · rfl
theorem PoolIn.side {w w' : World} {base b bm : Nat} {v : Value} {room : Int} {E : List En} {h : List V3} (H : PoolIn w base b bm v room E h) {k : Nat} {c : Array Value} {z : Nat × Nat} (hk : w.heap[k]? = some (.cells c 30 z)) (hv : v.ownBlock ≠ some k) (hg : w.grownBy w' (some k)) : PoolIn w' base b bm v room E h := by
  obtain ⟨es, cl, h2⟩ := H.mapObj
  have nb : b ≠ k := fun e => by
    have := H.pb
    unfold PB at this
    rw [e, hk] at this
    injection this with this; injection this with _ h3; cases h3
  have nm : bm ≠ k := fun e => by rw [e, hk] at h2; cases h2
  have nn : ∀ e ∈ E, e.p ≠ k := fun e he e' => by
    have := H.nd e he
    rw [e', hk] at this
    injection this with this; injection this with _ h3; cases h3
  exact ⟨(hg.block b (lt_of_block H.pb) (by simpa using nb)).trans H.pb, H.mp.of_block (hg.block bm (lt_of_block h2) (by simpa using nm)), fun e he => (hg.block _ (lt_of_block (H.nd e he)) (by simpa using nn e he)).trans (H.nd e he), H.row.kept hg (.inr hv), H.ps, H.ks, H.b0, H.b1, H.b2⟩
theorem side3 {w w' : World} {base b bm : Nat} {v v' : Value} {room : Int} {E : List En} {h : List V3} (H : PoolIn w' base b bm v' room E h) {k : Nat} {a0 a1 a2 : Value} (hk : w'.heap[k]? = some (.cells #[a0, a1, a2] 30 (0, 0))) (hv : v'.ownBlock ≠ some k) (hb : PFr base v w w') (hbk : w.heap.size ≤ k) (x0 x1 x2 : Value) :
    PoolIn (((w'.setCell ⟨k, 0, none⟩ x0).setCell ⟨k, 1, none⟩ x1).setCell ⟨k, 2, none⟩ x2) base b bm v' room E h ∧ PFr base v w (((w'.setCell ⟨k, 0, none⟩ x0).setCell ⟨k, 1, none⟩ x1).setCell ⟨k, 2, none⟩ x2) ∧
      (((w'.setCell ⟨k, 0, none⟩ x0).setCell ⟨k, 1, none⟩ x1).setCell ⟨k, 2, none⟩ x2).heap[k]? = some (.cells #[x0, x1, x2] 30 (0, 0)) := by
  have h0 := set_block (k := 0) hk x0
  have h1 := set_block (k := 1) h0 x1
  have h2 := set_block (k := 2) h1 x2
  have pf : ∀ j, some k = some j → j < w.heap.size → ¬ Prot base v w j := fun j hj hlt => by injection hj with hj; omega
  exact ⟨((H.side hk hv (grownBy_set _ _ _ _)).side h0 hv (grownBy_set _ _ _ _)).side h1 hv (grownBy_set _ _ _ _), ((hb.grown (grownBy_set _ _ _ _) pf).grown (grownBy_set _ _ _ _) pf).grown (grownBy_set _ _ _ _) pf, h2⟩
theorem key_unique : ∀ {E : List En}, (E.map (·.k)).Nodup → ∀ {e e' : En}, e ∈ E → e' ∈ E → e.k = e'.k → e = e'
  | [], _, _, _, h, _, _ => by simp at h
  | a :: E, hn, e, e', h, h', hk => by
    simp only [List.map_cons, List.nodup_cons] at hn
    rcases List.mem_cons.1 h with h1 | h1 <;> rcases List.mem_cons.1 h' with h2 | h2
    · rw [h1, h2]
    · subst h1; exact absurd (show e.k ∈ E.map (·.k) from List.mem_map.2 ⟨e', h2, hk.symm⟩) hn.1
    · subst h2; exact absurd (show e'.k ∈ E.map (·.k) from List.mem_map.2 ⟨e, h1, hk⟩) hn.1
    · exact key_unique hn.2 h1 h2 hk
theorem eq3_no {α : Type} {a a' b b' c c' : Int} (h : ¬ (a = a' ∧ b = b' ∧ c = c')) (X Y : α) : (if a = a' then if b = b' then if c = c' then X else Y else Y else Y) = Y := by
  split
  · split
    · split
      · rename_i h1 h2 h3; exact absurd ⟨h1, h2, h3⟩ h
      · rfl
    · rfl
  · rfl
theorem mem_top {h : List V3} {y : V3} (hh : Heap h) (hy : h[0]? = some y) : ∀ z ∈ h, lessV z y = false := by
  intro z hz
  obtain ⟨k, hk, rfl⟩ := List.mem_iff_getElem.1 hz
  exact hh.top hy k _ (List.getElem?_eq_getElem hk)
set_option maxHeartbeats 4000000 in
set_option maxRecDepth 100000 in
theorem take_any (base b bm : Nat) (v : Value) (room : Int) (E : List En) (h : List V3) (w : World) (H : PoolIn w base b bm v room E h) (hh : h.length < 1000000) (hheap : Heap h) (hall : ∀ y ∈ h, ∃ e ∈ E, e.k = y.x) :
    Calls Try.prog 10 #[.pointer (some ⟨b, 0, none⟩)] w fun en w' => ∃ E' h' v', TakeRel E h en E' h' ∧ PoolIn w' base b bm v' room E' h' ∧ PFr base v w w' ∧ v'.ownBlock = v.ownBlock := by
  obtain ⟨i0, hi, hz0, hz1, hz2⟩ := info_parts info30
  obtain ⟨W, hW⟩ : ∃ W, w.alloc (.cells #[.int .i64 0, .int .i64 0, .int .i64 0] 30) = W := ⟨_, rfl⟩
  have hN : W.heap[w.heap.size]? = some (.cells #[.int .i64 0, .int .i64 0, .int .i64 0] 30 (0, 0)) := by rw [← hW]; exact World.alloc_heap_new _ _
  have HW : PoolIn W base b bm v room E h := by rw [← hW]; exact H.alloc _
  have hb : PFr base v w W := by rw [← hW]; exact (PFr.refl _ _ _).below ((Below.refl _ _).alloc (Nat.le_refl _) _)
  refine (callsIn_wide (n := 6)).1 ?_
  refine callsIn_of_wp Try.func10 rfl trivial ?_
  simp only [Try.ntmps10, List.size_toArray, List.length_cons, List.length_nil, Nat.reduceAdd, Nat.reduceSub, Array.replicate_succ, Array.replicate_zero, List.push_toArray, List.append_toArray, List.nil_append, List.cons_append]
  gi_wp2
  clear hW
  gi_loopw [4] (fun _ wr => ∃ v' h' D, v'.ownBlock = v.ownBlock ∧ PoolIn wr base b bm v' room E h' ∧ (D ++ h').Perm h ∧ (∀ z ∈ D, ¬ Valid E z) ∧ Heap h' ∧ wr.heap[w.heap.size]? = some (.cells #[.int .i64 0, .int .i64 0, .int .i64 0] 30 (0, 0)) ∧ PFr base v w wr) (fun _ wr => lenAt b wr)
  case atStart => exact ⟨v, h, [], rfl, HW, .refl _, by simp, hheap, hN, hb⟩
  case round =>
    obtain ⟨v1, h1, D, hv1, H1, hperm, hD, hh1, hN1, hb1⟩ := hrel
    clear HW hN hb
    have hlen := H1.len
    have hsub : ∀ z ∈ h1, z ∈ h := fun z hz => hperm.mem_iff.1 (by simp [hz])
    have hl1 : h1.length < 1000000 := by have := hperm.length_eq; simp at this; omega
    cases hcase : h1 with
    | nil =>
      subst hcase
      gi_wp2_with (refine ⟨trivial, ?_⟩; gi_at_call 26; refine (callsIn_wide.2 (pop_nil room bm b base v1 _ H1.pb H1.row)).mono ?_; rintro en w5 ⟨rfl, hf5⟩; have H5 : PoolIn w5 base b bm v1 room E [] := H1.keep (fun k hk => hf5.block k hk (fun h => h)); have hb5 : PFr base v w w5 := hb1.transL (hf5.pool (v := v1) (fun _ _ h => h.elim)) (.inl hv1); have hN5 := hf5.keep hN1 (fun h => h); have ha : ∀ (o : Obj) (j : Nat), (w5.alloc o).cell? ⟨w.heap.size, j, none⟩ = w5.cell? ⟨w.heap.size, j, none⟩ := fun o j => World.cell?_alloc_lt w5 o ⟨w.heap.size, j, none⟩ (lt_of_block hN5); have c0 := cell_of hN5 (j := 0) rfl; have c1 := cell_of hN5 (j := 1) rfl; have c2 := cell_of hN5 (j := 2) rfl; have hfz : ∀ (o : Obj) (j : Nat), (w5.alloc o).frozen? ⟨w.heap.size, j, none⟩ = false := fun o j => not_frozen (World.cells_alloc_lt hN5 o))
      have hvn : v1.ownBlock ≠ some w.heap.size := fun e => by rw [hv1] at e; have := (H.row.lt _ e).2; omega
      obtain ⟨HF, hbF, hNF⟩ := side3 (H5.alloc (.cells #[.int .i64 0, .int .i64 0, .int .i64 0] 30)) (World.cells_alloc_lt hN5 _) hvn (hb5.below ((Below.refl _ _).alloc (Nat.le_refl _) _)) (Nat.le_refl _) (.int .i64 0) (.int .i64 0) (.int .i64 0)
      have r0 := cell_of hNF (j := 0) rfl
      have r1 := cell_of hNF (j := 1) rfl
      have r2 := cell_of hNF (j := 2) rfl
      refine bodyPost_ret (v := .tuple #[.agg #[.int .i64 0, .int .i64 0, .int .i64 0], .int .i64 4]) (by simp [results, Try.results10, go_sem, r0, r1, r2]) rfl ⟨E, [], v1, .inl ⟨rfl, rfl, rfl, fun y hy => hD y (by have := hperm.mem_iff.2 hy; simpa using this)⟩, HF, hbF, hv1⟩
    | cons y t1 =>
      obtain ⟨e, he, hek⟩ := hall y (hsub y (by rw [hcase]; simp))
      obtain ⟨E1, E2, rfl⟩ := List.append_of_mem he
      gi_wp2_with (refine ⟨trivial, ?_⟩; gi_at_call 26; refine (callsIn_wide.2 (pop_cons y h1 t1.length (by rw [hcase]; rfl) (by rw [hcase]; rfl) (by rw [hcase] at hl1; simp at hl1; omega) room bm b base v1 _ H1.pb (by have := H1.row; rw [hcase] at this ⊢; exact this) H1.row_b)).mono ?_; rintro en w5 ⟨rfl, v5, h5, hh5, hp5, hpb5, hrow5, hv5, hf5⟩)
      obtain ⟨H5, hbX⟩ := H1.heap hpb5 hrow5 hf5
      have hb5 : PFr base v w w5 := hb1.transL hbX (.inl hv1)
      have hN5 : w5.heap[w.heap.size]? = some (.cells #[.int .i64 0, .int .i64 0, .int .i64 0] 30 (0, 0)) := hf5.keep hN1 (fun hor => by
        rcases hor with h | h
        · have := lt_of_block H.pb; omega
        · rw [hv1] at h; have := (H.row.lt _ h).2; omega)
      obtain ⟨W6, hW6⟩ : ∃ W6, w5.alloc (.cells #[.int .i64 y.x, .int .i64 y.y, .int .i64 y.z] 30) = W6 := ⟨_, rfl⟩
      have H6 : PoolIn W6 base b bm v5 room (E1 ++ e :: E2) h5 := by rw [← hW6]; exact H5.alloc _
      have hb6 : PFr base v w W6 := by rw [← hW6]; exact hb5.below ((Below.refl _ _).alloc (Nat.le_refl _) _)
      have hN6 : W6.heap[w.heap.size]? = some (.cells #[.int .i64 0, .int .i64 0, .int .i64 0] 30 (0, 0)) := by rw [← hW6]; exact World.cells_alloc_lt hN5 _
      have hY : W6.heap[w5.heap.size]? = some (.cells #[.int .i64 y.x, .int .i64 y.y, .int .i64 y.z] 30 (0, 0)) := by rw [← hW6]; exact World.alloc_heap_new _ _
      rw [hW6]
      clear hW6
      have hlk := look_yes H6.ks hek
      have hmp := H6.mp
      obtain ⟨M, hM⟩ : ∃ M, (E1 ++ e :: E2).map En.kp = M := ⟨_, rfl⟩
      rw [hM] at hlk hmp
      clear hM
      have hmem : e ∈ E1 ++ e :: E2 := by simp
      have hnd := H6.nd e hmem
      have q1 := H6.pb.cells.2.1
      have y0 : W6.cell? ⟨w5.heap.size, 0, none⟩ = some (.int .i64 y.x) := cell_of hY rfl
      have y1 : W6.cell? ⟨w5.heap.size, 1, none⟩ = some (.int .i64 y.y) := cell_of hY rfl
      have y2 : W6.cell? ⟨w5.heap.size, 2, none⟩ = some (.int .i64 y.z) := cell_of hY rfl
      have d0 : W6.cell? ⟨e.p, 0, none⟩ = some (.int .i64 e.x.x) := cell_of hnd rfl
      have d1 : W6.cell? ⟨e.p, 1, none⟩ = some (.int .i64 e.x.y) := cell_of hnd rfl
      have d2 : W6.cell? ⟨e.p, 2, none⟩ = some (.int .i64 e.x.z) := cell_of hnd rfl
      have d3 : W6.cell? ⟨e.p, 3, none⟩ = some (.bool e.t) := cell_of hnd rfl
      rw [hcase] at hh1
      have hheap5 : Heap h5 := hh5 (by rw [hcase]; exact hh1)
      have hlt : h5.length < h1.length := by have := hp5.length_eq; simp at this; omega
      have hperm5 : (D ++ y :: h5).Perm h := (List.Perm.append_left D hp5).trans hperm
      have hstep : ¬ Valid (E1 ++ e :: E2) y → ∀ W7, PoolIn W7 base b bm v5 room (E1 ++ e :: E2) h5 → W7.heap[w.heap.size]? = some (.cells #[.int .i64 0, .int .i64 0, .int .i64 0] 30 (0, 0)) → PFr base v w W7 →
          (∃ v' h' D, v'.ownBlock = v.ownBlock ∧ PoolIn W7 base b bm v' room (E1 ++ e :: E2) h' ∧ (D ++ h').Perm h ∧ (∀ z ∈ D, ¬ Valid (E1 ++ e :: E2) z) ∧ Heap h' ∧ W7.heap[w.heap.size]? = some (.cells #[.int .i64 0, .int .i64 0, .int .i64 0] 30 (0, 0)) ∧ PFr base v w W7) ∧ lenAt b W7 < lenAt b wr := by
        intro hnv W7 H7 hN7 hb7
        refine ⟨⟨v5, h5, D ++ [y], hv5.trans hv1, H7, by simpa using hperm5, fun z hz => ?_, hheap5, hN7, hb7⟩, by rw [H7.len, hlen]; exact hlt⟩
        rcases List.mem_append.1 hz with hz | hz
        · exact hD z hz
        · simp only [List.mem_singleton] at hz
          subst hz
          exact hnv
      have hS : (fun wS => CellsL [(⟨b, 1, none⟩, .map (some bm)), (⟨w5.heap.size, 0, none⟩, .int .i64 y.x)] wS ∧ MapAt iv wS bm M : World → Prop) (W6.drew) := ⟨⟨q1, y0, trivial⟩, hmp⟩
      refine wpIn_region_ord [(0, true), (1, true), (2, true), (3, true), (4, true), (5, true), (6, true)] (fun wS => CellsL [(⟨b, 1, none⟩, .map (some bm)), (⟨w5.heap.size, 0, none⟩, .int .i64 y.x)] wS ∧ MapAt iv wS bm M : World → Prop) (fun _ => trivial) rfl (by first | exact then_put rfl | (intro c d v a w h; cases d <;> exact h)) (by kernel_rfl) ?_
      simp only [List.length_cons, List.length_nil, Nat.reduceAdd, List.drop_succ_cons, List.drop_zero]
      iterate 7 (apply wpOrd_quiet rfl hS rfl; (intro w' hw'; obtain ⟨⟨q0, q1, _⟩, x0⟩ := hw'; have hlq := look67 (v := .pointer (some ⟨e.p, 0, none⟩)) x0 (by rw [hlk]; rfl); go_simp; exact rfl); go_simp)
      refine wpOrd_nil ?_
      clear hS
      gi_wp2
      cases ht : e.t
      · rw [ht] at d3
        by_cases hxy : e.x = y
        · subst hxy
          have hS : (CellsL [(⟨e.p, 0, none⟩, .int .i64 e.x.x), (⟨e.p, 1, none⟩, .int .i64 e.x.y), (⟨e.p, 2, none⟩, .int .i64 e.x.z), (⟨e.p, 3, none⟩, .bool false), (⟨w5.heap.size, 0, none⟩, .int .i64 e.x.x), (⟨w5.heap.size, 1, none⟩, .int .i64 e.x.y), (⟨w5.heap.size, 2, none⟩, .int .i64 e.x.z)]) (W6.drew.drew) := ⟨d0, d1, d2, d3, y0, y1, y2, trivial⟩
          refine wpIn_region_ord [(0, true), (1, true), (2, true), (3, true), (4, true), (5, true), (6, true), (7, true), (8, true), (9, true), (10, true), (11, true)] (CellsL [(⟨e.p, 0, none⟩, .int .i64 e.x.x), (⟨e.p, 1, none⟩, .int .i64 e.x.y), (⟨e.p, 2, none⟩, .int .i64 e.x.z), (⟨e.p, 3, none⟩, .bool false), (⟨w5.heap.size, 0, none⟩, .int .i64 e.x.x), (⟨w5.heap.size, 1, none⟩, .int .i64 e.x.y), (⟨w5.heap.size, 2, none⟩, .int .i64 e.x.z)]) (fun _ => trivial) rfl (by first | exact then_put rfl | (intro c d v a w h; cases d <;> exact h)) (by kernel_rfl) ?_
          simp only [List.length_cons, List.length_nil, Nat.reduceAdd, List.drop_succ_cons, List.drop_zero]
          iterate 12 (apply wpOrd_quiet rfl hS rfl; (intro w' hw'; obtain ⟨q0, q1, q2, q3, q4, q5, q6, _⟩ := hw'; go_simp; exact rfl); go_simp)
          refine wpOrd_nil ?_
          clear hS
          have hg8 : ∀ W7 : World, W7.heap[e.p]? = some (.cells #[.int .i64 e.x.x, .int .i64 e.x.y, .int .i64 e.x.z, .bool false] 74 (0, 0)) → W7.frozen? ⟨e.p, 3, none⟩ = false := fun W7 h => not_frozen h
          have hfz := hg8 W6 (by rw [hnd, En.obj, ht])
          have n0 := cell_of hN6 (j := 0) rfl
          have n1 := cell_of hN6 (j := 1) rfl
          have n2 := cell_of hN6 (j := 2) rfl
          have z0 := not_frozen (k := 0) hN6
          have z1 := not_frozen (k := 1) hN6
          have z2 := not_frozen (k := 2) hN6
          gi_wp2
          have hg7 := grownBy_set W6 e.p 3 (.bool true)
          have H7 := H6.turn (e' := { e with t := true }) rfl rfl hg7 (set_block (k := 3) hnd (.bool true))
          have hNp : w.heap.size ≠ e.p := fun e0 => by rw [e0, hnd] at hN6; injection hN6 with hN6; injection hN6 with _ h3; cases h3
          have hN7 : (W6.setCell ⟨e.p, 3, none⟩ (.bool true)).heap[w.heap.size]? = _ := (hg7.block w.heap.size (lt_of_block hN6) (by simpa using hNp)).trans hN6
          have hb7 : PFr base v w (W6.setCell ⟨e.p, 3, none⟩ (.bool true)) := by
            refine hb6.grown hg7 (fun k hk _ => ?_)
            injection hk with hk
            subst hk
            exact H.un_nd hmem
          obtain ⟨HF, hbF, hNF⟩ := side3 H7 hN7 (fun e0 => by rw [hv5, hv1] at e0; have := (H.row.lt _ e0).2; omega) hb7 (Nat.le_refl _) (.int .i64 e.x.x) (.int .i64 e.x.y) (.int .i64 e.x.z)
          have r0 := cell_of hNF (j := 0) rfl
          have r1 := cell_of hNF (j := 1) rfl
          have r2 := cell_of hNF (j := 2) rfl
          refine bodyPost_ret (v := .tuple #[.agg #[.int .i64 e.x.x, .int .i64 e.x.y, .int .i64 e.x.z], .int .i64 0]) (by simp [results, Try.results10, go_sem, r0, r1, r2]) rfl ⟨E1 ++ { e with t := true } :: E2, h5, v5, .inr ⟨e.x, D, E1, e, E2, rfl, rfl, hek, ht, rfl, rfl, hperm5, hD, fun z hz => ?_, hheap5⟩, HF.drew.drew, hbF.drew.drew, hv5.trans hv1⟩
          have hz2 : z ∈ h1 := hp5.mem_iff.1 (List.mem_cons_of_mem _ hz)
          rw [hcase] at hz2
          exact mem_top hh1 rfl z hz2
        · have hne : ¬ (e.x.x = y.x ∧ e.x.y = y.y ∧ e.x.z = y.z) := fun hh => hxy (by cases hex : e.x; cases y; rw [hex] at hh; simp_all)
          have hS : (CellsL [(⟨e.p, 0, none⟩, .int .i64 e.x.x), (⟨e.p, 1, none⟩, .int .i64 e.x.y), (⟨e.p, 2, none⟩, .int .i64 e.x.z), (⟨e.p, 3, none⟩, .bool false), (⟨w5.heap.size, 0, none⟩, .int .i64 y.x), (⟨w5.heap.size, 1, none⟩, .int .i64 y.y), (⟨w5.heap.size, 2, none⟩, .int .i64 y.z)]) (W6.drew.drew) := ⟨d0, d1, d2, d3, y0, y1, y2, trivial⟩
          refine wpIn_region_ord [(0, true), (1, true), (2, true), (3, true), (4, true), (5, true), (6, true), (7, true), (8, true), (9, true), (10, true), (11, true)] (CellsL [(⟨e.p, 0, none⟩, .int .i64 e.x.x), (⟨e.p, 1, none⟩, .int .i64 e.x.y), (⟨e.p, 2, none⟩, .int .i64 e.x.z), (⟨e.p, 3, none⟩, .bool false), (⟨w5.heap.size, 0, none⟩, .int .i64 y.x), (⟨w5.heap.size, 1, none⟩, .int .i64 y.y), (⟨w5.heap.size, 2, none⟩, .int .i64 y.z)]) (fun _ => trivial) rfl (by first | exact then_put rfl | (intro c d v a w h; cases d <;> exact h)) (by kernel_rfl) ?_
          simp only [List.length_cons, List.length_nil, Nat.reduceAdd, List.drop_succ_cons, List.drop_zero]
          iterate 12 (apply wpOrd_quiet rfl hS rfl; (intro w' hw'; obtain ⟨q0, q1, q2, q3, q4, q5, q6, _⟩ := hw'; go_simp; first | exact rfl | exact eq3_no hne _ _); go_simp)
          refine wpOrd_nil ?_
          clear hS
          gi_wp2
          refine hstep (fun hv => ?_) W6.drew.drew H6.drew.drew hN6 hb6.drew.drew
          obtain ⟨e', he', hk', _, hx'⟩ := hv
          have := key_unique H6.ks hmem he' (by rw [hek, hk'])
          rw [← this] at hx'
          exact hxy hx'
      · rw [ht] at d3
        have hS : (CellsL [(⟨e.p, 0, none⟩, .int .i64 e.x.x), (⟨e.p, 1, none⟩, .int .i64 e.x.y), (⟨e.p, 2, none⟩, .int .i64 e.x.z), (⟨e.p, 3, none⟩, .bool true), (⟨w5.heap.size, 0, none⟩, .int .i64 y.x), (⟨w5.heap.size, 1, none⟩, .int .i64 y.y), (⟨w5.heap.size, 2, none⟩, .int .i64 y.z)]) (W6.drew.drew) := ⟨d0, d1, d2, d3, y0, y1, y2, trivial⟩
        refine wpIn_region_ord [(0, true), (1, true), (2, true), (3, true), (4, true), (5, true), (6, true), (7, true), (8, true), (9, true), (10, true), (11, true)] (CellsL [(⟨e.p, 0, none⟩, .int .i64 e.x.x), (⟨e.p, 1, none⟩, .int .i64 e.x.y), (⟨e.p, 2, none⟩, .int .i64 e.x.z), (⟨e.p, 3, none⟩, .bool true), (⟨w5.heap.size, 0, none⟩, .int .i64 y.x), (⟨w5.heap.size, 1, none⟩, .int .i64 y.y), (⟨w5.heap.size, 2, none⟩, .int .i64 y.z)]) (fun _ => trivial) rfl (by first | exact then_put rfl | (intro c d v a w h; cases d <;> exact h)) (by kernel_rfl) ?_
        simp only [List.length_cons, List.length_nil, Nat.reduceAdd, List.drop_succ_cons, List.drop_zero]
        iterate 6 (apply wpOrd_quiet rfl hS rfl; (intro w' hw'; obtain ⟨q0, q1, q2, q3, q4, q5, q6, _⟩ := hw'; go_simp; exact rfl); go_simp)
        iterate 6 (refine wpOrd_off rfl hS (by rfl) ?_; go_simp)
        refine wpOrd_nil ?_
        clear hS
        gi_wp2
        refine hstep (fun hv => ?_) W6.drew.drew H6.drew.drew hN6 hb6.drew.drew
        obtain ⟨e', he', hk', ht', _⟩ := hv
        have := key_unique H6.ks hmem he' (by rw [hek, hk'])
        rw [← this, ht] at ht'
        cases ht'
end Go.Proofs.Ytdamcbpjefjolaa
