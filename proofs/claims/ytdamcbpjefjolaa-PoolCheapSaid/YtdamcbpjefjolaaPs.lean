/- pool's heap: the least item is taken out, by a walk. No conditions but that the heap lies where it is said to lie. -/
import Derived.Test.YtdamcbpjefjolaaPr
namespace Go.Proofs.Ytdamcbpjefjolaa
open Go Go.RowKit Go.Sx
attribute [local go_sem] Oper.semAt_some
theorem pop_start {l : List V3} {n : Nat} (hl : l.length = n + 1) (x y : V3) (hx : l[0]? = some x) (hy : l[n]? = some y) : (Heap l → DownAt ((l.set 0 y).take n) 0) ∧ (x :: (l.set 0 y).take n).Perm l := by
  constructor
  · intro h
    refine ⟨fun j u v h0 hj hu hv => ?_, fun j u v _ h0 => absurd h0 (Nat.lt_irrefl 0)⟩
    have lt : ∀ {k : Nat} {u : V3}, ((l.set 0 y).take n)[k]? = some u → k ≠ 0 → l[k]? = some u := by
      intro k u hk hk0
      rw [List.getElem?_take] at hk
      split at hk
      · rwa [List.getElem?_set_ne (Ne.symm hk0)] at hk
      · cases hk
    exact h j u v h0 (lt hu (by omega)) (lt hv hj)
  · cases l with
    | nil => simp at hx
    | cons z m =>
      simp only [List.getElem?_cons_zero, Option.some.injEq] at hx
      subst hx
      simp only [List.set_cons_zero]
      cases n with
      | zero =>
        have : m = [] := List.eq_nil_of_length_eq_zero (by simpa using hl)
        subst this
        simp
      | succ n =>
        have hm : m.length = n + 1 := by simpa using hl
        have hyn : m[n]? = some y := by simpa using hy
        have e : m = m.take n ++ [y] := by
          have h1 : m.take (n + 1) = m := List.take_of_length_le (by omega)
          have h2 : m[n] = y := by
            have := List.getElem?_eq_getElem (l := m) (i := n) (by omega)
            rw [hyn] at this
            injection this with this
            exact this.symm
          rw [List.take_succ_eq_append_getElem (by omega), h2] at h1
          exact h1.symm
        simp only [List.take_succ_cons]
        refine List.Perm.cons _ ?_
        conv => rhs; rw [e]
        exact (List.perm_append_singleton y (m.take n)).symm
theorem pop_end {l : List V3} {k n : Nat} (hl : l.length = n) (h : DownAt l k) (hk : n ≤ 2 * k + 1) : Heap l :=
  h.done fun j x y h0 hj hx _ => by
    have : j < l.length := by
      rcases Nat.lt_or_ge j l.length with h1 | h1
      · exact h1
      · rw [List.getElem?_eq_none h1] at hx; cases hx
    omega
theorem own_take {w : World} {base e g m k cap : Nat} {l : List V3} (h : w.ownsRow base e 3 (.slice (some ⟨g, 0, none⟩) m cap) m (vcs l)) (hk : k ≤ m) : w.ownsRow base e 3 (.slice (some ⟨g, 0, none⟩) k cap) k (vcs (l.take k)) := by
  have hl := h.1
  rw [vcs_length] at hl
  rcases h.2 with ⟨h', _⟩ | ⟨g', cap', cur, h', hb, hg, hnc, hcm, hcs, htake⟩
  · cases h'
  · simp only [Value.slice.injEq, Option.some.injEq, Addr.mk.injEq, and_true, true_and] at h'
    obtain ⟨rfl, rfl⟩ := h'
    refine ⟨by rw [vcs_length, List.length_take]; omega, .inr ⟨g, cap, cur, rfl, hb, hg, by omega, hcm, hcs, ?_⟩⟩
    rw [← vcs_take, ← htake, List.take_take, Nat.min_eq_left (by omega)]
theorem after_N {w wr : World} {F : Nat → Prop} {N b g n cap base : Nat} {room : Int} {bm : Nat} {v : Value} {l : List V3} {c : Array Value} (hN : wr.heap[N]? = some (.cells c 30 (0, 0))) (hsz : c.size = 3) (x0 x1 x2 : Value) (hp : PB wr b room bm v) (hr : wr.ownsRow base 30 3 (.slice (some ⟨g, 0, none⟩) n cap) n (vcs l)) (hf : Fr F w wr) (hb : b ≠ N) (hg : g ≠ N) (hw : w.heap.size ≤ N) :
    PB (((wr.setCell ⟨N, 0, none⟩ x0).setCell ⟨N, 1, none⟩ x1).setCell ⟨N, 2, none⟩ x2) b room bm v ∧ (((wr.setCell ⟨N, 0, none⟩ x0).setCell ⟨N, 1, none⟩ x1).setCell ⟨N, 2, none⟩ x2).ownsRow base 30 3 (.slice (some ⟨g, 0, none⟩) n cap) n (vcs l) ∧ Fr F w (((wr.setCell ⟨N, 0, none⟩ x0).setCell ⟨N, 1, none⟩ x1).setCell ⟨N, 2, none⟩ x2) ∧
      (((wr.setCell ⟨N, 0, none⟩ x0).setCell ⟨N, 1, none⟩ x1).setCell ⟨N, 2, none⟩ x2).heap[N]? = some (.cells #[x0, x1, x2] 30 (0, 0)) := by
  refine ⟨?_, ?_, ?_, ?_⟩
  · exact ((((Fr.refl (fun k => k = N) wr).set _ (fun _ => rfl)).set _ (fun _ => rfl)).set _ (fun _ => rfl)).keep hp hb
  · exact ((hr.kept (grownBy_set _ _ _ _) (.inr (by simp [Value.ownBlock]; exact hg))).kept (grownBy_set _ _ _ _) (.inr (by simp [Value.ownBlock]; exact hg))).kept (grownBy_set _ _ _ _) (.inr (by simp [Value.ownBlock]; exact hg))
  · exact ((hf.set _ (fun h => by omega)).set _ (fun h => by omega)).set _ (fun h => by omega)
  · have := set_block (set_block (set_block hN x0 (k := 0)) x1 (k := 1)) x2 (k := 2)
    rw [this]
    match c, hsz with
    | ⟨[a, b, c]⟩, _ => rfl
theorem child {j k : Nat} (h0 : 0 < j) (h : (j - 1) / 2 = k) : j = 2 * k + 1 ∨ j = 2 * k + 2 := by omega
set_option maxHeartbeats 1000000 in
set_option maxRecDepth 100000 in
theorem pop_nil (room : Int) (bm b base : Nat) (v : Value) (w : World) (hp : PB w b room bm v) (hr : w.ownsRow base 30 3 v 0 []) :
    Calls Try.prog 26 #[.pointer (some ⟨b, 2, none⟩)] w fun en w' => en = .returned (.tuple #[.agg #[.int .i64 0, .int .i64 0, .int .i64 0], .bool false]) ∧ Fr (fun _ => False) w w' := by
  obtain ⟨p0, p1, p2, p3⟩ := hp.cells
  have hbl := lt_of_block hp
  have hv : ∃ A c, v = .slice A 0 c := by
    rcases hr.2 with ⟨rfl, _⟩ | ⟨g, cap, cur, rfl, _⟩ <;> exact ⟨_, _, rfl⟩
  obtain ⟨A, c, rfl⟩ := hv
  have p2' := (World.cell?_alloc_lt w (.cells #[.int .i64 0, .int .i64 0, .int .i64 0] 30) ⟨b, 2, none⟩ hbl).trans p2
  have z0 : (w.alloc (.cells #[.int .i64 0, .int .i64 0, .int .i64 0] 30)).cell? ⟨w.heap.size, 0, none⟩ = some (.int .i64 0) := cell_of (World.alloc_heap_new _ _) rfl
  have z1 : (w.alloc (.cells #[.int .i64 0, .int .i64 0, .int .i64 0] 30)).cell? ⟨w.heap.size, 1, none⟩ = some (.int .i64 0) := cell_of (World.alloc_heap_new _ _) rfl
  have z2 : (w.alloc (.cells #[.int .i64 0, .int .i64 0, .int .i64 0] 30)).cell? ⟨w.heap.size, 2, none⟩ = some (.int .i64 0) := cell_of (World.alloc_heap_new _ _) rfl
  refine (callsIn_wide (n := 6)).1 ?_
  refine callsIn_of_wp Try.func26 rfl trivial ?_
  simp only [Try.ntmps26, List.size_toArray, List.length_cons, List.length_nil, Nat.reduceAdd, Nat.reduceSub, Array.replicate_succ, Array.replicate_zero, List.push_toArray, List.append_toArray, List.nil_append, List.cons_append]
  gi_wp2
  refine bodyPost_ret (v := .tuple #[.agg #[.int .i64 0, .int .i64 0, .int .i64 0], .bool false]) (by simp [results, Try.results26, go_sem, z0, z1, z2]) rfl ⟨rfl, (Fr.refl _ _).alloc _⟩
set_option maxHeartbeats 2000000 in
set_option maxRecDepth 100000 in
theorem pop_cons (x : V3) (l : List V3) (n : Nat) (hl : l.length = n + 1) (hx : l[0]? = some x) (hn : n < 1000000) (room : Int) (bm b base : Nat) (v : Value) (w : World) (hp : PB w b room bm v) (hr : w.ownsRow base 30 3 v (n + 1) (vcs l)) (hne : v.ownBlock ≠ some b) :
    Calls Try.prog 26 #[.pointer (some ⟨b, 2, none⟩)] w fun en w' => en = .returned (.tuple #[.agg #[.int .i64 x.x, .int .i64 x.y, .int .i64 x.z], .bool true]) ∧
      ∃ v' l', (Heap l → Heap l') ∧ (x :: l').Perm l ∧ PB w' b room bm v' ∧ w'.ownsRow base 30 3 v' l'.length (vcs l') ∧ v'.ownBlock = v.ownBlock ∧ Fr (fun k => k = b ∨ v.ownBlock = some k) w w' := by
  obtain ⟨i0, hi, hz0, hz1, hz2⟩ := info_parts info30
  have hbl := lt_of_block hp
  obtain ⟨g, cap, rfl, hbg, hglt⟩ := hr.form (Nat.succ_pos _)
  have hgb : g ≠ b := fun e => hne (by rw [e]; rfl)
  obtain ⟨y, hy⟩ : ∃ y, l[n]? = some y := ⟨_, List.getElem?_eq_getElem (by omega)⟩
  obtain ⟨W0, hW0⟩ : ∃ W0, w.alloc (.cells #[.int .i64 0, .int .i64 0, .int .i64 0] 30) = W0 := ⟨_, rfl⟩
  have hf0 : Fr (fun k => k = b ∨ (Value.slice (some ⟨g, 0, none⟩) (n + 1) cap).ownBlock = some k) w W0 := by rw [← hW0]; exact (Fr.refl _ _).alloc _
  have hp0 : PB W0 b room bm (.slice (some ⟨g, 0, none⟩) (n + 1) cap) := by rw [← hW0]; exact ((Fr.refl (fun _ => False) _).alloc _).keep hp (fun h => h)
  have hr0 : W0.ownsRow base 30 3 (.slice (some ⟨g, 0, none⟩) (n + 1) cap) (n + 1) (vcs l) := by rw [← hW0]; exact hr.alloc _
  have hN : W0.heap[w.heap.size]? = some (.cells #[.int .i64 0, .int .i64 0, .int .i64 0] 30 (0, 0)) := by rw [← hW0]; exact World.alloc_heap_new _ _
  obtain ⟨p0, p1, p2, p3⟩ := hp0.cells
  have z0 : W0.cell? ⟨w.heap.size, 0, none⟩ = some (.int .i64 0) := cell_of hN rfl
  have z1 : W0.cell? ⟨w.heap.size, 1, none⟩ = some (.int .i64 0) := cell_of hN rfl
  have z2 : W0.cell? ⟨w.heap.size, 2, none⟩ = some (.int .i64 0) := cell_of hN rfl
  have f0 := not_frozen (k := 0) hN
  have f1 := not_frozen (k := 1) hN
  have f2 := not_frozen (k := 2) hN
  have hlt0 : 0 < l.length := by omega
  obtain ⟨c0, c1, c2⟩ : W0.cell? ⟨g, 0, none⟩ = some (.int .i64 l[0].x) ∧ W0.cell? ⟨g, 1, none⟩ = some (.int .i64 l[0].y) ∧ W0.cell? ⟨g, 2, none⟩ = some (.int .i64 l[0].z) := by have := row_at hr0 hlt0; simpa using this
  have ex : l[0] = x := by rw [List.getElem?_eq_getElem hlt0] at hx; injection hx
  rw [ex] at c0 c1 c2
  have hw1 : IntKind.i64.wrap (n : Int) = (n : Int) := by rw [IntKind.wrap_i64]; omega
  have hb1 : (0 : Int) < (n : Int) + 1 := by omega
  have hb2 : ¬ ((n : Int) < 0) := by omega
  refine (callsIn_wide (n := 6)).1 ?_
  refine callsIn_of_wp Try.func26 rfl trivial ?_
  simp only [Try.ntmps26, List.size_toArray, List.length_cons, List.length_nil, Nat.reduceAdd, Nat.reduceSub, Array.replicate_succ, Array.replicate_zero, List.push_toArray, List.append_toArray, List.nil_append, List.cons_append]
  gi_wp2
  obtain ⟨W1, hW1⟩ : ∃ W1, (((W0.setCell ⟨w.heap.size, 0, none⟩ (.int .i64 x.x)).setCell ⟨w.heap.size, 1, none⟩ (.int .i64 x.y)).setCell ⟨w.heap.size, 2, none⟩ (.int .i64 x.z)) = W1 := ⟨_, rfl⟩
  have hN1 : W1.heap[w.heap.size]? = some (.cells #[.int .i64 x.x, .int .i64 x.y, .int .i64 x.z] 30 (0, 0)) := by rw [← hW1]; exact set_block (set_block (set_block hN _) _) _
  have hf1 : Fr (fun k => k = w.heap.size) W0 W1 := by rw [← hW1]; exact (((Fr.refl (fun k => k = w.heap.size) W0).set _ (fun _ => rfl)).set _ (fun _ => rfl)).set _ (fun _ => rfl)
  have hp1 : PB W1 b room bm (.slice (some ⟨g, 0, none⟩) (n + 1) cap) := hf1.keep hp0 (by omega)
  have hgN : g < w.heap.size := hglt
  have hr1 : W1.ownsRow base 30 3 (.slice (some ⟨g, 0, none⟩) (n + 1) cap) (n + 1) (vcs l) := by rw [← hW1]; exact ((hr0.kept (grownBy_set _ _ _ _) (.inr (by simp [Value.ownBlock]; omega))).kept (grownBy_set _ _ _ _) (.inr (by simp [Value.ownBlock]; omega))).kept (grownBy_set _ _ _ _) (.inr (by simp [Value.ownBlock]; omega))
  rw [hW1]
  replace hf1 : Fr (fun k => k = b ∨ (Value.slice (some ⟨g, 0, none⟩) (n + 1) cap).ownBlock = some k) w W1 := hf0.trans hf1 (fun k hk e => by omega)
  have hnl : n < l.length := by omega
  have ey : l[n] = y := by rw [List.getElem?_eq_getElem hnl] at hy; injection hy
  obtain ⟨d0, d1, d2⟩ := row_at hr1 hnl
  rw [ey] at d0 d1 d2
  clear hW1 z0 z1 z2 f0 f1 f2 c0 c1 c2 hN p0 p1 p2 p3 hW0
  have hb3 : (n : Int) < (n : Int) + 1 := by omega
  have hS : (CellsL [(⟨b, 2, none⟩, .slice (some ⟨g, 0, none⟩) (n + 1) cap), (⟨g, n * 3, none⟩, .int .i64 y.x), (⟨g, n * 3 + 1, none⟩, .int .i64 y.y), (⟨g, n * 3 + 2, none⟩, .int .i64 y.z)]) (W1.drew) := ⟨hp1.cells.2.2.1, d0, d1, d2, trivial⟩
  refine wpIn_region_ord [(0, true), (1, true), (2, true), (3, true), (4, true), (5, true), (6, true), (7, true), (8, true), (9, true), (10, true), (11, true)] (CellsL [(⟨b, 2, none⟩, .slice (some ⟨g, 0, none⟩) (n + 1) cap), (⟨g, n * 3, none⟩, .int .i64 y.x), (⟨g, n * 3 + 1, none⟩, .int .i64 y.y), (⟨g, n * 3 + 2, none⟩, .int .i64 y.z)]) (fun _ => trivial) rfl (by first | exact then_put rfl | (intro c d v a w h; cases d <;> exact h)) (by kernel_rfl) ?_
  simp only [List.length_cons, List.length_nil, Nat.reduceAdd, List.drop_succ_cons, List.drop_zero]
  iterate 12 (apply wpOrd_quiet rfl hS rfl; (intro w' hw'; obtain ⟨q0, q1, q2, q3, _⟩ := hw'; go_simp; exact rfl); go_simp)
  refine wpOrd_nil ?_
  refine wpListIn_plain rfl fun K' hK' => ?_
  refine wpIn_put (v := y) hi hz1 (.tmp 33) (.tmp 32) rfl (k := 0) rfl rfl hr1.drew hlt0 ?_
  intro W2 hr2 hg2
  have hp2 : PB W2 b room bm (.slice (some ⟨g, 0, none⟩) (n + 1) cap) := (hg2.block b (lt_of_block hp1) (by simpa using Ne.symm hgb)).trans hp1
  have hN2 := (hg2.block w.heap.size (lt_of_block hN1) (by simp; omega)).trans hN1
  have hf2 := hf1.drew.grown hg2 (fun k hk _ => .inr hk)
  refine hK' _ _ ?_
  obtain ⟨p0, p1, p2, p3⟩ := hp2.cells
  have fz := not_frozen (k := 2) hp2
  have hcap : n + 1 ≤ cap := by
    rcases hr.2 with ⟨h, _⟩ | ⟨g', cap', cur, h, _, _, hc, _⟩
    · cases h
    · injection h with _ _ h3; omega
  have hc1 : (n : Int) ≤ (cap : Int) := by omega
  have hc2 : n ≤ cap := by omega
  clear d0 d1 d2 hS hK'
  have hp3 := hp2.set (.slice (some ⟨g, 0, none⟩) n cap)
  have hr3 : (W2.setCell ⟨b, 2, none⟩ (.slice (some ⟨g, 0, none⟩) n cap)).ownsRow base 30 3 (.slice (some ⟨g, 0, none⟩) n cap) n (vcs ((l.set 0 y).take n)) := own_take (hr2.kept (grownBy_set _ _ _ _) (.inr (by simp [Value.ownBlock]; exact hgb))) (by omega)
  have hN3 : (W2.setCell ⟨b, 2, none⟩ (.slice (some ⟨g, 0, none⟩) n cap)).heap[w.heap.size]? = some (.cells #[.int .i64 x.x, .int .i64 x.y, .int .i64 x.z] 30 (0, 0)) := ((grownBy_set _ _ _ _).block _ (lt_of_block hN2) (by simp; omega)).trans hN2
  have hf3 : Fr (fun k => k = b ∨ (Value.slice (some ⟨g, 0, none⟩) (n + 1) cap).ownBlock = some k) w (W2.setCell ⟨b, 2, none⟩ (.slice (some ⟨g, 0, none⟩) n cap)) := hf2.set _ (fun _ => .inl rfl)
  obtain ⟨hps1, hps2⟩ := pop_start hl x y hx hy
  gi_wp2
  clear hp2 hN2 hf2 p0 p1 p2 p3 fz hr2 hg2 hN1 hp1 hr1 hf1
  gi_loopw [5] (fun o wr => ∃ (k : Nat) (L : List V3), o = .int .i64 k ∧ k ≤ n ∧ L.length = n ∧ (Heap l → DownAt L k) ∧ (x :: L).Perm l ∧ PB wr b room bm (.slice (some ⟨g, 0, none⟩) n cap) ∧ wr.ownsRow base 30 3 (.slice (some ⟨g, 0, none⟩) n cap) n (vcs L) ∧
      wr.heap[w.heap.size]? = some (.cells #[.int .i64 x.x, .int .i64 x.y, .int .i64 x.z] 30 (0, 0)) ∧ Fr (fun k => k = b ∨ (Value.slice (some ⟨g, 0, none⟩) (n + 1) cap).ownBlock = some k) w wr) (fun o _ => n - (intOf o).toNat)
  case atStart => exact ⟨0, _, rfl, Nat.zero_le _, by rw [List.length_take, List.length_set]; omega, hps1, hps2, hp3, hr3, hN3, hf3⟩
  case round =>
    clear hp3 hr3 hN3 hf3 hps1 hps2
    obtain ⟨k, L, rfl, hkn, hL, hdn, hperm, hpw, hrw, hNw, hfw⟩ := hrel
    have hwa : IntKind.i64.wrap (2 * (k : Int)) = 2 * (k : Int) := by rw [IntKind.wrap_i64]; omega
    obtain ⟨c, hc⟩ : ∃ c, 2 * k + 1 = c := ⟨_, rfl⟩
    obtain ⟨e, he⟩ : ∃ e, c + 1 = e := ⟨_, rfl⟩
    have hwb : IntKind.i64.wrap (2 * (k : Int) + 1) = (c : Int) := by rw [IntKind.wrap_i64]; omega
    have hwe : IntKind.i64.wrap ((c : Int) + 1) = (e : Int) := by rw [IntKind.wrap_i64]; omega
    by_cases hcn : c < n
    · have hcni : (c : Int) < (n : Int) := by omega
      have hkni : (k : Int) < (n : Int) := by omega
      have kL : k < L.length := by omega
      have cL : c < L.length := by omega
      by_cases hen : e < n
      · have heni : (e : Int) < (n : Int) := by omega
        have eL : e < L.length := by omega
        gi_wp2
        obtain ⟨c0, c1, c2⟩ := row_at hrw eL
        obtain ⟨d0, d1, d2⟩ := row_at hrw cL
        have hS : (CellsL [(⟨b, 2, none⟩, .slice (some ⟨g, 0, none⟩) n cap), (⟨b, 3, none⟩, .func (.func 22) #[] #[]), (⟨g, e * 3, none⟩, .int .i64 L[e].x), (⟨g, e * 3 + 1, none⟩, .int .i64 L[e].y), (⟨g, e * 3 + 2, none⟩, .int .i64 L[e].z), (⟨g, c * 3, none⟩, .int .i64 L[c].x), (⟨g, c * 3 + 1, none⟩, .int .i64 L[c].y), (⟨g, c * 3 + 2, none⟩, .int .i64 L[c].z)]) (wr.drew) := ⟨hpw.cells.2.2.1, hpw.cells.2.2.2, c0, c1, c2, d0, d1, d2, trivial⟩
        refine wpIn_region_ord [(0, true), (1, true), (2, true), (3, true), (4, true), (5, true), (6, true), (7, true), (8, true), (9, true), (10, true), (11, true), (12, true), (13, true), (14, true), (15, true), (16, true), (17, true), (18, true), (19, true), (20, true), (21, true), (22, true), (23, true), (24, false)] (CellsL [(⟨b, 2, none⟩, .slice (some ⟨g, 0, none⟩) n cap), (⟨b, 3, none⟩, .func (.func 22) #[] #[]), (⟨g, e * 3, none⟩, .int .i64 L[e].x), (⟨g, e * 3 + 1, none⟩, .int .i64 L[e].y), (⟨g, e * 3 + 2, none⟩, .int .i64 L[e].z), (⟨g, c * 3, none⟩, .int .i64 L[c].x), (⟨g, c * 3 + 1, none⟩, .int .i64 L[c].y), (⟨g, c * 3 + 2, none⟩, .int .i64 L[c].z)]) (fun _ => trivial) rfl (by first | exact then_put rfl | (intro c d v a w h; cases d <;> exact h)) (by kernel_rfl) ?_
        simp only [List.length_cons, List.length_nil, Nat.reduceAdd, List.drop_succ_cons, List.drop_zero]
        iterate 24 (apply wpOrd_quiet rfl hS rfl; (intro w' hw'; obtain ⟨q0, q1, q2, q3, q4, q5, q6, q7, _⟩ := hw'; go_simp; exact rfl); go_simp)
        refine wpOrd_move rfl rfl ?_
        go_simp
        refine ⟨trivial, (callsIn_wide.2 (less_any L[e] L[c] _)).mono ?_⟩
        rintro en w5 ⟨rfl, hb_w5⟩
        have hf_w5 := hfw.drew.below hb_w5
        have hp_w5 : PB w5 b room bm (.slice (some ⟨g, 0, none⟩) n cap) := (hb_w5.block b (lt_of_block hpw)).trans hpw
        have hr_w5 := own_below hrw.drew hb_w5
        have hN_w5 := (hb_w5.block w.heap.size (lt_of_block hNw)).trans hNw
        obtain ⟨c0, c1, c2⟩ := row_at hr_w5 eL
        obtain ⟨d0, d1, d2⟩ := row_at hr_w5 cL
        replace hS : CellsL [(⟨b, 2, none⟩, .slice (some ⟨g, 0, none⟩) n cap), (⟨b, 3, none⟩, .func (.func 22) #[] #[]), (⟨g, e * 3, none⟩, .int .i64 L[e].x), (⟨g, e * 3 + 1, none⟩, .int .i64 L[e].y), (⟨g, e * 3 + 2, none⟩, .int .i64 L[e].z), (⟨g, c * 3, none⟩, .int .i64 L[c].x), (⟨g, c * 3 + 1, none⟩, .int .i64 L[c].y), (⟨g, c * 3 + 2, none⟩, .int .i64 L[c].z)] w5 := ⟨hp_w5.cells.2.2.1, hp_w5.cells.2.2.2, c0, c1, c2, d0, d1, d2, trivial⟩
        refine ⟨hS, ?_⟩
        go_simp
        refine wpOrd_nil ?_
        clear c0 c1 c2 d0 d1 d2 hS
        generalize hle : lessV L[e] L[c] = t1
        cases t1
        · gi_wp2
          have hmin : ∀ j x', 0 < j → (j - 1) / 2 = k → L[j]? = some x' → lessV x' L[c] = false := by
            intro j x' h0 hj hx'
            rcases child h0 hj with h | h
            · have hjc : j = c := by omega
              subst hjc
              rw [List.getElem?_eq_getElem cL] at hx'
              injection hx' with hx'
              rw [← hx']; exact lessV_irrefl _
            · have hje : j = e := by omega
              subst hje
              rw [List.getElem?_eq_getElem eL] at hx'
              injection hx' with hx'
              rw [← hx']; exact hle
          obtain ⟨c0, c1, c2⟩ := row_at hr_w5 cL
          obtain ⟨d0, d1, d2⟩ := row_at hr_w5 kL
          have hS : (CellsL [(⟨b, 2, none⟩, .slice (some ⟨g, 0, none⟩) n cap), (⟨b, 3, none⟩, .func (.func 22) #[] #[]), (⟨g, c * 3, none⟩, .int .i64 L[c].x), (⟨g, c * 3 + 1, none⟩, .int .i64 L[c].y), (⟨g, c * 3 + 2, none⟩, .int .i64 L[c].z), (⟨g, k * 3, none⟩, .int .i64 L[k].x), (⟨g, k * 3 + 1, none⟩, .int .i64 L[k].y), (⟨g, k * 3 + 2, none⟩, .int .i64 L[k].z)]) (w5.drew) := ⟨hp_w5.cells.2.2.1, hp_w5.cells.2.2.2, c0, c1, c2, d0, d1, d2, trivial⟩
          refine wpIn_region_ord [(0, true), (1, true), (2, true), (3, true), (4, true), (5, true), (6, true), (7, true), (8, true), (9, true), (10, true), (11, true), (12, true), (13, true), (14, true), (15, true), (16, true), (17, true), (18, false)] (CellsL [(⟨b, 2, none⟩, .slice (some ⟨g, 0, none⟩) n cap), (⟨b, 3, none⟩, .func (.func 22) #[] #[]), (⟨g, c * 3, none⟩, .int .i64 L[c].x), (⟨g, c * 3 + 1, none⟩, .int .i64 L[c].y), (⟨g, c * 3 + 2, none⟩, .int .i64 L[c].z), (⟨g, k * 3, none⟩, .int .i64 L[k].x), (⟨g, k * 3 + 1, none⟩, .int .i64 L[k].y), (⟨g, k * 3 + 2, none⟩, .int .i64 L[k].z)]) (fun _ => trivial) rfl (by first | exact then_put rfl | (intro c d v a w h; cases d <;> exact h)) (by kernel_rfl) ?_
          simp only [List.length_cons, List.length_nil, Nat.reduceAdd, List.drop_succ_cons, List.drop_zero]
          iterate 18 (apply wpOrd_quiet rfl hS rfl; (intro w' hw'; obtain ⟨q0, q1, q2, q3, q4, q5, q6, q7, _⟩ := hw'; go_simp; exact rfl); go_simp)
          refine wpOrd_move rfl rfl ?_
          go_simp
          refine ⟨trivial, (callsIn_wide.2 (less_any L[c] L[k] _)).mono ?_⟩
          rintro en w6 ⟨rfl, hb_w6⟩
          have hf_w6 := hf_w5.drew.below hb_w6
          have hp_w6 : PB w6 b room bm (.slice (some ⟨g, 0, none⟩) n cap) := (hb_w6.block b (lt_of_block hp_w5)).trans hp_w5
          have hr_w6 := own_below hr_w5.drew hb_w6
          have hN_w6 := (hb_w6.block w.heap.size (lt_of_block hN_w5)).trans hN_w5
          obtain ⟨c0, c1, c2⟩ := row_at hr_w6 cL
          obtain ⟨d0, d1, d2⟩ := row_at hr_w6 kL
          replace hS : CellsL [(⟨b, 2, none⟩, .slice (some ⟨g, 0, none⟩) n cap), (⟨b, 3, none⟩, .func (.func 22) #[] #[]), (⟨g, c * 3, none⟩, .int .i64 L[c].x), (⟨g, c * 3 + 1, none⟩, .int .i64 L[c].y), (⟨g, c * 3 + 2, none⟩, .int .i64 L[c].z), (⟨g, k * 3, none⟩, .int .i64 L[k].x), (⟨g, k * 3 + 1, none⟩, .int .i64 L[k].y), (⟨g, k * 3 + 2, none⟩, .int .i64 L[k].z)] w6 := ⟨hp_w6.cells.2.2.1, hp_w6.cells.2.2.2, c0, c1, c2, d0, d1, d2, trivial⟩
          refine ⟨hS, ?_⟩
          go_simp
          refine wpOrd_nil ?_
          clear c0 c1 c2 d0 d1 d2 hS
          generalize hlk : lessV L[c] L[k] = t2
          cases t2
          · have hNc0 := cell_of hN_w6 (j := 0) rfl
            have hNc1 := cell_of hN_w6 (j := 1) rfl
            have hNc2 := cell_of hN_w6 (j := 2) rfl
            have hNf0 := not_frozen (k := 0) hN_w6
            have hNf1 := not_frozen (k := 1) hN_w6
            have hNf2 := not_frozen (k := 2) hN_w6
            gi_wp2
            obtain ⟨e1, e2, e3, e4⟩ := after_N hN_w6 rfl (.int .i64 x.x) (.int .i64 x.y) (.int .i64 x.z) hp_w6 hr_w6 hf_w6 (by omega) (by omega) (Nat.le_refl _)
            have r0 := cell_of e4 (j := 0) rfl
            have r1 := cell_of e4 (j := 1) rfl
            have r2 := cell_of e4 (j := 2) rfl
            refine bodyPost_ret (v := .tuple #[.agg #[.int .i64 x.x, .int .i64 x.y, .int .i64 x.z], .bool true]) (by simp [results, Try.results26, go_sem, r0, r1, r2]) rfl ⟨rfl, _, L, ?_, hperm, e1, by rw [hL]; exact e2, rfl, e3⟩
            exact fun h => (hdn h).done fun j x' y' h0 hj hx' hy' => by
                rw [List.getElem?_eq_getElem kL] at hy'
                injection hy' with hy'
                rw [← hy']
                exact nless_trans hlk (hmin j x' h0 hj hx')
          · gi_wp2
            obtain ⟨c0, c1, c2⟩ := row_at hr_w6 cL
            obtain ⟨d0, d1, d2⟩ := row_at hr_w6 kL
            have hS : (fun ph wS => bif ph then CellsL [(⟨b, 2, none⟩, .slice (some ⟨g, 0, none⟩) n cap)] wS else CellsL [(⟨b, 2, none⟩, .slice (some ⟨g, 0, none⟩) n cap), (⟨g, c * 3, none⟩, .int .i64 L[c].x), (⟨g, c * 3 + 1, none⟩, .int .i64 L[c].y), (⟨g, c * 3 + 2, none⟩, .int .i64 L[c].z), (⟨g, k * 3, none⟩, .int .i64 L[k].x), (⟨g, k * 3 + 1, none⟩, .int .i64 L[k].y), (⟨g, k * 3 + 2, none⟩, .int .i64 L[k].z)] wS) false (w6.drew) := ⟨hp_w6.cells.2.2.1, c0, c1, c2, d0, d1, d2, trivial⟩
            refine wpIn_region_ordP [(0, true), (1, true), (2, true), (3, true), (4, true), (5, true), (6, true), (7, true), (8, true), (9, true), (10, true), (11, true), (12, true), (13, true), (14, true), (15, true), (16, true), (17, true), (18, true), (19, true), (20, true), (21, true), (22, true), (23, true), (24, true), (25, false), (26, true)] 25 (fun ph wS => bif ph then CellsL [(⟨b, 2, none⟩, .slice (some ⟨g, 0, none⟩) n cap)] wS else CellsL [(⟨b, 2, none⟩, .slice (some ⟨g, 0, none⟩) n cap), (⟨g, c * 3, none⟩, .int .i64 L[c].x), (⟨g, c * 3 + 1, none⟩, .int .i64 L[c].y), (⟨g, c * 3 + 2, none⟩, .int .i64 L[c].z), (⟨g, k * 3, none⟩, .int .i64 L[k].x), (⟨g, k * 3 + 1, none⟩, .int .i64 L[k].y), (⟨g, k * 3 + 2, none⟩, .int .i64 L[k].z)] wS) (fun _ => trivial) rfl (by first | exact then_put rfl | (intro c d v a w h; cases d <;> exact h)) (by kernel_rfl) ?_
            simp only [List.length_cons, List.length_nil, Nat.reduceAdd, List.drop_succ_cons, List.drop_zero]
            apply wpOrdP_any rfl hS rfl; (intro w'; go_simp; exact rfl); go_simp
            apply wpOrdP_any rfl hS rfl; (intro w'; go_simp; exact rfl); go_simp
            apply wpOrdP_any rfl hS rfl; (intro w'; go_simp; exact rfl); go_simp
            apply wpOrdP_ahead rfl hS rfl (by kernel_rfl); (intro w' hw'; obtain ⟨q0, q1, q2, q3, q4, q5, q6, _⟩ := hw'; go_simp; exact rfl); go_simp
            apply wpOrdP_any rfl hS rfl; (intro w'; go_simp; exact rfl); go_simp
            apply wpOrdP_any rfl hS rfl; (intro w'; go_simp; exact rfl); go_simp
            apply wpOrdP_any rfl hS rfl; (intro w'; go_simp; exact rfl); go_simp
            apply wpOrdP_any rfl hS rfl; (intro w'; go_simp; exact rfl); go_simp
            apply wpOrdP_ahead rfl hS rfl (by kernel_rfl); (intro w' hw'; obtain ⟨q0, q1, q2, q3, q4, q5, q6, _⟩ := hw'; go_simp; exact rfl); go_simp
            apply wpOrdP_any rfl hS rfl; (intro w'; go_simp; exact rfl); go_simp
            apply wpOrdP_any rfl hS rfl; (intro w'; go_simp; exact rfl); go_simp
            apply wpOrdP_any rfl hS rfl; (intro w'; go_simp; exact rfl); go_simp
            apply wpOrdP_any rfl hS rfl; (intro w'; go_simp; exact rfl); go_simp
            apply wpOrdP_ahead rfl hS rfl (by kernel_rfl); (intro w' hw'; obtain ⟨q0, q1, q2, q3, q4, q5, q6, _⟩ := hw'; go_simp; exact rfl); go_simp
            apply wpOrdP_any rfl hS rfl; (intro w'; go_simp; exact rfl); go_simp
            apply wpOrdP_any rfl hS rfl; (intro w'; go_simp; exact rfl); go_simp
            apply wpOrdP_ahead rfl hS rfl (by kernel_rfl); (intro w' hw'; obtain ⟨q0, q1, q2, q3, q4, q5, q6, _⟩ := hw'; go_simp; exact rfl); go_simp
            apply wpOrdP_any rfl hS rfl; (intro w'; go_simp; exact rfl); go_simp
            apply wpOrdP_any rfl hS rfl; (intro w'; go_simp; exact rfl); go_simp
            apply wpOrdP_any rfl hS rfl; (intro w'; go_simp; exact rfl); go_simp
            apply wpOrdP_ahead rfl hS rfl (by kernel_rfl); (intro w' hw'; obtain ⟨q0, q1, q2, q3, q4, q5, q6, _⟩ := hw'; go_simp; exact rfl); go_simp
            apply wpOrdP_any rfl hS rfl; (intro w'; go_simp; exact rfl); go_simp
            apply wpOrdP_any rfl hS rfl; (intro w'; go_simp; exact rfl); go_simp
            apply wpOrdP_ahead rfl hS rfl (by kernel_rfl); (intro w' hw'; obtain ⟨q0, q1, q2, q3, q4, q5, q6, _⟩ := hw'; go_simp; exact rfl); go_simp
            apply wpOrdP_any rfl hS rfl; (intro w'; go_simp; exact rfl); go_simp
            refine wpOrdP_move rfl rfl ?_
            refine wpIn_put (v := L[k]) hi hz1 (.tmp 123) (.tmp 115) rfl (k := c) rfl rfl hr_w6.drew cL ?_
            intro w7 hr_w7 hg7
            have hp_w7 : PB w7 b room bm (.slice (some ⟨g, 0, none⟩) n cap) := (hg7.block b (lt_of_block hp_w6) (by simpa using Ne.symm hgb)).trans hp_w6
            have hN_w7 := (hg7.block w.heap.size (lt_of_block hN_w6) (by simp; omega)).trans hN_w6
            have hf_w7 := hf_w6.drew.grown hg7 (fun k hk _ => .inr hk)
            replace hS : (fun ph w => bif ph then CellsL [(⟨b, 2, none⟩, .slice (some ⟨g, 0, none⟩) n cap)] w else CellsL [(⟨b, 2, none⟩, .slice (some ⟨g, 0, none⟩) n cap), (⟨g, c * 3, none⟩, .int .i64 L[c].x), (⟨g, c * 3 + 1, none⟩, .int .i64 L[c].y), (⟨g, c * 3 + 2, none⟩, .int .i64 L[c].z), (⟨g, k * 3, none⟩, .int .i64 L[k].x), (⟨g, k * 3 + 1, none⟩, .int .i64 L[k].y), (⟨g, k * 3 + 2, none⟩, .int .i64 L[k].z)] w : Bool → World → Prop) (false || 25 == 25) w7 := ⟨hp_w7.cells.2.2.1, trivial⟩
            refine ⟨hS, ?_⟩
            go_simp
            apply wpOrdP_any rfl hS rfl; (intro w'; go_simp; exact rfl); go_simp
            refine wpOrdP_nil ?_
            refine wpListIn_plain rfl fun K' hK' => ?_
            refine wpIn_put (v := L[c]) hi hz1 (.tmp 124) (.tmp 122) rfl (k := k) rfl rfl hr_w7 (by rw [List.length_set]; exact kL) ?_
            intro w8 hr_w8 hg8
            have hp_w8 : PB w8 b room bm (.slice (some ⟨g, 0, none⟩) n cap) := (hg8.block b (lt_of_block hp_w7) (by simpa using Ne.symm hgb)).trans hp_w7
            have hN_w8 := (hg8.block w.heap.size (lt_of_block hN_w7) (by simp; omega)).trans hN_w7
            have hf_w8 := hf_w7.grown hg8 (fun k hk _ => .inr hk)
            refine hK' _ _ ?_
            have hsw : (L.set c L[k]).set k L[c] = swapL L c k := by
              unfold swapL
              simp only [List.getElem?_eq_getElem cL, List.getElem?_eq_getElem kL]
            rw [hsw] at hr_w8
            clear hS hK' c0 c1 c2 d0 d1 d2 hr_w7 hp_w7 hN_w7 hf_w7 hr_w6 hp_w6 hN_w6 hf_w6
            gi_wp2
            refine ⟨⟨c, swapL L c k, rfl, by omega, by rw [swapL_length]; exact hL, fun h => ?_, ((swapL_perm cL kL).cons _).trans hperm, hp_w8, hr_w8, hN_w8, hf_w8⟩, by simp [intOf]; omega⟩
            refine (hdn h).step (by omega) cL (by omega) (fun x' y' hx' hy' => ?_) (fun j x' y' h0 hj hx' hy' => ?_)
            · rw [List.getElem?_eq_getElem cL] at hx'
              rw [List.getElem?_eq_getElem kL] at hy'
              injection hx' with hx'; injection hy' with hy'
              rw [← hx', ← hy']; exact hlk
            · rw [List.getElem?_eq_getElem cL] at hy'
              injection hy' with hy'
              rw [← hy']
              exact hmin j x' h0 hj hx'
        · gi_wp2
          have hmin : ∀ j x', 0 < j → (j - 1) / 2 = k → L[j]? = some x' → lessV x' L[e] = false := by
            intro j x' h0 hj hx'
            rcases child h0 hj with h | h
            · have hjc : j = c := by omega
              subst hjc
              rw [List.getElem?_eq_getElem cL] at hx'
              injection hx' with hx'
              rw [← hx']; exact nless_of_less hle
            · have hje : j = e := by omega
              subst hje
              rw [List.getElem?_eq_getElem eL] at hx'
              injection hx' with hx'
              rw [← hx']; exact lessV_irrefl _
          obtain ⟨c0, c1, c2⟩ := row_at hr_w5 eL
          obtain ⟨d0, d1, d2⟩ := row_at hr_w5 kL
          have hS : (CellsL [(⟨b, 2, none⟩, .slice (some ⟨g, 0, none⟩) n cap), (⟨b, 3, none⟩, .func (.func 22) #[] #[]), (⟨g, e * 3, none⟩, .int .i64 L[e].x), (⟨g, e * 3 + 1, none⟩, .int .i64 L[e].y), (⟨g, e * 3 + 2, none⟩, .int .i64 L[e].z), (⟨g, k * 3, none⟩, .int .i64 L[k].x), (⟨g, k * 3 + 1, none⟩, .int .i64 L[k].y), (⟨g, k * 3 + 2, none⟩, .int .i64 L[k].z)]) (w5.drew) := ⟨hp_w5.cells.2.2.1, hp_w5.cells.2.2.2, c0, c1, c2, d0, d1, d2, trivial⟩
          refine wpIn_region_ord [(0, true), (1, true), (2, true), (3, true), (4, true), (5, true), (6, true), (7, true), (8, true), (9, true), (10, true), (11, true), (12, true), (13, true), (14, true), (15, true), (16, true), (17, true), (18, false)] (CellsL [(⟨b, 2, none⟩, .slice (some ⟨g, 0, none⟩) n cap), (⟨b, 3, none⟩, .func (.func 22) #[] #[]), (⟨g, e * 3, none⟩, .int .i64 L[e].x), (⟨g, e * 3 + 1, none⟩, .int .i64 L[e].y), (⟨g, e * 3 + 2, none⟩, .int .i64 L[e].z), (⟨g, k * 3, none⟩, .int .i64 L[k].x), (⟨g, k * 3 + 1, none⟩, .int .i64 L[k].y), (⟨g, k * 3 + 2, none⟩, .int .i64 L[k].z)]) (fun _ => trivial) rfl (by first | exact then_put rfl | (intro c d v a w h; cases d <;> exact h)) (by kernel_rfl) ?_
          simp only [List.length_cons, List.length_nil, Nat.reduceAdd, List.drop_succ_cons, List.drop_zero]
          iterate 18 (apply wpOrd_quiet rfl hS rfl; (intro w' hw'; obtain ⟨q0, q1, q2, q3, q4, q5, q6, q7, _⟩ := hw'; go_simp; exact rfl); go_simp)
          refine wpOrd_move rfl rfl ?_
          go_simp
          refine ⟨trivial, (callsIn_wide.2 (less_any L[e] L[k] _)).mono ?_⟩
          rintro en w6 ⟨rfl, hb_w6⟩
          have hf_w6 := hf_w5.drew.below hb_w6
          have hp_w6 : PB w6 b room bm (.slice (some ⟨g, 0, none⟩) n cap) := (hb_w6.block b (lt_of_block hp_w5)).trans hp_w5
          have hr_w6 := own_below hr_w5.drew hb_w6
          have hN_w6 := (hb_w6.block w.heap.size (lt_of_block hN_w5)).trans hN_w5
          obtain ⟨c0, c1, c2⟩ := row_at hr_w6 eL
          obtain ⟨d0, d1, d2⟩ := row_at hr_w6 kL
          replace hS : CellsL [(⟨b, 2, none⟩, .slice (some ⟨g, 0, none⟩) n cap), (⟨b, 3, none⟩, .func (.func 22) #[] #[]), (⟨g, e * 3, none⟩, .int .i64 L[e].x), (⟨g, e * 3 + 1, none⟩, .int .i64 L[e].y), (⟨g, e * 3 + 2, none⟩, .int .i64 L[e].z), (⟨g, k * 3, none⟩, .int .i64 L[k].x), (⟨g, k * 3 + 1, none⟩, .int .i64 L[k].y), (⟨g, k * 3 + 2, none⟩, .int .i64 L[k].z)] w6 := ⟨hp_w6.cells.2.2.1, hp_w6.cells.2.2.2, c0, c1, c2, d0, d1, d2, trivial⟩
          refine ⟨hS, ?_⟩
          go_simp
          refine wpOrd_nil ?_
          clear c0 c1 c2 d0 d1 d2 hS
          generalize hlk : lessV L[e] L[k] = t2
          cases t2
          · have hNc0 := cell_of hN_w6 (j := 0) rfl
            have hNc1 := cell_of hN_w6 (j := 1) rfl
            have hNc2 := cell_of hN_w6 (j := 2) rfl
            have hNf0 := not_frozen (k := 0) hN_w6
            have hNf1 := not_frozen (k := 1) hN_w6
            have hNf2 := not_frozen (k := 2) hN_w6
            gi_wp2
            obtain ⟨e1, e2, e3, e4⟩ := after_N hN_w6 rfl (.int .i64 x.x) (.int .i64 x.y) (.int .i64 x.z) hp_w6 hr_w6 hf_w6 (by omega) (by omega) (Nat.le_refl _)
            have r0 := cell_of e4 (j := 0) rfl
            have r1 := cell_of e4 (j := 1) rfl
            have r2 := cell_of e4 (j := 2) rfl
            refine bodyPost_ret (v := .tuple #[.agg #[.int .i64 x.x, .int .i64 x.y, .int .i64 x.z], .bool true]) (by simp [results, Try.results26, go_sem, r0, r1, r2]) rfl ⟨rfl, _, L, ?_, hperm, e1, by rw [hL]; exact e2, rfl, e3⟩
            exact fun h => (hdn h).done fun j x' y' h0 hj hx' hy' => by
                rw [List.getElem?_eq_getElem kL] at hy'
                injection hy' with hy'
                rw [← hy']
                exact nless_trans hlk (hmin j x' h0 hj hx')
          · gi_wp2
            obtain ⟨c0, c1, c2⟩ := row_at hr_w6 eL
            obtain ⟨d0, d1, d2⟩ := row_at hr_w6 kL
            have hS : (fun ph wS => bif ph then CellsL [(⟨b, 2, none⟩, .slice (some ⟨g, 0, none⟩) n cap)] wS else CellsL [(⟨b, 2, none⟩, .slice (some ⟨g, 0, none⟩) n cap), (⟨g, e * 3, none⟩, .int .i64 L[e].x), (⟨g, e * 3 + 1, none⟩, .int .i64 L[e].y), (⟨g, e * 3 + 2, none⟩, .int .i64 L[e].z), (⟨g, k * 3, none⟩, .int .i64 L[k].x), (⟨g, k * 3 + 1, none⟩, .int .i64 L[k].y), (⟨g, k * 3 + 2, none⟩, .int .i64 L[k].z)] wS) false (w6.drew) := ⟨hp_w6.cells.2.2.1, c0, c1, c2, d0, d1, d2, trivial⟩
            refine wpIn_region_ordP [(0, true), (1, true), (2, true), (3, true), (4, true), (5, true), (6, true), (7, true), (8, true), (9, true), (10, true), (11, true), (12, true), (13, true), (14, true), (15, true), (16, true), (17, true), (18, true), (19, true), (20, true), (21, true), (22, true), (23, true), (24, true), (25, false), (26, true)] 25 (fun ph wS => bif ph then CellsL [(⟨b, 2, none⟩, .slice (some ⟨g, 0, none⟩) n cap)] wS else CellsL [(⟨b, 2, none⟩, .slice (some ⟨g, 0, none⟩) n cap), (⟨g, e * 3, none⟩, .int .i64 L[e].x), (⟨g, e * 3 + 1, none⟩, .int .i64 L[e].y), (⟨g, e * 3 + 2, none⟩, .int .i64 L[e].z), (⟨g, k * 3, none⟩, .int .i64 L[k].x), (⟨g, k * 3 + 1, none⟩, .int .i64 L[k].y), (⟨g, k * 3 + 2, none⟩, .int .i64 L[k].z)] wS) (fun _ => trivial) rfl (by first | exact then_put rfl | (intro c d v a w h; cases d <;> exact h)) (by kernel_rfl) ?_
            simp only [List.length_cons, List.length_nil, Nat.reduceAdd, List.drop_succ_cons, List.drop_zero]
            apply wpOrdP_any rfl hS rfl; (intro w'; go_simp; exact rfl); go_simp
            apply wpOrdP_any rfl hS rfl; (intro w'; go_simp; exact rfl); go_simp
            apply wpOrdP_any rfl hS rfl; (intro w'; go_simp; exact rfl); go_simp
            apply wpOrdP_ahead rfl hS rfl (by kernel_rfl); (intro w' hw'; obtain ⟨q0, q1, q2, q3, q4, q5, q6, _⟩ := hw'; go_simp; exact rfl); go_simp
            apply wpOrdP_any rfl hS rfl; (intro w'; go_simp; exact rfl); go_simp
            apply wpOrdP_any rfl hS rfl; (intro w'; go_simp; exact rfl); go_simp
            apply wpOrdP_any rfl hS rfl; (intro w'; go_simp; exact rfl); go_simp
            apply wpOrdP_any rfl hS rfl; (intro w'; go_simp; exact rfl); go_simp
            apply wpOrdP_ahead rfl hS rfl (by kernel_rfl); (intro w' hw'; obtain ⟨q0, q1, q2, q3, q4, q5, q6, _⟩ := hw'; go_simp; exact rfl); go_simp
            apply wpOrdP_any rfl hS rfl; (intro w'; go_simp; exact rfl); go_simp
            apply wpOrdP_any rfl hS rfl; (intro w'; go_simp; exact rfl); go_simp
            apply wpOrdP_any rfl hS rfl; (intro w'; go_simp; exact rfl); go_simp
            apply wpOrdP_any rfl hS rfl; (intro w'; go_simp; exact rfl); go_simp
            apply wpOrdP_ahead rfl hS rfl (by kernel_rfl); (intro w' hw'; obtain ⟨q0, q1, q2, q3, q4, q5, q6, _⟩ := hw'; go_simp; exact rfl); go_simp
            apply wpOrdP_any rfl hS rfl; (intro w'; go_simp; exact rfl); go_simp
            apply wpOrdP_any rfl hS rfl; (intro w'; go_simp; exact rfl); go_simp
            apply wpOrdP_ahead rfl hS rfl (by kernel_rfl); (intro w' hw'; obtain ⟨q0, q1, q2, q3, q4, q5, q6, _⟩ := hw'; go_simp; exact rfl); go_simp
            apply wpOrdP_any rfl hS rfl; (intro w'; go_simp; exact rfl); go_simp
            apply wpOrdP_any rfl hS rfl; (intro w'; go_simp; exact rfl); go_simp
            apply wpOrdP_any rfl hS rfl; (intro w'; go_simp; exact rfl); go_simp
            apply wpOrdP_ahead rfl hS rfl (by kernel_rfl); (intro w' hw'; obtain ⟨q0, q1, q2, q3, q4, q5, q6, _⟩ := hw'; go_simp; exact rfl); go_simp
            apply wpOrdP_any rfl hS rfl; (intro w'; go_simp; exact rfl); go_simp
            apply wpOrdP_any rfl hS rfl; (intro w'; go_simp; exact rfl); go_simp
            apply wpOrdP_ahead rfl hS rfl (by kernel_rfl); (intro w' hw'; obtain ⟨q0, q1, q2, q3, q4, q5, q6, _⟩ := hw'; go_simp; exact rfl); go_simp
            apply wpOrdP_any rfl hS rfl; (intro w'; go_simp; exact rfl); go_simp
            refine wpOrdP_move rfl rfl ?_
            refine wpIn_put (v := L[k]) hi hz1 (.tmp 123) (.tmp 115) rfl (k := e) rfl rfl hr_w6.drew eL ?_
            intro w7 hr_w7 hg7
            have hp_w7 : PB w7 b room bm (.slice (some ⟨g, 0, none⟩) n cap) := (hg7.block b (lt_of_block hp_w6) (by simpa using Ne.symm hgb)).trans hp_w6
            have hN_w7 := (hg7.block w.heap.size (lt_of_block hN_w6) (by simp; omega)).trans hN_w6
            have hf_w7 := hf_w6.drew.grown hg7 (fun k hk _ => .inr hk)
            replace hS : (fun ph w => bif ph then CellsL [(⟨b, 2, none⟩, .slice (some ⟨g, 0, none⟩) n cap)] w else CellsL [(⟨b, 2, none⟩, .slice (some ⟨g, 0, none⟩) n cap), (⟨g, e * 3, none⟩, .int .i64 L[e].x), (⟨g, e * 3 + 1, none⟩, .int .i64 L[e].y), (⟨g, e * 3 + 2, none⟩, .int .i64 L[e].z), (⟨g, k * 3, none⟩, .int .i64 L[k].x), (⟨g, k * 3 + 1, none⟩, .int .i64 L[k].y), (⟨g, k * 3 + 2, none⟩, .int .i64 L[k].z)] w : Bool → World → Prop) (false || 25 == 25) w7 := ⟨hp_w7.cells.2.2.1, trivial⟩
            refine ⟨hS, ?_⟩
            go_simp
            apply wpOrdP_any rfl hS rfl; (intro w'; go_simp; exact rfl); go_simp
            refine wpOrdP_nil ?_
            refine wpListIn_plain rfl fun K' hK' => ?_
            refine wpIn_put (v := L[e]) hi hz1 (.tmp 124) (.tmp 122) rfl (k := k) rfl rfl hr_w7 (by rw [List.length_set]; exact kL) ?_
            intro w8 hr_w8 hg8
            have hp_w8 : PB w8 b room bm (.slice (some ⟨g, 0, none⟩) n cap) := (hg8.block b (lt_of_block hp_w7) (by simpa using Ne.symm hgb)).trans hp_w7
            have hN_w8 := (hg8.block w.heap.size (lt_of_block hN_w7) (by simp; omega)).trans hN_w7
            have hf_w8 := hf_w7.grown hg8 (fun k hk _ => .inr hk)
            refine hK' _ _ ?_
            have hsw : (L.set e L[k]).set k L[e] = swapL L e k := by
              unfold swapL
              simp only [List.getElem?_eq_getElem eL, List.getElem?_eq_getElem kL]
            rw [hsw] at hr_w8
            clear hS hK' c0 c1 c2 d0 d1 d2 hr_w7 hp_w7 hN_w7 hf_w7 hr_w6 hp_w6 hN_w6 hf_w6
            gi_wp2
            refine ⟨⟨e, swapL L e k, rfl, by omega, by rw [swapL_length]; exact hL, fun h => ?_, ((swapL_perm eL kL).cons _).trans hperm, hp_w8, hr_w8, hN_w8, hf_w8⟩, by simp [intOf]; omega⟩
            refine (hdn h).step (by omega) eL (by omega) (fun x' y' hx' hy' => ?_) (fun j x' y' h0 hj hx' hy' => ?_)
            · rw [List.getElem?_eq_getElem eL] at hx'
              rw [List.getElem?_eq_getElem kL] at hy'
              injection hx' with hx'; injection hy' with hy'
              rw [← hx', ← hy']; exact hlk
            · rw [List.getElem?_eq_getElem eL] at hy'
              injection hy' with hy'
              rw [← hy']
              exact hmin j x' h0 hj hx'
      · have heni : ¬ (e : Int) < (n : Int) := by omega
        gi_wp2
        have hS : (CellsL [(⟨b, 2, none⟩, .slice (some ⟨g, 0, none⟩) n cap)]) (wr.drew) := ⟨hpw.cells.2.2.1, trivial⟩
        refine wpIn_region_ord [(0, true), (1, true), (2, true), (3, true), (4, true), (5, true), (6, true), (7, true), (8, true), (9, true), (10, true), (11, true), (12, true), (13, true), (14, true), (15, true), (16, true), (17, true), (18, true), (19, true), (20, true), (21, true), (22, true), (23, true), (24, true)] (CellsL [(⟨b, 2, none⟩, .slice (some ⟨g, 0, none⟩) n cap)]) (fun _ => trivial) rfl (by first | exact then_put rfl | (intro c d v a w h; cases d <;> exact h)) (by kernel_rfl) ?_
        simp only [List.length_cons, List.length_nil, Nat.reduceAdd, List.drop_succ_cons, List.drop_zero]
        iterate 5 (apply wpOrd_quiet rfl hS rfl; (intro w' hw'; obtain ⟨q0, _⟩ := hw'; go_simp; exact rfl); go_simp)
        iterate 20 (refine wpOrd_off rfl hS (by rfl) ?_; go_simp)
        refine wpOrd_nil ?_
        clear hS
        have hp_w5 : PB wr.drew b room bm (.slice (some ⟨g, 0, none⟩) n cap) := hpw
        have hr_w5 := hrw.drew
        have hN_w5 : wr.drew.heap[w.heap.size]? = _ := hNw
        have hf_w5 := hfw.drew
        obtain ⟨w5, hw5⟩ : ∃ w5, wr.drew = w5 := ⟨_, rfl⟩
        rw [hw5] at hp_w5 hr_w5 hN_w5 hf_w5 ⊢
        clear hw5
        gi_wp2
        have hmin : ∀ j x', 0 < j → (j - 1) / 2 = k → L[j]? = some x' → lessV x' L[c] = false := by
          intro j x' h0 hj hx'
          rcases child h0 hj with h | h
          · have hjc : j = c := by omega
            subst hjc
            rw [List.getElem?_eq_getElem cL] at hx'
            injection hx' with hx'
            rw [← hx']; exact lessV_irrefl _
          · have : j < L.length := by
              rcases Nat.lt_or_ge j L.length with h1 | h1
              · exact h1
              · rw [List.getElem?_eq_none h1] at hx'; cases hx'
            omega
        obtain ⟨c0, c1, c2⟩ := row_at hr_w5 cL
        obtain ⟨d0, d1, d2⟩ := row_at hr_w5 kL
        have hS : (CellsL [(⟨b, 2, none⟩, .slice (some ⟨g, 0, none⟩) n cap), (⟨b, 3, none⟩, .func (.func 22) #[] #[]), (⟨g, c * 3, none⟩, .int .i64 L[c].x), (⟨g, c * 3 + 1, none⟩, .int .i64 L[c].y), (⟨g, c * 3 + 2, none⟩, .int .i64 L[c].z), (⟨g, k * 3, none⟩, .int .i64 L[k].x), (⟨g, k * 3 + 1, none⟩, .int .i64 L[k].y), (⟨g, k * 3 + 2, none⟩, .int .i64 L[k].z)]) (w5.drew) := ⟨hp_w5.cells.2.2.1, hp_w5.cells.2.2.2, c0, c1, c2, d0, d1, d2, trivial⟩
        refine wpIn_region_ord [(0, true), (1, true), (2, true), (3, true), (4, true), (5, true), (6, true), (7, true), (8, true), (9, true), (10, true), (11, true), (12, true), (13, true), (14, true), (15, true), (16, true), (17, true), (18, false)] (CellsL [(⟨b, 2, none⟩, .slice (some ⟨g, 0, none⟩) n cap), (⟨b, 3, none⟩, .func (.func 22) #[] #[]), (⟨g, c * 3, none⟩, .int .i64 L[c].x), (⟨g, c * 3 + 1, none⟩, .int .i64 L[c].y), (⟨g, c * 3 + 2, none⟩, .int .i64 L[c].z), (⟨g, k * 3, none⟩, .int .i64 L[k].x), (⟨g, k * 3 + 1, none⟩, .int .i64 L[k].y), (⟨g, k * 3 + 2, none⟩, .int .i64 L[k].z)]) (fun _ => trivial) rfl (by first | exact then_put rfl | (intro c d v a w h; cases d <;> exact h)) (by kernel_rfl) ?_
        simp only [List.length_cons, List.length_nil, Nat.reduceAdd, List.drop_succ_cons, List.drop_zero]
        iterate 18 (apply wpOrd_quiet rfl hS rfl; (intro w' hw'; obtain ⟨q0, q1, q2, q3, q4, q5, q6, q7, _⟩ := hw'; go_simp; exact rfl); go_simp)
        refine wpOrd_move rfl rfl ?_
        go_simp
        refine ⟨trivial, (callsIn_wide.2 (less_any L[c] L[k] _)).mono ?_⟩
        rintro en w6 ⟨rfl, hb_w6⟩
        have hf_w6 := hf_w5.drew.below hb_w6
        have hp_w6 : PB w6 b room bm (.slice (some ⟨g, 0, none⟩) n cap) := (hb_w6.block b (lt_of_block hp_w5)).trans hp_w5
        have hr_w6 := own_below hr_w5.drew hb_w6
        have hN_w6 := (hb_w6.block w.heap.size (lt_of_block hN_w5)).trans hN_w5
        obtain ⟨c0, c1, c2⟩ := row_at hr_w6 cL
        obtain ⟨d0, d1, d2⟩ := row_at hr_w6 kL
        replace hS : CellsL [(⟨b, 2, none⟩, .slice (some ⟨g, 0, none⟩) n cap), (⟨b, 3, none⟩, .func (.func 22) #[] #[]), (⟨g, c * 3, none⟩, .int .i64 L[c].x), (⟨g, c * 3 + 1, none⟩, .int .i64 L[c].y), (⟨g, c * 3 + 2, none⟩, .int .i64 L[c].z), (⟨g, k * 3, none⟩, .int .i64 L[k].x), (⟨g, k * 3 + 1, none⟩, .int .i64 L[k].y), (⟨g, k * 3 + 2, none⟩, .int .i64 L[k].z)] w6 := ⟨hp_w6.cells.2.2.1, hp_w6.cells.2.2.2, c0, c1, c2, d0, d1, d2, trivial⟩
        refine ⟨hS, ?_⟩
        go_simp
        refine wpOrd_nil ?_
        clear c0 c1 c2 d0 d1 d2 hS
        generalize hlk : lessV L[c] L[k] = t2
        cases t2
        · have hNc0 := cell_of hN_w6 (j := 0) rfl
          have hNc1 := cell_of hN_w6 (j := 1) rfl
          have hNc2 := cell_of hN_w6 (j := 2) rfl
          have hNf0 := not_frozen (k := 0) hN_w6
          have hNf1 := not_frozen (k := 1) hN_w6
          have hNf2 := not_frozen (k := 2) hN_w6
          gi_wp2
          obtain ⟨e1, e2, e3, e4⟩ := after_N hN_w6 rfl (.int .i64 x.x) (.int .i64 x.y) (.int .i64 x.z) hp_w6 hr_w6 hf_w6 (by omega) (by omega) (Nat.le_refl _)
          have r0 := cell_of e4 (j := 0) rfl
          have r1 := cell_of e4 (j := 1) rfl
          have r2 := cell_of e4 (j := 2) rfl
          refine bodyPost_ret (v := .tuple #[.agg #[.int .i64 x.x, .int .i64 x.y, .int .i64 x.z], .bool true]) (by simp [results, Try.results26, go_sem, r0, r1, r2]) rfl ⟨rfl, _, L, ?_, hperm, e1, by rw [hL]; exact e2, rfl, e3⟩
          exact fun h => (hdn h).done fun j x' y' h0 hj hx' hy' => by
              rw [List.getElem?_eq_getElem kL] at hy'
              injection hy' with hy'
              rw [← hy']
              exact nless_trans hlk (hmin j x' h0 hj hx')
        · gi_wp2
          obtain ⟨c0, c1, c2⟩ := row_at hr_w6 cL
          obtain ⟨d0, d1, d2⟩ := row_at hr_w6 kL
          have hS : (fun ph wS => bif ph then CellsL [(⟨b, 2, none⟩, .slice (some ⟨g, 0, none⟩) n cap)] wS else CellsL [(⟨b, 2, none⟩, .slice (some ⟨g, 0, none⟩) n cap), (⟨g, c * 3, none⟩, .int .i64 L[c].x), (⟨g, c * 3 + 1, none⟩, .int .i64 L[c].y), (⟨g, c * 3 + 2, none⟩, .int .i64 L[c].z), (⟨g, k * 3, none⟩, .int .i64 L[k].x), (⟨g, k * 3 + 1, none⟩, .int .i64 L[k].y), (⟨g, k * 3 + 2, none⟩, .int .i64 L[k].z)] wS) false (w6.drew) := ⟨hp_w6.cells.2.2.1, c0, c1, c2, d0, d1, d2, trivial⟩
          refine wpIn_region_ordP [(0, true), (1, true), (2, true), (3, true), (4, true), (5, true), (6, true), (7, true), (8, true), (9, true), (10, true), (11, true), (12, true), (13, true), (14, true), (15, true), (16, true), (17, true), (18, true), (19, true), (20, true), (21, true), (22, true), (23, true), (24, true), (25, false), (26, true)] 25 (fun ph wS => bif ph then CellsL [(⟨b, 2, none⟩, .slice (some ⟨g, 0, none⟩) n cap)] wS else CellsL [(⟨b, 2, none⟩, .slice (some ⟨g, 0, none⟩) n cap), (⟨g, c * 3, none⟩, .int .i64 L[c].x), (⟨g, c * 3 + 1, none⟩, .int .i64 L[c].y), (⟨g, c * 3 + 2, none⟩, .int .i64 L[c].z), (⟨g, k * 3, none⟩, .int .i64 L[k].x), (⟨g, k * 3 + 1, none⟩, .int .i64 L[k].y), (⟨g, k * 3 + 2, none⟩, .int .i64 L[k].z)] wS) (fun _ => trivial) rfl (by first | exact then_put rfl | (intro c d v a w h; cases d <;> exact h)) (by kernel_rfl) ?_
          simp only [List.length_cons, List.length_nil, Nat.reduceAdd, List.drop_succ_cons, List.drop_zero]
          apply wpOrdP_any rfl hS rfl; (intro w'; go_simp; exact rfl); go_simp
          apply wpOrdP_any rfl hS rfl; (intro w'; go_simp; exact rfl); go_simp
          apply wpOrdP_any rfl hS rfl; (intro w'; go_simp; exact rfl); go_simp
          apply wpOrdP_ahead rfl hS rfl (by kernel_rfl); (intro w' hw'; obtain ⟨q0, q1, q2, q3, q4, q5, q6, _⟩ := hw'; go_simp; exact rfl); go_simp
          apply wpOrdP_any rfl hS rfl; (intro w'; go_simp; exact rfl); go_simp
          apply wpOrdP_any rfl hS rfl; (intro w'; go_simp; exact rfl); go_simp
          apply wpOrdP_any rfl hS rfl; (intro w'; go_simp; exact rfl); go_simp
          apply wpOrdP_any rfl hS rfl; (intro w'; go_simp; exact rfl); go_simp
          apply wpOrdP_ahead rfl hS rfl (by kernel_rfl); (intro w' hw'; obtain ⟨q0, q1, q2, q3, q4, q5, q6, _⟩ := hw'; go_simp; exact rfl); go_simp
          apply wpOrdP_any rfl hS rfl; (intro w'; go_simp; exact rfl); go_simp
          apply wpOrdP_any rfl hS rfl; (intro w'; go_simp; exact rfl); go_simp
          apply wpOrdP_any rfl hS rfl; (intro w'; go_simp; exact rfl); go_simp
          apply wpOrdP_any rfl hS rfl; (intro w'; go_simp; exact rfl); go_simp
          apply wpOrdP_ahead rfl hS rfl (by kernel_rfl); (intro w' hw'; obtain ⟨q0, q1, q2, q3, q4, q5, q6, _⟩ := hw'; go_simp; exact rfl); go_simp
          apply wpOrdP_any rfl hS rfl; (intro w'; go_simp; exact rfl); go_simp
          apply wpOrdP_any rfl hS rfl; (intro w'; go_simp; exact rfl); go_simp
          apply wpOrdP_ahead rfl hS rfl (by kernel_rfl); (intro w' hw'; obtain ⟨q0, q1, q2, q3, q4, q5, q6, _⟩ := hw'; go_simp; exact rfl); go_simp
          apply wpOrdP_any rfl hS rfl; (intro w'; go_simp; exact rfl); go_simp
          apply wpOrdP_any rfl hS rfl; (intro w'; go_simp; exact rfl); go_simp
          apply wpOrdP_any rfl hS rfl; (intro w'; go_simp; exact rfl); go_simp
          apply wpOrdP_ahead rfl hS rfl (by kernel_rfl); (intro w' hw'; obtain ⟨q0, q1, q2, q3, q4, q5, q6, _⟩ := hw'; go_simp; exact rfl); go_simp
          apply wpOrdP_any rfl hS rfl; (intro w'; go_simp; exact rfl); go_simp
          apply wpOrdP_any rfl hS rfl; (intro w'; go_simp; exact rfl); go_simp
          apply wpOrdP_ahead rfl hS rfl (by kernel_rfl); (intro w' hw'; obtain ⟨q0, q1, q2, q3, q4, q5, q6, _⟩ := hw'; go_simp; exact rfl); go_simp
          apply wpOrdP_any rfl hS rfl; (intro w'; go_simp; exact rfl); go_simp
          refine wpOrdP_move rfl rfl ?_
          refine wpIn_put (v := L[k]) hi hz1 (.tmp 123) (.tmp 115) rfl (k := c) rfl rfl hr_w6.drew cL ?_
          intro w7 hr_w7 hg7
          have hp_w7 : PB w7 b room bm (.slice (some ⟨g, 0, none⟩) n cap) := (hg7.block b (lt_of_block hp_w6) (by simpa using Ne.symm hgb)).trans hp_w6
          have hN_w7 := (hg7.block w.heap.size (lt_of_block hN_w6) (by simp; omega)).trans hN_w6
          have hf_w7 := hf_w6.drew.grown hg7 (fun k hk _ => .inr hk)
          replace hS : (fun ph w => bif ph then CellsL [(⟨b, 2, none⟩, .slice (some ⟨g, 0, none⟩) n cap)] w else CellsL [(⟨b, 2, none⟩, .slice (some ⟨g, 0, none⟩) n cap), (⟨g, c * 3, none⟩, .int .i64 L[c].x), (⟨g, c * 3 + 1, none⟩, .int .i64 L[c].y), (⟨g, c * 3 + 2, none⟩, .int .i64 L[c].z), (⟨g, k * 3, none⟩, .int .i64 L[k].x), (⟨g, k * 3 + 1, none⟩, .int .i64 L[k].y), (⟨g, k * 3 + 2, none⟩, .int .i64 L[k].z)] w : Bool → World → Prop) (false || 25 == 25) w7 := ⟨hp_w7.cells.2.2.1, trivial⟩
          refine ⟨hS, ?_⟩
          go_simp
          apply wpOrdP_any rfl hS rfl; (intro w'; go_simp; exact rfl); go_simp
          refine wpOrdP_nil ?_
          refine wpListIn_plain rfl fun K' hK' => ?_
          refine wpIn_put (v := L[c]) hi hz1 (.tmp 124) (.tmp 122) rfl (k := k) rfl rfl hr_w7 (by rw [List.length_set]; exact kL) ?_
          intro w8 hr_w8 hg8
          have hp_w8 : PB w8 b room bm (.slice (some ⟨g, 0, none⟩) n cap) := (hg8.block b (lt_of_block hp_w7) (by simpa using Ne.symm hgb)).trans hp_w7
          have hN_w8 := (hg8.block w.heap.size (lt_of_block hN_w7) (by simp; omega)).trans hN_w7
          have hf_w8 := hf_w7.grown hg8 (fun k hk _ => .inr hk)
          refine hK' _ _ ?_
          have hsw : (L.set c L[k]).set k L[c] = swapL L c k := by
            unfold swapL
            simp only [List.getElem?_eq_getElem cL, List.getElem?_eq_getElem kL]
          rw [hsw] at hr_w8
          clear hS hK' c0 c1 c2 d0 d1 d2 hr_w7 hp_w7 hN_w7 hf_w7 hr_w6 hp_w6 hN_w6 hf_w6
          gi_wp2
          refine ⟨⟨c, swapL L c k, rfl, by omega, by rw [swapL_length]; exact hL, fun h => ?_, ((swapL_perm cL kL).cons _).trans hperm, hp_w8, hr_w8, hN_w8, hf_w8⟩, by simp [intOf]; omega⟩
          refine (hdn h).step (by omega) cL (by omega) (fun x' y' hx' hy' => ?_) (fun j x' y' h0 hj hx' hy' => ?_)
          · rw [List.getElem?_eq_getElem cL] at hx'
            rw [List.getElem?_eq_getElem kL] at hy'
            injection hx' with hx'; injection hy' with hy'
            rw [← hx', ← hy']; exact hlk
          · rw [List.getElem?_eq_getElem cL] at hy'
            injection hy' with hy'
            rw [← hy']
            exact hmin j x' h0 hj hx'
    · have hcni : ¬ (c : Int) < (n : Int) := by omega
      have hNc0 := cell_of hNw (j := 0) rfl
      have hNc1 := cell_of hNw (j := 1) rfl
      have hNc2 := cell_of hNw (j := 2) rfl
      have hNf0 := not_frozen (k := 0) hNw
      have hNf1 := not_frozen (k := 1) hNw
      have hNf2 := not_frozen (k := 2) hNw
      gi_wp2
      obtain ⟨e1, e2, e3, e4⟩ := after_N hNw rfl (.int .i64 x.x) (.int .i64 x.y) (.int .i64 x.z) hpw hrw hfw (by omega) (by omega) (Nat.le_refl _)
      have r0 := cell_of e4 (j := 0) rfl
      have r1 := cell_of e4 (j := 1) rfl
      have r2 := cell_of e4 (j := 2) rfl
      refine bodyPost_ret (v := .tuple #[.agg #[.int .i64 x.x, .int .i64 x.y, .int .i64 x.z], .bool true]) (by simp [results, Try.results26, go_sem, r0, r1, r2]) rfl ⟨rfl, _, L, fun h => pop_end hL (hdn h) (by omega), hperm, e1, by rw [hL]; exact e2, rfl, e3⟩
end Go.Proofs.Ytdamcbpjefjolaa
