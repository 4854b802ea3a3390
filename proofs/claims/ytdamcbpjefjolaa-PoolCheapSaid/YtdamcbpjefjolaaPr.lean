/- pool's heap: an item is put in, by a walk. No conditions but that the heap lies where it is said to lie. -/
import Derived.Test.YtdamcbpjefjolaaPq
import Derived.Test.YtdamcbpjefjolaaRh
namespace Go.Proofs.Ytdamcbpjefjolaa
open Go Go.RowKit Go.Sx
attribute [local go_sem] Oper.semAt_some
theorem info30 : (Try.prog.info? 30).map (fun i => (i.zero, i.size, i.bytes)) = some (some (.agg #[.int .i64 0, .int .i64 0, .int .i64 0]), 3, 24) := by kernel_rfl
set_option maxHeartbeats 1000000 in
set_option maxRecDepth 100000 in
theorem push_any (x : V3) (l : List V3) (room : Int) (bm b base : Nat) (v : Value) (w : World) (hp : PB w b room bm v) (hr : w.ownsRow base 30 3 v l.length (vcs l)) (hl : l.length < 1000000) (hb : base ≤ w.heap.size) (hne : v.ownBlock ≠ some b) :
    Calls Try.prog 25 #[.pointer (some ⟨b, 2, none⟩), .agg #[.int .i64 x.x, .int .i64 x.y, .int .i64 x.z]] w fun en w' => en = .returned (.tuple #[]) ∧
      ∃ v' l', (Heap l → Heap l') ∧ l'.Perm (l ++ [x]) ∧ PB w' b room bm v' ∧ w'.ownsRow base 30 3 v' l'.length (vcs l') ∧ v'.ownBlock ≠ some b ∧ (v'.ownBlock = v.ownBlock ∨ ∀ k, v'.ownBlock = some k → w.heap.size ≤ k) ∧ Fr (fun k => k = b ∨ v.ownBlock = some k) w w' := by
  have hmx : maxLen = 9223372036854775807 := rfl
  obtain ⟨i0, hi, hz0, hz1, hz2⟩ := info_parts info30
  obtain ⟨p0, p1, p2, p3⟩ := hp.cells
  have hbl := lt_of_block hp
  refine (callsIn_wide (n := 6)).1 ?_
  refine callsIn_of_wp Try.func25 rfl trivial ?_
  simp only [Try.ntmps25, List.size_toArray, List.length_cons, List.length_nil, Nat.reduceAdd, Nat.reduceSub, Array.replicate_succ, Array.replicate_zero, List.push_toArray, List.append_toArray, List.nil_append, List.cons_append]
  gi_wp2
  have hS : (CellsL [(⟨b, 2, none⟩, v), (⟨w.heap.size, 0, none⟩, .int .i64 x.x), (⟨w.heap.size, 1, none⟩, .int .i64 x.y), (⟨w.heap.size, 2, none⟩, .int .i64 x.z)]) ((w.alloc (.cells #[.int .i64 x.x, .int .i64 x.y, .int .i64 x.z] 30)).drew) := ⟨(World.cell?_alloc_lt w _ _ hbl).trans p2, cell_of (World.alloc_heap_new _ _) rfl, cell_of (World.alloc_heap_new _ _) rfl, cell_of (World.alloc_heap_new _ _) rfl, trivial⟩
  refine wpIn_region_ord [(0, true), (1, true), (2, true), (3, true), (4, true), (5, true), (6, false), (7, false), (8, true), (9, true)] (CellsL [(⟨b, 2, none⟩, v), (⟨w.heap.size, 0, none⟩, .int .i64 x.x), (⟨w.heap.size, 1, none⟩, .int .i64 x.y), (⟨w.heap.size, 2, none⟩, .int .i64 x.z)]) (fun _ => trivial) rfl (by first | exact then_put rfl | (intro c d v a w h; cases d <;> exact h)) (by kernel_rfl) ?_
  simp only [List.length_cons, List.length_nil, Nat.reduceAdd, List.drop_succ_cons, List.drop_zero]
  iterate 6 (apply wpOrd_quiet rfl hS rfl; (intro w' hw'; obtain ⟨q0, q1, q2, q3, _⟩ := hw'; go_simp; exact rfl); go_simp)
  refine wpOrd_move rfl rfl ?_
  go_simp
  have hS2 := hS.keep ((Below.refl _ _).alloc (Nat.le_refl _) (.cells #[.int .i64 x.x, .int .i64 x.y, .int .i64 x.z] 30)) (by exact ⟨by show b < _; simp; omega, by show w.heap.size < _; simp, by show w.heap.size < _; simp, by show w.heap.size < _; simp, trivial⟩)
  obtain ⟨W, hW⟩ : ∃ W, ((w.alloc (.cells #[.int .i64 x.x, .int .i64 x.y, .int .i64 x.z] 30)).alloc (.cells #[.int .i64 x.x, .int .i64 x.y, .int .i64 x.z] 30)).drew = W := ⟨_, rfl⟩
  have hf : Fr (fun _ => False) w W := by rw [← hW]; exact (((Fr.refl _ _).alloc _).alloc _).drew
  have hrW : W.ownsRow base 30 3 v l.length (vcs l) := by rw [← hW]; exact ((hr.alloc _).alloc _).drew
  have hWs : W.heap.size = w.heap.size + 2 := by rw [← hW]; simp
  have hx : ∀ j u, x.cs[j]? = some u → W.cell? ((⟨w.heap.size + 1, 0, none⟩ : Addr).add j) = some u := by
    intro j u hj
    rw [← hW]
    have e : (⟨w.heap.size + 1, 0, none⟩ : Addr).add j = ⟨w.heap.size + 1, j, none⟩ := by simp [Addr.add]; exact fun h => h.symm
    rw [e]
    exact cell_of (alloc2_new w _ _) (by simpa [V3.cs] using hj)
  have hpW : PB W b room bm v := hf.keep hp (fun h => h)
  have hS3 : CellsL [(⟨b, 2, none⟩, v), (⟨w.heap.size, 0, none⟩, .int .i64 x.x), (⟨w.heap.size, 1, none⟩, .int .i64 x.y), (⟨w.heap.size, 2, none⟩, .int .i64 x.z)] W := by rw [← hW]; exact hS2
  refine ⟨hS2, ?_⟩
  rw [hW]
  refine wpOrd_move rfl rfl ?_
  refine wpIn_append_at (.tmp 9) (.tmp 11) 22 rfl base 30 i0 _ 3 24 Try.underlying22 hi hz0 hz1 hz2 (by decide) (by decide) v l.length (vcs l) rfl hrW ⟨w.heap.size + 1, 0, none⟩ 1 1 x.cs rfl rfl hx (by intro u hu; simp only [V3.cs, List.mem_cons, List.not_mem_nil, or_false] at hu; rcases hu with rfl | rfl | rfl <;> rfl) (by omega) (by omega) (by omega) ?_
  intro v' W2 hown hg hloc
  have hvlt : ∀ k, v.ownBlock = some k → k < w.heap.size := fun k hk => (hr.lt k hk).2
  have hk0 : W2.heap[w.heap.size]? = W.heap[w.heap.size]? := hg.block _ (by omega) (fun e => by have := hvlt _ e.symm; omega)
  have hp2 : PB W2 b room bm v := (hg.block b (by omega) (fun e => hne e.symm)).trans hpW
  have hc0 : ∀ j, W2.cell? ⟨w.heap.size, j, none⟩ = W.cell? ⟨w.heap.size, j, none⟩ := fun j => World.cell?_of_block hk0
  replace hS : CellsL [(⟨b, 2, none⟩, v), (⟨w.heap.size, 0, none⟩, .int .i64 x.x), (⟨w.heap.size, 1, none⟩, .int .i64 x.y), (⟨w.heap.size, 2, none⟩, .int .i64 x.z)] W2 :=
    ⟨hp2.cells.2.2.1, (hc0 _).trans hS3.2.1, (hc0 _).trans hS3.2.2.1, (hc0 _).trans hS3.2.2.2.1, trivial⟩
  refine ⟨hS, ?_⟩
  go_simp
  iterate 2 (apply wpOrd_quiet rfl hS rfl; (intro w' hw'; obtain ⟨q0, q1, q2, q3, _⟩ := hw'; go_simp; exact rfl); go_simp)
  refine wpOrd_nil ?_
  have hfz := not_frozen (k := 2) hp2
  have hp22 := hp2.cells.2.2.1
  obtain ⟨g, cap, rfl, hbg, hglt⟩ := hown.form (Nat.succ_pos _)
  have hown' : W2.ownsRow base 30 3 (.slice (some ⟨g, 0, none⟩) (l.length + 1) cap) (l.length + 1) (vcs (l ++ [x])) := by rw [vcs_append]; simpa [vcs] using hown
  have hgb : g ≠ b := by
    intro e
    subst e
    rcases hloc with h | h
    · exact hne h.symm
    · simp [Value.ownBlock] at h; omega
  have hp3 := hp2.set (.slice (some ⟨g, 0, none⟩) (l.length + 1) cap)
  have hown3 : (W2.setCell ⟨b, 2, none⟩ (.slice (some ⟨g, 0, none⟩) (l.length + 1) cap)).ownsRow base 30 3 (.slice (some ⟨g, 0, none⟩) (l.length + 1) cap) (l.length + 1) (vcs (l ++ [x])) :=
    hown'.kept (grownBy_set _ _ _ _) (.inr (by simp [Value.ownBlock]; exact hgb))
  have hf3 : Fr (fun k => k = b ∨ v.ownBlock = some k) w (W2.setCell ⟨b, 2, none⟩ (.slice (some ⟨g, 0, none⟩) (l.length + 1) cap)) :=
    ((hf.wide (F' := fun k => k = b ∨ v.ownBlock = some k) (fun _ h => h.elim)).grown hg (fun k hk _ => .inr hk)).set _ (fun _ => .inl rfl)
  have hgn : ∀ k, (Value.slice (some ⟨g, 0, none⟩) (l.length + 1) cap).ownBlock = some k → k < w.heap.size → v.ownBlock = some k := by
    intro k hk hkw
    rcases hloc with h | h
    · rw [← h]; exact hk
    · rw [h] at hk; injection hk with hk; omega
  have hgl : (Value.slice (some ⟨g, 0, none⟩) (l.length + 1) cap).ownBlock = v.ownBlock ∨ ∀ k, (Value.slice (some ⟨g, 0, none⟩) (l.length + 1) cap).ownBlock = some k → w.heap.size ≤ k := by
    rcases hloc with h | h
    · exact .inl h
    · exact .inr fun k hk => by rw [h] at hk; injection hk with hk; omega
  clear hS hS2 hS3 hk0 hc0 hx hW hpW hrW hf
  gi_wp2
  gi_loopw [4] (fun o wr => ∃ (i : Nat) (L : List V3), o = .int .i64 i ∧ i < l.length + 1 ∧ L.length = l.length + 1 ∧ (Heap l → UpAt L i) ∧ L.Perm (l ++ [x]) ∧ PB wr b room bm (.slice (some ⟨g, 0, none⟩) (l.length + 1) cap) ∧
      wr.ownsRow base 30 3 (.slice (some ⟨g, 0, none⟩) (l.length + 1) cap) (l.length + 1) (vcs L) ∧ Fr (fun k => k = b ∨ v.ownBlock = some k) w wr) (fun o _ => (intOf o).toNat)
  case atStart => exact ⟨l.length, l ++ [x], rfl, by omega, by simp, fun h => UpAt.push h x, .refl _, hp3, hown3, hf3⟩
  case round =>
    obtain ⟨i, L, rfl, hi1, hL, hup, hperm, hpw, hrw, hfw⟩ := hrel
    clear hp3 hown3 hf3 hfz hp22 hp2 hown hown'
    rcases i with _ | j
    · gi_wp2
      have hS : (CellsL [(⟨b, 2, none⟩, .slice (some ⟨g, 0, none⟩) (l.length + 1) cap)]) (wr.drew) := ⟨hpw.cells.2.2.1, trivial⟩
      refine wpIn_region_ord [(0, true), (1, true), (2, true), (3, true), (4, true), (5, true), (6, true), (7, true), (8, true), (9, true), (10, true), (11, true), (12, true), (13, true), (14, true), (15, true), (16, true), (17, true), (18, true), (19, true), (20, true), (21, true), (22, true), (23, true)] (CellsL [(⟨b, 2, none⟩, .slice (some ⟨g, 0, none⟩) (l.length + 1) cap)]) (fun _ => trivial) rfl (by first | exact then_put rfl | (intro c d v a w h; cases d <;> exact h)) (by kernel_rfl) ?_
      simp only [List.length_cons, List.length_nil, Nat.reduceAdd, List.drop_succ_cons, List.drop_zero]
      iterate 3 (apply wpOrd_quiet rfl hS rfl; (intro w' hw'; obtain ⟨q0, _⟩ := hw'; go_simp; exact rfl); go_simp)
      iterate 21 (refine wpOrd_off rfl hS (by rfl) ?_; go_simp)
      refine wpOrd_nil ?_
      gi_wp2
      go_end0
      exact ⟨rfl, _, L, fun h => (hup h).done (.inl rfl), hperm, hpw, by rw [hL]; exact hrw.drew, by simp [Value.ownBlock]; exact hgb, hgl, hfw.drew⟩
    · obtain ⟨p, hp'⟩ : ∃ p, j / 2 = p := ⟨_, rfl⟩
      have hpl : p < L.length := by omega
      have hjl : j + 1 < L.length := by omega
      obtain ⟨c0, c1, c2⟩ := row_at hrw hjl
      obtain ⟨d0, d1, d2⟩ := row_at hrw hpl
      have hw1 : IntKind.i64.wrap (j : Int) = (j : Int) := by rw [IntKind.wrap_i64]; omega
      have hw2 : IntKind.i64.wrap ((j : Int) / 2) = (p : Int) := by rw [IntKind.wrap_i64]; omega
      have hi4 : (j : Int) + 1 < (l.length : Int) + 1 := by omega
      have hi5 : (p : Int) < (l.length : Int) + 1 := by omega
      have hi6 : (0 : Int) < (j : Int) + 1 := by omega
      gi_wp2
      have hS : (CellsL [(⟨b, 2, none⟩, .slice (some ⟨g, 0, none⟩) (l.length + 1) cap), (⟨b, 3, none⟩, .func (.func 22) #[] #[]), (⟨g, (j + 1) * 3, none⟩, .int .i64 L[j + 1].x), (⟨g, (j + 1) * 3 + 1, none⟩, .int .i64 L[j + 1].y), (⟨g, (j + 1) * 3 + 2, none⟩, .int .i64 L[j + 1].z), (⟨g, p * 3, none⟩, .int .i64 L[p].x), (⟨g, p * 3 + 1, none⟩, .int .i64 L[p].y), (⟨g, p * 3 + 2, none⟩, .int .i64 L[p].z)]) (wr.drew) := ⟨hpw.cells.2.2.1, hpw.cells.2.2.2, c0, c1, c2, d0, d1, d2, trivial⟩
      refine wpIn_region_ord [(0, true), (1, true), (2, true), (3, true), (4, true), (5, true), (6, true), (7, true), (8, true), (9, true), (10, true), (11, true), (12, true), (13, true), (14, true), (15, true), (16, true), (17, true), (18, true), (19, true), (20, true), (21, true), (22, true), (23, false)] (CellsL [(⟨b, 2, none⟩, .slice (some ⟨g, 0, none⟩) (l.length + 1) cap), (⟨b, 3, none⟩, .func (.func 22) #[] #[]), (⟨g, (j + 1) * 3, none⟩, .int .i64 L[j + 1].x), (⟨g, (j + 1) * 3 + 1, none⟩, .int .i64 L[j + 1].y), (⟨g, (j + 1) * 3 + 2, none⟩, .int .i64 L[j + 1].z), (⟨g, p * 3, none⟩, .int .i64 L[p].x), (⟨g, p * 3 + 1, none⟩, .int .i64 L[p].y), (⟨g, p * 3 + 2, none⟩, .int .i64 L[p].z)]) (fun _ => trivial) rfl (by first | exact then_put rfl | (intro c d v a w h; cases d <;> exact h)) (by kernel_rfl) ?_
      simp only [List.length_cons, List.length_nil, Nat.reduceAdd, List.drop_succ_cons, List.drop_zero]
      iterate 23 (apply wpOrd_quiet rfl hS rfl; (intro w' hw'; obtain ⟨q0, q1, q2, q3, q4, q5, q6, q7, _⟩ := hw'; go_simp; exact rfl); go_simp)
      refine wpOrd_move rfl rfl ?_
      go_simp
      refine ⟨trivial, (callsIn_wide.2 (less_any L[j + 1] L[p] _)).mono ?_⟩
      rintro en w5 ⟨rfl, hb5⟩
      replace hfw := hfw.drew.below hb5
      have hpw5 : PB w5 b room bm (.slice (some ⟨g, 0, none⟩) (l.length + 1) cap) := (hb5.block b (lt_of_block hpw)).trans hpw
      have hrw5 := own_below hrw.drew hb5
      obtain ⟨c0, c1, c2⟩ := row_at hrw5 hjl
      obtain ⟨d0, d1, d2⟩ := row_at hrw5 hpl
      replace hS := (⟨hpw5.cells.2.2.1, hpw5.cells.2.2.2, c0, c1, c2, d0, d1, d2, trivial⟩ : CellsL [(⟨b, 2, none⟩, .slice (some ⟨g, 0, none⟩) (l.length + 1) cap), (⟨b, 3, none⟩, .func (.func 22) #[] #[]), (⟨g, (j + 1) * 3, none⟩, .int .i64 L[j + 1].x), (⟨g, (j + 1) * 3 + 1, none⟩, .int .i64 L[j + 1].y), (⟨g, (j + 1) * 3 + 2, none⟩, .int .i64 L[j + 1].z), (⟨g, p * 3, none⟩, .int .i64 L[p].x), (⟨g, p * 3 + 1, none⟩, .int .i64 L[p].y), (⟨g, p * 3 + 2, none⟩, .int .i64 L[p].z)] w5)
      refine ⟨hS, ?_⟩
      go_simp
      refine wpOrd_nil ?_
      clear c0 c1 c2 d0 d1 d2 hS hpw hrw
      obtain ⟨c0, c1, c2⟩ := row_at hrw5 hjl
      obtain ⟨d0, d1, d2⟩ := row_at hrw5 hpl
      generalize hlv : lessV L[j + 1] L[p] = t
      cases t
      · gi_wp2
        go_end0
        refine ⟨rfl, _, L, fun h => (hup h).done (.inr fun x y hx hy => ?_), hperm, hpw5, by rw [hL]; exact hrw5, by simp [Value.ownBlock]; exact hgb, hgl, hfw⟩
        rw [show (j + 1 - 1) / 2 = p by omega, List.getElem?_eq_getElem hpl] at hy
        rw [List.getElem?_eq_getElem hjl] at hx
        injection hx with hx; injection hy with hy
        rw [← hx, ← hy]; exact hlv
      · gi_wp2
        have hS : (fun ph wS => bif ph then CellsL [(⟨b, 2, none⟩, .slice (some ⟨g, 0, none⟩) (l.length + 1) cap)] wS else CellsL [(⟨b, 2, none⟩, .slice (some ⟨g, 0, none⟩) (l.length + 1) cap), (⟨g, (j + 1) * 3, none⟩, .int .i64 L[j + 1].x), (⟨g, (j + 1) * 3 + 1, none⟩, .int .i64 L[j + 1].y), (⟨g, (j + 1) * 3 + 2, none⟩, .int .i64 L[j + 1].z), (⟨g, p * 3, none⟩, .int .i64 L[p].x), (⟨g, p * 3 + 1, none⟩, .int .i64 L[p].y), (⟨g, p * 3 + 2, none⟩, .int .i64 L[p].z)] wS) false (w5.drew) := ⟨hpw5.cells.2.2.1, c0, c1, c2, d0, d1, d2, trivial⟩
        refine wpIn_region_ordP [(0, true), (1, true), (2, true), (3, true), (4, true), (5, true), (6, true), (7, true), (8, true), (9, true), (10, true), (11, true), (12, true), (13, true), (14, true), (15, true), (16, true), (17, true), (18, true), (19, true), (20, true), (21, true), (22, true), (23, true), (24, true), (25, true), (26, true), (27, true), (28, true), (29, false), (30, true)] 29 (fun ph wS => bif ph then CellsL [(⟨b, 2, none⟩, .slice (some ⟨g, 0, none⟩) (l.length + 1) cap)] wS else CellsL [(⟨b, 2, none⟩, .slice (some ⟨g, 0, none⟩) (l.length + 1) cap), (⟨g, (j + 1) * 3, none⟩, .int .i64 L[j + 1].x), (⟨g, (j + 1) * 3 + 1, none⟩, .int .i64 L[j + 1].y), (⟨g, (j + 1) * 3 + 2, none⟩, .int .i64 L[j + 1].z), (⟨g, p * 3, none⟩, .int .i64 L[p].x), (⟨g, p * 3 + 1, none⟩, .int .i64 L[p].y), (⟨g, p * 3 + 2, none⟩, .int .i64 L[p].z)] wS) (fun _ => trivial) rfl (by first | exact then_put rfl | (intro c d v a w h; cases d <;> exact h)) (by kernel_rfl) ?_
        simp only [List.length_cons, List.length_nil, Nat.reduceAdd, List.drop_succ_cons, List.drop_zero]
        apply wpOrdP_any rfl hS rfl; (intro w'; go_simp; exact rfl); go_simp
        apply wpOrdP_any rfl hS rfl; (intro w'; go_simp; exact rfl); go_simp
        apply wpOrdP_any rfl hS rfl; (intro w'; go_simp; exact rfl); go_simp
        apply wpOrdP_ahead rfl hS rfl (by kernel_rfl); (intro w' hw'; obtain ⟨q0, q1, q2, q3, q4, q5, q6, _⟩ := hw'; go_simp; exact rfl); go_simp
        apply wpOrdP_any rfl hS rfl; (intro w'; go_simp; exact rfl); go_simp
        apply wpOrdP_any rfl hS rfl; (intro w'; go_simp; exact rfl); go_simp
        apply wpOrdP_any rfl hS rfl; (intro w'; go_simp; exact rfl); go_simp
        apply wpOrdP_any rfl hS rfl; (intro w'; go_simp; exact rfl); go_simp
        apply wpOrdP_ahead rfl hS rfl (by kernel_rfl); (intro w' hw'; obtain ⟨q0, q1, q2, q3, q4, q5, q6, _⟩ := hw'; go_simp; exact rfl); go_simp
        apply wpOrdP_any rfl hS rfl; (intro w'; go_simp; exact rfl); go_simp
        apply wpOrdP_any rfl hS rfl; (intro w'; go_simp; exact rfl); go_simp
        apply wpOrdP_any rfl hS rfl; (intro w'; go_simp; exact rfl); go_simp
        apply wpOrdP_any rfl hS rfl; (intro w'; go_simp; exact rfl); go_simp
        apply wpOrdP_any rfl hS rfl; (intro w'; go_simp; exact rfl); go_simp
        apply wpOrdP_any rfl hS rfl; (intro w'; go_simp; exact rfl); go_simp
        apply wpOrdP_ahead rfl hS rfl (by kernel_rfl); (intro w' hw'; obtain ⟨q0, q1, q2, q3, q4, q5, q6, _⟩ := hw'; go_simp; exact rfl); go_simp
        apply wpOrdP_any rfl hS rfl; (intro w'; go_simp; exact rfl); go_simp
        apply wpOrdP_any rfl hS rfl; (intro w'; go_simp; exact rfl); go_simp
        apply wpOrdP_any rfl hS rfl; (intro w'; go_simp; exact rfl); go_simp
        apply wpOrdP_any rfl hS rfl; (intro w'; go_simp; exact rfl); go_simp
        apply wpOrdP_ahead rfl hS rfl (by kernel_rfl); (intro w' hw'; obtain ⟨q0, q1, q2, q3, q4, q5, q6, _⟩ := hw'; go_simp; exact rfl); go_simp
        apply wpOrdP_any rfl hS rfl; (intro w'; go_simp; exact rfl); go_simp
        apply wpOrdP_any rfl hS rfl; (intro w'; go_simp; exact rfl); go_simp
        apply wpOrdP_any rfl hS rfl; (intro w'; go_simp; exact rfl); go_simp
        apply wpOrdP_ahead rfl hS rfl (by kernel_rfl); (intro w' hw'; obtain ⟨q0, q1, q2, q3, q4, q5, q6, _⟩ := hw'; go_simp; exact rfl); go_simp
        apply wpOrdP_any rfl hS rfl; (intro w'; go_simp; exact rfl); go_simp
        apply wpOrdP_any rfl hS rfl; (intro w'; go_simp; exact rfl); go_simp
        apply wpOrdP_ahead rfl hS rfl (by kernel_rfl); (intro w' hw'; obtain ⟨q0, q1, q2, q3, q4, q5, q6, _⟩ := hw'; go_simp; exact rfl); go_simp
        apply wpOrdP_any rfl hS rfl; (intro w'; go_simp; exact rfl); go_simp
        refine wpOrdP_move rfl rfl ?_
        refine wpIn_put (v := L[p]) hi hz1 (.tmp 77) (.tmp 69) rfl (k := j + 1) rfl rfl hrw5.drew hjl ?_
        intro w6 hrw6 hg6
        have hpw6 : PB w6 b room bm (.slice (some ⟨g, 0, none⟩) (l.length + 1) cap) := (hg6.block b (lt_of_block hpw5) (by simpa using Ne.symm hgb)).trans hpw5
        replace hfw := hfw.drew.grown hg6 (fun k hk hkw => .inr (hgn k hk hkw))
        replace hS : (fun ph w => bif ph then CellsL [(⟨b, 2, none⟩, .slice (some ⟨g, 0, none⟩) (l.length + 1) cap)] w else CellsL [(⟨b, 2, none⟩, .slice (some ⟨g, 0, none⟩) (l.length + 1) cap), (⟨g, (j + 1) * 3, none⟩, .int .i64 L[j + 1].x), (⟨g, (j + 1) * 3 + 1, none⟩, .int .i64 L[j + 1].y), (⟨g, (j + 1) * 3 + 2, none⟩, .int .i64 L[j + 1].z), (⟨g, p * 3, none⟩, .int .i64 L[p].x), (⟨g, p * 3 + 1, none⟩, .int .i64 L[p].y), (⟨g, p * 3 + 2, none⟩, .int .i64 L[p].z)] w : Bool → World → Prop) (false || 29 == 29) w6 := ⟨hpw6.cells.2.2.1, trivial⟩
        refine ⟨hS, ?_⟩
        go_simp
        apply wpOrdP_any rfl hS rfl; (intro w'; go_simp; exact rfl); go_simp
        refine wpOrdP_nil ?_
        refine wpListIn_plain rfl fun K' hK' => ?_
        refine wpIn_put (v := L[j + 1]) hi hz1 (.tmp 78) (.tmp 76) rfl (k := p) rfl rfl hrw6 (by rw [List.length_set]; exact hpl) ?_
        intro w7 hrw7 hg7
        have hpw7 : PB w7 b room bm (.slice (some ⟨g, 0, none⟩) (l.length + 1) cap) := (hg7.block b (lt_of_block hpw6) (by simpa using Ne.symm hgb)).trans hpw6
        replace hfw := hfw.grown hg7 (fun k hk hkw => .inr (hgn k hk hkw))
        refine hK' _ _ ?_
        have hsw : (L.set (j + 1) L[p]).set p L[j + 1] = swapL L (j + 1) p := by
          unfold swapL
          simp only [List.getElem?_eq_getElem hjl, List.getElem?_eq_getElem hpl]
        rw [hsw] at hrw7
        clear hS hK' hrw6 hpw6 hg6 hg7 hrw5 hpw5
        gi_wp2
        refine ⟨⟨p, swapL L (j + 1) p, rfl, by omega, by rw [swapL_length]; exact hL, fun h => ?_, (swapL_perm hjl hpl).trans hperm, hpw7, hrw7, hfw⟩, by show p < j + 1; omega⟩
        have := (hup h).step (by omega) hjl (fun x y hx hy => by
          rw [show (j + 1 - 1) / 2 = p by omega, List.getElem?_eq_getElem hpl] at hy
          rw [List.getElem?_eq_getElem hjl] at hx
          injection hx with hx; injection hy with hy
          rw [← hx, ← hy]; exact hlv)
        rwa [show (j + 1 - 1) / 2 = p by omega] at this
end Go.Proofs.Ytdamcbpjefjolaa
