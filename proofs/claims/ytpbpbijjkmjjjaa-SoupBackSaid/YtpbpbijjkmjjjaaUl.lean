/- slices.Insert of one triangle in the midst of a row of the call's own that has room, by walks. No conditions but those named. -/
import Derived.Test.YtpbpbijjkmjjjaaUk
set_option linter.unusedSimpArgs false
set_option linter.unusedVariables false
namespace Go.Proofs.Ytpbpbijjkmjjjaa
open Go Go.RowKit Go.Sx
attribute [local go_sem] Oper.semAt_some
theorem ins_room1 {a d y : List Value} (hy : y.length = 10) (hd : 10 ≤ d.length) : ((a ++ d) ++ y).take (a.length + 10) ++ d ++ ((a ++ d) ++ y).drop (a.length + 10 + d.length) = a ++ (d.take 10 ++ d) := by
  have e : ((a ++ d) ++ y).drop (a.length + 10 + d.length) = [] := List.drop_eq_nil_of_le (by simp; omega)
  have t1 : ((a ++ d) ++ y).take (a.length + 10) = a ++ d.take 10 := by rw [List.append_assoc, List.take_length_add_append, List.take_append_of_le_length hd]
  rw [e, t1]
  simp
theorem ins_room2 {a d b : List Value} (hb : b.length = 10) (hd : 10 ≤ d.length) : (a ++ (d.take 10 ++ d)).take a.length ++ b ++ (a ++ (d.take 10 ++ d)).drop (a.length + b.length) = a ++ (b ++ d) := by
  have hl : (d.take 10).length = 10 := by rw [List.length_take]; omega
  have e : (a ++ (d.take 10 ++ d)).drop (a.length + b.length) = d := by rw [hb, ← List.drop_drop, List.drop_left]; exact List.drop_left' hl
  rw [List.take_left, e, List.append_assoc]
set_option maxHeartbeats 4000000 in
set_option maxRecDepth 100000 in
/-- In the midst, with room. -/
theorem insert_room (base g cap : Nat) (l : List T10) (n k : Nat) (hn : l.length = n) (h1000 : n ≤ 1000) (hk : k < n) (hc : n + 1 ≤ cap) (t : T10) (gv : Nat) (hne : gv ≠ g) (w : World) (hown : w.ownsRow base 33 10 (.slice (some ⟨g, 0, none⟩) n cap) n (fl T10.cs l)) (hv : w.heap[gv]? = some (.cells t.cs.toArray 33 (0, 0))) :
    Calls Try.prog 48 #[.slice (some ⟨g, 0, none⟩) n cap, .int .i64 k, .slice (some ⟨gv, 0, none⟩) 1 1] w fun en w' => (∃ A' c', en = .returned (.slice A' (n + 1) c') ∧ Reads w' w'.heap.size 10 A' (n + 1) (fl T10.cs (insAt l k t))) ∧ w.grownBy w' (some g) := by
  obtain ⟨i0, hii, hz0, hz1, hz2⟩ := info_parts infoTri
  have hcap := (own_cap hown).2
  have hgN := (hown.lt g rfl).2
  have hgv := lt_of_block hv
  have hkl : (fl T10.cs (l.take k)).length = k * 10 := by rw [fl_length T10.len, List.length_take, Nat.min_eq_left (by omega)]
  have hdl : (fl T10.cs (l.drop k)).length = (n - k) * 10 := by rw [fl_length T10.len, List.length_drop, hn]
  have hsp : fl T10.cs l = fl T10.cs (l.take k) ++ fl T10.cs (l.drop k) := by rw [← fl_append, List.take_append_drop]
  have hov : ∀ lb cb, (callFunc 72 #[.slice (some ⟨gv, 0, none⟩) 1 1, .slice (some ⟨g, (k + 1) * 10, none⟩) lb cb]).run Try.prog w = .ok (.value (.bool false)) w := fun lb cb => by
    obtain ⟨cur, hg, hcs, hs0⟩ : ∃ cur : Array Value, w.heap[g]? = some (.cells cur 33 (0, 0)) ∧ cur.size = cap * 10 ∧ True := by
      rcases hown.2 with ⟨h, _⟩ | ⟨g', cap', cur, h, _, hg, _, _, hcs, _⟩
      · cases h
      · simp only [Value.slice.injEq, Option.some.injEq, Addr.mk.injEq, and_true, true_and] at h
        obtain ⟨rfl, rfl⟩ := h
        exact ⟨cur, hg, hcs, trivial⟩
    rw [run_callFunc_extern Try.func72 (by kernel_rfl) (by kernel_rfl) (by kernel_rfl) (e := Extern.SlicesOverlaps.overlaps #[24, 24] #[4]) (by kernel_rfl),
      Lib.run_overlaps_apart w 24 4 33 Try.underlying24 10 (fun w => by kernel_rfl) ⟨gv, 0, none⟩ ⟨g, (k + 1) * 10, none⟩ 1 1 lb cb hne 33 33 10 (cap * 10) (by simp [World.shape?, hv, T10.cs]) (by simp [World.shape?, hg, hcs]) (by omega) (not_frozen hv) (not_frozen hv)]
    rfl
  obtain ⟨ys, hyl, hown1⟩ := hown.ext1 hc
  have hsrc : ∀ q u, (fl T10.cs (l.drop k))[q]? = some u → w.drew.cell? ((⟨g, k * 10, none⟩ : Addr).add q) = some u := fun q u hu => by
    rw [Addr.add_lit]
    rw [← fl_drop T10.len, List.getElem?_drop] at hu
    have hq : k * 10 + q < n * 10 := by
      have := (List.getElem?_eq_some_iff.1 hu).1
      rw [fl_length T10.len, hn] at this
      exact this
    exact (hown.cellAt _ hq).trans hu
  have hd10 : 10 ≤ (fl T10.cs (l.drop k)).length := by rw [hdl]; omega
  obtain ⟨W2, hr2, ho2, hg2⟩ := run_copy_own w.drew 24 24 3 33 i0 10 base g (n + 1) cap _ (show w.drew.ownsRow _ _ _ _ _ _ from hown1) Try.underlying24 hii hz1 ((k + 1) * 10) (n - k) (cap - (k + 1)) ⟨g, k * 10, none⟩ (n + 1 - k) (cap - k) (n - k) (fl T10.cs (l.drop k)) (by simp only [Nat.min_def]; split <;> omega) hdl hsrc (by rw [hdl]; omega) (fl_one T10.one _)
  rw [hsp, show (k + 1) * 10 = (fl T10.cs (l.take k)).length + 10 by rw [hkl]; omega, ins_room1 hyl hd10] at ho2
  have hv2 : W2.heap[gv]? = some (.cells t.cs.toArray 33 (0, 0)) := (hg2.block gv hgv (by intro h; injection h with h; omega)).trans hv
  obtain ⟨W3, hr3, ho3, hg3⟩ := run_copy_own W2 24 24 3 33 i0 10 base g (n + 1) cap _ ho2 Try.underlying24 hii hz1 (k * 10) (n + 1 - k) (cap - k) ⟨gv, 0, none⟩ 1 1 1 t.cs (by simp only [Nat.min_def]; split <;> omega) rfl (one_cells hv2) (by rw [T10.len]; omega) t.one
  rw [show k * 10 = (fl T10.cs (l.take k)).length by rw [hkl], ins_room2 (T10.len t) hd10, ins_cells] at ho3
  have hgr : w.grownBy W3 (some g) := ⟨hg3.os.trans hg2.os, hg3.tape.trans hg2.tape, hg3.output.trans hg2.output, Nat.le_trans hg2.size hg3.size, fun j hj hjn => (hg3.block j (Nat.lt_of_lt_of_le hj hg2.size) hjn).trans (hg2.block j hj hjn)⟩
  replace hgr := Lib.hid hgr
  replace ho3 := Lib.hid ho3
  replace hn := Lib.hid hn
  clear ho2 hown hown1 hsrc hdl hkl hg2 hg3 hv hv2 hgN hgv hsp hd10 hyl
  have b1 : (k : Int) ≤ (n : Int) := by omega
  have b2 : ¬ ((k : Int) = (n : Int)) := by omega
  have b3 : ¬ ((cap : Int) < (n : Int) + 1) := by omega
  have b4 : (k : Int) ≤ (cap : Int) := by omega
  have b5 : (k : Int) ≤ (n : Int) + 1 := by omega
  have b6 : (k : Int) + 1 ≤ (n : Int) + 1 := by omega
  have b7 : ¬ (cap = k) := by omega
  have b9 : ¬ (cap = k + 1) := by omega
  have b10 : (0 : Int) ≤ (k : Int) + 1 := by omega
  have b11 : (n : Int) + 1 ≤ (cap : Int) := by omega
  have hwk : IntKind.i64.wrap ((k : Int) + 1) = (k : Int) + 1 := by rw [IntKind.wrap_i64]; omega
  refine (callsIn_wide (n := 6)).1 ?_
  refine callsIn_of_wp Try.func48 rfl trivial ?_
  simp only [Try.ntmps48, List.size_toArray, List.length_cons, List.length_nil, Nat.reduceAdd, Nat.reduceSub, Array.replicate_succ, Array.replicate_zero, List.push_toArray, List.append_toArray, List.nil_append, List.cons_append]
  gi_wp2
  refine ⟨trivial, ?_⟩
  gi_wp2
  have hS : (CellsL []) (w.drew) := trivial
  refine wpIn_region_ord [(0, true), (1, true), (2, true), (3, true), (4, true), (5, true), (6, true), (7, true)] (CellsL []) (fun _ => trivial) rfl (by first | exact then_put rfl | (intro c d v a w h; cases d <;> exact h)) (by kernel_rfl) ?_
  simp only [List.length_cons, List.length_nil, Nat.reduceAdd, List.drop_succ_cons, List.drop_zero]
  iterate 8 (apply wpOrd_quiet rfl hS rfl; (intro w' hw'; obtain _ := hw'; go_simp; exact rfl); go_simp)
  refine wpOrd_nil ?_
  gi_wp2_with (first | (refine wpListIn_plain rfl fun K' hK' => ?_; refine wpIn_copy_run (.tmp 73) (.tmp 76) 24 24 rfl _ _ rfl rfl hr2 ?_; refine hK' _ _ ?_) | (refine wpListIn_plain rfl fun K' hK' => ?_; refine wpIn_copy_run (.tmp 80) (.tmp 81) 24 24 rfl _ _ rfl rfl hr3 ?_; refine hK' _ _ ?_))
  go_ret
  exact ⟨⟨_, _, rfl, Reads.of_own ho3.out⟩, hgr.out⟩
/-- slices.Insert of one triangle. -/
theorem insert_any (base : Nat) (v : Value) (l : List T10) (k : Nat) (h1000 : l.length ≤ 1000) (hk : k ≤ l.length) (t : T10) (gv : Nat) (w : World) (hown : w.ownsRow base 33 10 v l.length (fl T10.cs l)) (hv : w.heap[gv]? = some (.cells t.cs.toArray 33 (0, 0))) (hb : base ≤ w.heap.size) (hne : v.ownBlock ≠ some gv) :
    Calls Try.prog 48 #[v, .int .i64 k, .slice (some ⟨gv, 0, none⟩) 1 1] w fun en w' => (∃ A' c', en = .returned (.slice A' (l.length + 1) c') ∧ Reads w' w'.heap.size 10 A' (l.length + 1) (fl T10.cs (insAt l k t))) ∧ w.grownBy w' v.ownBlock := by
  rcases Nat.lt_or_eq_of_le hk with hlt | rfl
  · obtain ⟨g, cap, rfl, _⟩ := own_addr hown (by omega)
    by_cases hc : cap < l.length + 1
    · exact insert_grow base g cap l l.length k rfl h1000 hlt hc t gv w hown hv hb
    · exact insert_room base g cap l l.length k rfl h1000 hlt (by omega) t gv (fun e => hne (by rw [e]; rfl)) w hown hv
  · exact insert_end base v l l.length rfl h1000 t gv w hown hv hb
end Go.Proofs.Ytpbpbijjkmjjjaa
