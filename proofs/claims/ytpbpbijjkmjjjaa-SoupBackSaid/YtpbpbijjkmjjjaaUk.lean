/- slices.Insert of one triangle in the midst of a row of the call's own, by walks. No conditions but those named. -/
import Derived.Test.YtpbpbijjkmjjjaaUj
set_option linter.unusedSimpArgs false
set_option linter.unusedVariables false
namespace Go.Proofs.Ytpbpbijjkmjjjaa
open Go Go.RowKit Go.Sx
attribute [local go_sem] Oper.semAt_some
theorem wpIn_append_run {P : Program} {n : Nat} {o : Oper} {a : Act} {w : World} {K : Act → World → Prop} {Q : Exit → Act → World → Prop} (s x : Operand) (t t' : TypeId) (ho : o.op = .call { callee := .builtin .append, args := #[s, x], argTypes := #[t, t'] })
    (v u : Value) (hs : a.eval s = v) (hx : a.eval x = u) {v' : Value} {w' : World} (hr : (Builtin.append_ #[t, t'] o.type #[v, u]).run P w = .ok v' w') (h : K (a.put o.dst v') w') : o.wpIn Fence.wide n P a w K Q := by
  refine wpIn_val (v := v') (w' := w') (fun c hc => by rw [ho] at hc; cases hc) ?_ h
  unfold execOp
  simp only [ho, resolve, invoke, builtin, Sem.run_bind, Sem.run_pure, Result.andThen_ok, List.map_toArray, List.map_cons, List.map_nil, hs, hx, hr]
theorem wpIn_copy_run {P : Program} {n : Nat} {o : Oper} {a : Act} {w : World} {K : Act → World → Prop} {Q : Exit → Act → World → Prop} (s x : Operand) (t t' : TypeId) (ho : o.op = .call { callee := .builtin .copy, args := #[s, x], argTypes := #[t, t'] })
    (v u : Value) (hs : a.eval s = v) (hx : a.eval x = u) {v' : Value} {w' : World} (hr : (Builtin.copy_ #[t, t'] o.type #[v, u]).run P w = .ok v' w') (h : K (a.put o.dst v') w') : o.wpIn Fence.wide n P a w K Q := by
  refine wpIn_val (v := v') (w' := w') (fun c hc => by rw [ho] at hc; cases hc) ?_ h
  unfold execOp
  simp only [ho, resolve, invoke, builtin, Sem.run_bind, Sem.run_pure, Result.andThen_ok, List.map_toArray, List.map_cons, List.map_nil, hs, hx, hr]
theorem take_mid {α : Type} (a b c : List α) : (a ++ (b ++ c)).take (a.length + b.length) = a ++ b := by
  rw [← List.append_assoc, ← List.length_append, List.take_left]
theorem drop_mid {α : Type} (a b c : List α) : (a ++ (b ++ c)).drop (a.length + b.length) = c := by
  rw [← List.append_assoc, ← List.length_append, List.drop_left]
theorem ins_grow {a b c z : List Value} (hb : b.length = 10) (hz : z.length = 10 + c.length) : (a ++ (b ++ z.drop 10)).take (a.length + 10) ++ c ++ (a ++ (b ++ z.drop 10)).drop (a.length + 10 + c.length) = a ++ (b ++ c) := by
  have e : (a ++ (b ++ z.drop 10)).drop (a.length + 10 + c.length) = [] := List.drop_eq_nil_of_le (by simp; omega)
  rw [e, ← hb, take_mid]
  simp
set_option maxHeartbeats 4000000 in
set_option maxRecDepth 100000 in
/-- In the midst, without room. -/
theorem insert_grow (base g cap : Nat) (l : List T10) (n k : Nat) (hn : l.length = n) (h1000 : n ≤ 1000) (hk : k < n) (hc : cap < n + 1) (t : T10) (gv : Nat) (w : World) (hown : w.ownsRow base 33 10 (.slice (some ⟨g, 0, none⟩) n cap) n (fl T10.cs l)) (hv : w.heap[gv]? = some (.cells t.cs.toArray 33 (0, 0))) (hb : base ≤ w.heap.size) :
    Calls Try.prog 48 #[.slice (some ⟨g, 0, none⟩) n cap, .int .i64 k, .slice (some ⟨gv, 0, none⟩) 1 1] w fun en w' => (∃ A' c', en = .returned (.slice A' (n + 1) c') ∧ Reads w' w'.heap.size 10 A' (n + 1) (fl T10.cs (insAt l k t))) ∧ w.grownBy w' (some g) := by
  obtain ⟨i0, hii, hz0, hz1, hz2⟩ := info_parts infoTri
  obtain ⟨W1, G, zs, hr1, hzl, hG1, hG2, ho1, hg1⟩ := grow_zeros w base g n cap k l hn hown hk hc h1000 hb 24
  obtain ⟨N, hN⟩ : ∃ N, w.heap.size = N := ⟨_, rfl⟩
  have hgN := (hown.lt g rfl).2
  have hcap := own_cap hown
  have hgv := lt_of_block hv
  rw [hN] at hr1 ho1 hgN hgv
  have hkl : (fl T10.cs (l.take k)).length = k * 10 := by rw [fl_length T10.len, List.length_take, Nat.min_eq_left (by omega)]
  have hv1 : W1.heap[gv]? = some (.cells t.cs.toArray 33 (0, 0)) := (hg1.block gv (by omega) (by simp)).trans hv
  obtain ⟨W2, hr2, ho2, hg2⟩ := run_copy_own W1 24 24 3 33 i0 10 base N (n + 1) G _ ho1 Try.underlying24 hii hz1 (k * 10) (n + 1 - k) (G - k) ⟨gv, 0, none⟩ 1 1 1 t.cs (by simp only [Nat.min_def]; split <;> omega) rfl (one_cells hv1) (by rw [T10.len]; omega) t.one
  have e2 : (fl T10.cs (l.take k) ++ zs).take (k * 10) ++ t.cs ++ (fl T10.cs (l.take k) ++ zs).drop (k * 10 + t.cs.length) = fl T10.cs (l.take k) ++ (t.cs ++ zs.drop 10) := by
    rw [← hkl, List.take_left, ← List.drop_drop, List.drop_left, T10.len, List.append_assoc]
  rw [e2] at ho2
  have hsrc : ∀ q u, (fl T10.cs (l.drop k))[q]? = some u → W2.drew.cell? ((⟨g, k * 10, none⟩ : Addr).add q) = some u := fun q u hu => by
    rw [Addr.add_lit]
    rw [← fl_drop T10.len, List.getElem?_drop] at hu
    have hq : k * 10 + q < n * 10 := by
      have := (List.getElem?_eq_some_iff.1 hu).1
      rw [fl_length T10.len, hn] at this
      exact this
    have h0 := (hown.cellAt _ hq).trans hu
    have h1 : W2.heap[g]? = w.heap[g]? := (hg2.block g (by have := hg1.size; omega) (by simp; omega)).trans (hg1.block g (by omega) (by simp))
    exact (World.cell?_of_block (a := ⟨g, k * 10 + q, none⟩) h1).trans h0
  have hdl : (fl T10.cs (l.drop k)).length = (n - k) * 10 := by rw [fl_length T10.len, List.length_drop, hn]
  obtain ⟨W3, hr3, ho3, hg3⟩ := run_copy_own W2.drew 24 24 3 33 i0 10 base N (n + 1) G _ (show W2.drew.ownsRow _ _ _ _ _ _ from ho2) Try.underlying24 hii hz1 ((k + 1) * 10) (n - k) (G - (k + 1)) ⟨g, k * 10, none⟩ (n - k) (cap - k) (n - k) (fl T10.cs (l.drop k)) (Nat.min_self _) hdl hsrc (by rw [hdl]; omega) (fl_one T10.one _)
  have e3 : (fl T10.cs (l.take k) ++ (t.cs ++ zs.drop 10)).take ((k + 1) * 10) ++ fl T10.cs (l.drop k) ++ (fl T10.cs (l.take k) ++ (t.cs ++ zs.drop 10)).drop ((k + 1) * 10 + (fl T10.cs (l.drop k)).length) = fl T10.cs (insAt l k t) := by
    have e : (k + 1) * 10 = (fl T10.cs (l.take k)).length + 10 := by rw [hkl]; omega
    rw [e]
    exact (ins_grow (a := fl T10.cs (l.take k)) (b := t.cs) (c := fl T10.cs (l.drop k)) (z := zs) (T10.len t) (by rw [hzl, hdl]; omega)).trans (ins_cells l k t)
  rw [e3] at ho3
  have hgr : w.grownBy W3 (some g) := by
    have a1 := hg1.size
    have a2 := hg2.size
    refine ⟨hg3.os.trans (hg2.os.trans hg1.os), hg3.tape.trans (hg2.tape.trans hg1.tape), hg3.output.trans (hg2.output.trans hg1.output), Nat.le_trans a1 (Nat.le_trans a2 hg3.size), fun j hj _ => ?_⟩
    have n1 : some j ≠ some N := by intro h; injection h with h; omega
    exact (hg3.block j (show j < W2.heap.size by omega) n1).trans ((hg2.block j (by omega) n1).trans (hg1.block j hj (by simp)))
  replace hgr := Lib.hid hgr
  replace ho3 := Lib.hid ho3
  replace hn := Lib.hid hn
  clear e2 e3 ho2 ho1 hown hsrc hdl hkl hzl hg1 hg2 hg3 hv hv1 hgN hgv hb hN
  have b1 : (k : Int) ≤ (n : Int) := by omega
  have b2 : ¬ ((k : Int) = (n : Int)) := by omega
  have b3 : (cap : Int) < (n : Int) + 1 := by omega
  have b4 : (k : Int) ≤ (cap : Int) := by omega
  have b5 : (k : Int) ≤ (n : Int) + 1 := by omega
  have b6 : (k : Int) + 1 ≤ (n : Int) + 1 := by omega
  have b7 : ¬ (cap = k) := by omega
  have b8 : ¬ (G = k) := by omega
  have b9 : ¬ (G = k + 1) := by omega
  have b10 : (0 : Int) ≤ (k : Int) + 1 := by omega
  have hwk : IntKind.i64.wrap ((k : Int) + 1) = (k : Int) + 1 := by rw [IntKind.wrap_i64]; omega
  refine (callsIn_wide (n := 6)).1 ?_
  refine callsIn_of_wp Try.func48 rfl trivial ?_
  simp only [Try.ntmps48, List.size_toArray, List.length_cons, List.length_nil, Nat.reduceAdd, Nat.reduceSub, Array.replicate_succ, Array.replicate_zero, List.push_toArray, List.append_toArray, List.nil_append, List.cons_append]
  gi_wp2_with (first | (refine wpListIn_plain rfl fun K' hK' => ?_; refine wpIn_append_run (.tmp 34) (.tmp 39) 24 3 rfl _ _ rfl rfl hr1 ?_; refine hK' _ _ ?_) | (refine wpListIn_plain rfl fun K' hK' => ?_; refine wpIn_copy_run (.tmp 43) (.tmp 44) 24 24 rfl _ _ rfl rfl hr2 ?_; refine hK' _ _ ?_))
  go_simp
  have hS : (CellsL []) (W2.drew) := trivial
  refine wpIn_region_ord [(0, true), (1, true), (2, true), (3, true), (4, true), (5, true), (6, true), (7, true)] (CellsL []) (fun _ => trivial) rfl (by first | exact then_put rfl | (intro c d v a w h; cases d <;> exact h)) (by kernel_rfl) ?_
  simp only [List.length_cons, List.length_nil, Nat.reduceAdd, List.drop_succ_cons, List.drop_zero]
  iterate 8 (apply wpOrd_quiet rfl hS rfl; (intro w' hw'; obtain _ := hw'; go_simp; exact rfl); go_simp)
  refine wpOrd_nil ?_
  gi_wp2_with (refine wpListIn_plain rfl fun K' hK' => ?_; refine wpIn_copy_run (.tmp 50) (.tmp 53) 24 24 rfl _ _ rfl rfl hr3 ?_; refine hK' _ _ ?_)
  go_ret
  exact ⟨⟨_, _, rfl, Reads.of_own ho3.out⟩, hgr.out⟩
end Go.Proofs.Ytpbpbijjkmjjjaa
