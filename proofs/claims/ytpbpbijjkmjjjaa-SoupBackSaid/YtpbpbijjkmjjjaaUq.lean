/- soup.boxes, soup.hops, soup.tris: the lists, by walks. No conditions but that things lie where they are said to lie. -/
import Derived.Test.YtpbpbijjkmjjjaaUo
set_option linter.unusedSimpArgs false
set_option linter.unusedVariables false
namespace Go.Proofs.Ytpbpbijjkmjjjaa
open Go Go.RowKit Go.Sx
attribute [local go_sem] Oper.semAt_some
set_option maxHeartbeats 4000000 in
set_option maxRecDepth 100000 in
theorem boxMay_any (t : B8) (W D : Int) (C : Nat) (w : World) (h5 : w.cell? ⟨C, 5, none⟩ = some (.int .i64 W)) (h6 : w.cell? ⟨C, 6, none⟩ = some (.int .i64 D)) (hC : C < w.heap.size) :
    Calls Try.prog 54 #[t.v, .pointer (some ⟨C, 0, none⟩)] w fun en w' => en = .returned (.bool (boxMay W D t)) ∧ Below w.heap.size w w' := by
  obtain ⟨id, x0, z0, x1, z1, y0, y1, ar⟩ := t
  obtain ⟨u1, eu1, bu1, ku1⟩ := alloc_step w (.cells #[.int .i64 id, .int .i64 x0, .int .i64 z0, .int .i64 x1, .int .i64 z1, .int .i64 y0, .int .i64 y1, .int .i64 ar] 64)
  obtain ⟨u2, eu2, bu2, ku2⟩ := alloc_step u1 (.cells #[.func (.func 56) #[] #[.pointer (some ⟨w.heap.size, 0, none⟩), .pointer (some ⟨C, 0, none⟩)], .func (.func 57) #[] #[.pointer (some ⟨w.heap.size, 0, none⟩), .pointer (some ⟨C, 0, none⟩)], .func (.func 58) #[] #[.pointer (some ⟨w.heap.size, 0, none⟩)], .func (.func 59) #[] #[.pointer (some ⟨w.heap.size, 0, none⟩)]] 35)
  have hb2 := bu1.trans (bu2.mono bu1.size)
  have hl1 := lt_of_block ku1
  have hcell : ∀ W', Below u2.heap.size u2 W' → W'.heap[w.heap.size]? = some (.cells #[.int .i64 id, .int .i64 x0, .int .i64 z0, .int .i64 x1, .int .i64 z1, .int .i64 y0, .int .i64 y1, .int .i64 ar] 64 (0, 0)) ∧ W'.cell? ⟨C, 5, none⟩ = some (.int .i64 W) ∧ W'.cell? ⟨C, 6, none⟩ = some (.int .i64 D) ∧ w.heap.size < W'.heap.size := fun W' h => by
    have hs := bu2.size
    exact ⟨(h.block _ (by omega)).trans ((bu2.block _ hl1).trans ku1), (hb2.trans (h.mono hb2.size) |>.cell (p := ⟨C, 5, none⟩) hC).trans h5, (hb2.trans (h.mono hb2.size) |>.cell (p := ⟨C, 6, none⟩) hC).trans h6, by have := h.size; omega⟩
  have hall := all_any [(56, #[.pointer (some ⟨w.heap.size, 0, none⟩), .pointer (some ⟨C, 0, none⟩)], strOk x0 x1 W), (57, #[.pointer (some ⟨w.heap.size, 0, none⟩), .pointer (some ⟨C, 0, none⟩)], strOk z0 z1 D), (58, #[.pointer (some ⟨w.heap.size, 0, none⟩)], yOk y0 y1), (59, #[.pointer (some ⟨w.heap.size, 0, none⟩)], arOk ar 0 7)] (some ⟨u1.heap.size, 0, none⟩) 4 u2 (by simp)
    ⟨rfl, fun _ => ⟨_, rfl, lt_of_block ku2, fun j u hj => by rw [Addr.add_lit, Nat.zero_add]; exact cell_of ku2 (by rw [← List.getElem?_toArray] at hj; exact hj)⟩⟩ (fun x hx => by
      simp only [List.mem_cons, List.not_mem_nil, or_false] at hx
      rcases hx with rfl | rfl | rfl | rfl
      · refine ⟨enters_of Try.func56 (by kernel_rfl) rfl, fun W' h => ?_⟩
        obtain ⟨k, k5, k6, _⟩ := hcell W' h
        exact boxX_any _ C x0 x1 W W' (cell_of k rfl) (cell_of k rfl) k5
      · refine ⟨enters_of Try.func57 (by kernel_rfl) rfl, fun W' h => ?_⟩
        obtain ⟨k, k5, k6, _⟩ := hcell W' h
        exact boxZ_any _ C z0 z1 D W' (cell_of k rfl) (cell_of k rfl) k6
      · refine ⟨enters_of Try.func58 (by kernel_rfl) rfl, fun W' h => ?_⟩
        obtain ⟨k, k5, k6, kl⟩ := hcell W' h
        exact boxY_any _ y0 y1 W' (cell_of k rfl) (cell_of k rfl) kl
      · refine ⟨enters_of Try.func59 (by kernel_rfl) rfl, fun W' h => ?_⟩
        obtain ⟨k, k5, k6, kl⟩ := hcell W' h
        exact boxA_any _ ar W' (cell_of k rfl))
  have hres : Hid (boxMay W D ⟨id, x0, z0, x1, z1, y0, y1, ar⟩ = (strOk x0 x1 W && (strOk z0 z1 D && (yOk y0 y1 && (arOk ar 0 7 && true))))) := Lib.hid (by simp [boxMay, Bool.and_assoc])
  simp only [List.all_cons, List.all_nil, List.length_cons, List.length_nil, Nat.reduceAdd] at hall
  generalize (strOk x0 x1 W && (strOk z0 z1 D && (yOk y0 y1 && (arOk ar 0 7 && true)))) = bb at hall hres
  clear hcell
  unfold B8.v
  refine (callsIn_wide (n := 6)).1 ?_
  refine callsIn_of_wp Try.func54 rfl trivial ?_
  simp only [Try.ntmps54, List.size_toArray, List.length_cons, List.length_nil, Nat.reduceAdd, Nat.reduceSub, Array.replicate_succ, Array.replicate_zero, List.push_toArray, List.append_toArray, List.nil_append, List.cons_append]
  gi_wp2
  refine ⟨trivial, (callsIn_wide.2 hall).mono ?_⟩
  rintro en w3 ⟨rfl, hb3⟩
  gi_wp2
  go_ret
  exact ⟨by rw [hres.out]; rfl, hb2.trans (hb3.mono hb2.size)⟩
theorem infoLT : (Try.prog.info? 55).map (fun i => (i.zero, i.size, i.bytes)) = some (some (.agg #[.nilFunc, .nilFunc, .int .i64 0, .int .i64 0]), 4, 32) := by kernel_rfl
theorem infoLB : (Try.prog.info? 70).map (fun i => (i.zero, i.size, i.bytes)) = some (some (.agg #[.nilFunc, .nilFunc, .int .i64 0, .int .i64 0]), 4, 32) := by kernel_rfl
theorem infoLH : (Try.prog.info? 84).map (fun i => (i.zero, i.size, i.bytes)) = some (some (.agg #[.nilFunc, .nilFunc, .int .i64 0, .int .i64 0]), 4, 32) := by kernel_rfl
set_option maxHeartbeats 4000000 in
set_option maxRecDepth 100000 in
theorem tris_any (W D : Int) (w : World) :
    Calls Try.prog 18 #[.int .i64 W, .int .i64 D] w fun en w' => (∃ a b, en = .returned (listv 41 42 #[a, b] 200 40) ∧ MayAt 42 #[a, b] T10.v (triMay W D) w') ∧ Below w.heap.size w w' := by
  obtain ⟨u1, eu1, bu1, ku1⟩ := alloc_step w (.cells #[.int .i64 W] 3)
  obtain ⟨u2, eu2, bu2, ku2⟩ := alloc_step u1 (.cells #[.int .i64 D] 3)
  have hb2 := bu1.trans (bu2.mono bu1.size)
  have ku1' := (bu2.block _ (lt_of_block ku1)).trans ku1
  obtain ⟨u3, eu3, bu3, ku3⟩ := alloc_step u2 (.cells #[.nilFunc, .nilFunc, .int .i64 0, .int .i64 0] 55)
  obtain ⟨iT, hiT, hzT0, hzT1, hzT2⟩ := info_parts infoLT
  refine (callsIn_wide (n := 6)).1 ?_
  refine callsIn_of_wp Try.func18 rfl trivial ?_
  simp only [Try.ntmps18, List.size_toArray, List.length_cons, List.length_nil, Nat.reduceAdd, Nat.reduceSub, Array.replicate_succ, Array.replicate_zero, List.push_toArray, List.append_toArray, List.nil_append, List.cons_append]
  gi_wp2_with (refine wpListIn_plain rfl fun K' hK' => ?_; refine wpIn_store_box (.tmp 4) (.tmp 6) rfl hiT rfl rfl [.func (.func 41) #[] #[], .func (.func 42) #[] #[.pointer (some ⟨w.heap.size, 0, none⟩), .pointer (some ⟨u1.heap.size, 0, none⟩)], .int .i64 200, .int .i64 40] rfl hzT1.symm (by simp [Value.oneCell']) ku3 rfl ?_; intro w6 hkm hbs; refine hK' _ _ ?_)
  have hb6 := hb2.trans ((bu3.trans (hbs.mono (Nat.le_refl _))).mono hb2.size)
  have g1 := (hbs.block _ (lt_of_block ku1')).trans ((bu3.block _ (lt_of_block ku1')).trans ku1')
  have g2 := (hbs.block _ (lt_of_block ku2)).trans ((bu3.block _ (lt_of_block ku2)).trans ku2)
  refine bodyPost_ret (results_listT rfl _ _ u2.heap.size _ _ _ _ rfl hkm) rfl ?_
  refine ⟨⟨_, _, rfl, fun W' t h => ?_⟩, hb6⟩
  exact triMay_any t W D w.heap.size u1.heap.size W' ((h.cell (p := ⟨w.heap.size, 0, none⟩) (lt_of_block g1)).trans (cell_of g1 rfl)) ((h.cell (p := ⟨u1.heap.size, 0, none⟩) (lt_of_block g2)).trans (cell_of g2 rfl)) (Nat.lt_of_lt_of_le (lt_of_block g1) h.size) (Nat.lt_of_lt_of_le (lt_of_block g2) h.size)
end Go.Proofs.Ytpbpbijjkmjjjaa
