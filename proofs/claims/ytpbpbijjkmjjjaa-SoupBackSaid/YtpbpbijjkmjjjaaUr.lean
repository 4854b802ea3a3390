/- Which hops may be: soup.hops and its closure, by walks. No conditions but that things lie where they are said to lie. -/
import Derived.Test.YtpbpbijjkmjjjaaUq
set_option linter.unusedSimpArgs false
set_option linter.unusedVariables false
namespace Go.Proofs.Ytpbpbijjkmjjjaa
open Go Go.RowKit Go.Sx
attribute [local go_sem] Oper.semAt_some
/-- May a hop be, but for its id? -/
noncomputable def hopMay (W D : Int) (t : H10) : Bool := spotOk W D t.fx t.fz t.fy && spotOk W D t.tx t.tz t.ty && decide (1 ≤ t.ar) && decide (t.ar ≤ 7) && decide (0 ≤ t.co) && decide (t.co ≤ 1048576)
set_option maxHeartbeats 4000000 in
set_option maxRecDepth 100000 in
theorem hopMay_any (t : H10) (W D : Int) (S C : Nat) (w : World) (h0 : w.cell? ⟨S, 0, none⟩ = some (.func (.func 63) #[] #[.pointer (some ⟨C, 0, none⟩)])) (h5 : w.cell? ⟨C, 5, none⟩ = some (.int .i64 W)) (h6 : w.cell? ⟨C, 6, none⟩ = some (.int .i64 D)) (hS : S < w.heap.size) (hC : C < w.heap.size) :
    Calls Try.prog 65 #[t.v, .pointer (some ⟨S, 0, none⟩)] w fun en w' => en = .returned (.bool (hopMay W D t)) ∧ Below w.heap.size w w' := by
  obtain ⟨id, fx, fz, fy, tx, tz, ty, both, ar, co⟩ := t
  obtain ⟨u1, eu1, bu1, k1⟩ := alloc_step w (.cells #[.int .i64 id, .int .i64 fx, .int .i64 fz, .int .i64 fy, .int .i64 tx, .int .i64 tz, .int .i64 ty, .bool both, .int .i64 ar, .int .i64 co] 78)
  obtain ⟨c0, c1, c2, c3, c4, c5, c6, c7, c8, c9⟩ := box10 k1
  have g0 := (bu1.cell (p := ⟨S, 0, none⟩) hS).trans h0
  have g5 := (bu1.cell (p := ⟨C, 5, none⟩) hC).trans h5
  have g6 := (bu1.cell (p := ⟨C, 6, none⟩) hC).trans h6
  have gS := Nat.lt_of_lt_of_le hS bu1.size
  have gC := Nat.lt_of_lt_of_le hC bu1.size
  clear h0 h5 h6
  unfold H10.v
  refine (callsIn_wide (n := 6)).1 ?_
  refine callsIn_of_wp Try.func65 rfl trivial ?_
  simp only [Try.ntmps65, List.size_toArray, List.length_cons, List.length_nil, Nat.reduceAdd, Nat.reduceSub, Array.replicate_succ, Array.replicate_zero, List.push_toArray, List.append_toArray, List.nil_append, List.cons_append]
  have hh := spot_any C fx fz fy W D u1 g5 g6 gC
  cases b0 : spotOk W D fx fz fy with
  | false =>
    have e : Hid (hopMay W D ⟨id, fx, fz, fy, tx, tz, ty, both, ar, co⟩ = false) := Lib.hid (by simp [hopMay, b0])
    rw [b0] at hh
    replace b0 := Lib.hid b0
    gi_wp2
    refine ⟨trivial, (callsIn_wide.2 hh).mono ?_⟩
    rintro en v1 ⟨rfl, hv1⟩
    gi_wp2_with (refine wpListIn_off rfl ?_)
    go_ret
    exact ⟨by rw [e.out]; first | rfl | (simp; omega), (bu1).trans (hv1.mono (bu1).size)⟩
  | true =>
    rw [b0] at hh
    replace b0 := Lib.hid b0
    gi_wp2
    refine ⟨trivial, (callsIn_wide.2 hh).mono ?_⟩
    rintro en v1 ⟨rfl, hv1⟩
    have hx1 := (hv1.block _ (lt_of_block k1)).trans k1
    replace g0 := (hv1.cell (p := ⟨S, 0, none⟩) gS).trans g0
    replace g5 := (hv1.cell (p := ⟨C, 5, none⟩) gC).trans g5
    replace g6 := (hv1.cell (p := ⟨C, 6, none⟩) gC).trans g6
    replace gS := Nat.lt_of_lt_of_le gS hv1.size
    replace gC := Nat.lt_of_lt_of_le gC hv1.size
    clear k1 c0 c1 c2 c3 c4 c5 c6 c7 c8 c9
    have k1 := hx1
    clear hx1
    obtain ⟨c0, c1, c2, c3, c4, c5, c6, c7, c8, c9⟩ := box10 k1
    have hh := spot_any C tx tz ty W D v1 g5 g6 gC
    cases b1 : spotOk W D tx tz ty with
    | false =>
      have e : Hid (hopMay W D ⟨id, fx, fz, fy, tx, tz, ty, both, ar, co⟩ = false) := Lib.hid (by simp [hopMay, b1])
      rw [b1] at hh
      replace b1 := Lib.hid b1
      gi_wp2
      refine ⟨trivial, (callsIn_wide.2 hh).mono ?_⟩
      rintro en v2 ⟨rfl, hv2⟩
      gi_wp2_with (refine wpListIn_off rfl ?_)
      go_ret
      exact ⟨by rw [e.out]; first | rfl | (simp; omega), ((bu1).trans (hv1.mono (bu1).size)).trans (hv2.mono ((bu1).trans (hv1.mono (bu1).size)).size)⟩
    | true =>
      rw [b1] at hh
      replace b1 := Lib.hid b1
      gi_wp2
      refine ⟨trivial, (callsIn_wide.2 hh).mono ?_⟩
      rintro en v2 ⟨rfl, hv2⟩
      have hx1 := (hv2.block _ (lt_of_block k1)).trans k1
      replace g0 := (hv2.cell (p := ⟨S, 0, none⟩) gS).trans g0
      replace g5 := (hv2.cell (p := ⟨C, 5, none⟩) gC).trans g5
      replace g6 := (hv2.cell (p := ⟨C, 6, none⟩) gC).trans g6
      replace gS := Nat.lt_of_lt_of_le gS hv2.size
      replace gC := Nat.lt_of_lt_of_le gC hv2.size
      clear k1 c0 c1 c2 c3 c4 c5 c6 c7 c8 c9
      have k1 := hx1
      clear hx1
      obtain ⟨c0, c1, c2, c3, c4, c5, c6, c7, c8, c9⟩ := box10 k1
      by_cases a2 : 1 ≤ ar
      · skip
        by_cases a3 : ar ≤ 7
        · skip
          by_cases a4 : 0 ≤ co
          · skip
            by_cases a5 : co ≤ 1048576
            · skip
              have e : Hid (hopMay W D ⟨id, fx, fz, fy, tx, tz, ty, both, ar, co⟩ = true) := Lib.hid (by simp [hopMay, b0.out, b1.out, a2, a3, a4, a5])
              gi_wp2
              go_ret
              exact ⟨by rw [e.out]; first | rfl | (simp; omega), ((bu1).trans (hv1.mono (bu1).size)).trans (hv2.mono ((bu1).trans (hv1.mono (bu1).size)).size)⟩
            · have e : Hid (hopMay W D ⟨id, fx, fz, fy, tx, tz, ty, both, ar, co⟩ = false) := Lib.hid (by simp [hopMay, a5])
              gi_wp2_with (refine wpListIn_off rfl ?_)
              go_ret
              exact ⟨by rw [e.out]; first | rfl | (simp; omega), ((bu1).trans (hv1.mono (bu1).size)).trans (hv2.mono ((bu1).trans (hv1.mono (bu1).size)).size)⟩
          · have e : Hid (hopMay W D ⟨id, fx, fz, fy, tx, tz, ty, both, ar, co⟩ = false) := Lib.hid (by simp [hopMay, a4])
            gi_wp2_with (refine wpListIn_off rfl ?_)
            go_ret
            exact ⟨by rw [e.out]; first | rfl | (simp; omega), ((bu1).trans (hv1.mono (bu1).size)).trans (hv2.mono ((bu1).trans (hv1.mono (bu1).size)).size)⟩
        · have e : Hid (hopMay W D ⟨id, fx, fz, fy, tx, tz, ty, both, ar, co⟩ = false) := Lib.hid (by simp [hopMay, a3])
          gi_wp2_with (refine wpListIn_off rfl ?_)
          go_ret
          exact ⟨by rw [e.out]; first | rfl | (simp; omega), ((bu1).trans (hv1.mono (bu1).size)).trans (hv2.mono ((bu1).trans (hv1.mono (bu1).size)).size)⟩
      · have e : Hid (hopMay W D ⟨id, fx, fz, fy, tx, tz, ty, both, ar, co⟩ = false) := Lib.hid (by simp [hopMay, a2])
        gi_wp2_with (refine wpListIn_off rfl ?_)
        go_ret
        exact ⟨by rw [e.out]; first | rfl | (simp; omega), ((bu1).trans (hv1.mono (bu1).size)).trans (hv2.mono ((bu1).trans (hv1.mono (bu1).size)).size)⟩

set_option maxHeartbeats 4000000 in
set_option maxRecDepth 100000 in
theorem boxes_any (c0 c1 c2 c3 c4 W D : Int) (w : World) :
    Calls Try.prog 27 #[.agg #[.int .i64 c0, .int .i64 c1, .int .i64 c2, .int .i64 c3, .int .i64 c4, .int .i64 W, .int .i64 D]] w fun en w' => (∃ a, en = .returned (listv 53 54 #[a] 16 2) ∧ MayAt 54 #[a] B8.v (boxMay W D) w') ∧ Below w.heap.size w w' := by
  obtain ⟨u1, eu1, bu1, ku1⟩ := alloc_step w (.cells #[.int .i64 c0, .int .i64 c1, .int .i64 c2, .int .i64 c3, .int .i64 c4, .int .i64 W, .int .i64 D] 23)
  obtain ⟨u3, eu3, bu3, ku3⟩ := alloc_step u1 (.cells #[.nilFunc, .nilFunc, .int .i64 0, .int .i64 0] 70)
  obtain ⟨iT, hiT, hzT0, hzT1, hzT2⟩ := info_parts infoLB
  refine (callsIn_wide (n := 6)).1 ?_
  refine callsIn_of_wp Try.func27 rfl trivial ?_
  simp only [Try.ntmps27, List.size_toArray, List.length_cons, List.length_nil, Nat.reduceAdd, Nat.reduceSub, Array.replicate_succ, Array.replicate_zero, List.push_toArray, List.append_toArray, List.nil_append, List.cons_append]
  gi_wp2_with (refine wpListIn_plain rfl fun K' hK' => ?_; refine wpIn_store_box (.tmp 2) (.tmp 4) rfl hiT rfl rfl [.func (.func 53) #[] #[], .func (.func 54) #[] #[.pointer (some ⟨w.heap.size, 0, none⟩)], .int .i64 16, .int .i64 2] rfl hzT1.symm (by simp [Value.oneCell']) ku3 rfl ?_; intro w6 hkm hbs; refine hK' _ _ ?_)
  have hb6 := bu1.trans ((bu3.trans (hbs.mono (Nat.le_refl _))).mono bu1.size)
  have g1 := (hbs.block _ (lt_of_block ku1)).trans ((bu3.block _ (lt_of_block ku1)).trans ku1)
  refine bodyPost_ret (results_listB rfl _ _ u1.heap.size _ _ _ _ rfl hkm) rfl ?_
  refine ⟨⟨_, rfl, fun W' t h => ?_⟩, hb6⟩
  exact boxMay_any t W D w.heap.size W' ((h.cell (p := ⟨w.heap.size, 5, none⟩) (lt_of_block g1)).trans (cell_of g1 rfl)) ((h.cell (p := ⟨w.heap.size, 6, none⟩) (lt_of_block g1)).trans (cell_of g1 rfl)) (Nat.lt_of_lt_of_le (lt_of_block g1) h.size)
theorem wpIn_store_boxg {P : Program} {n : Nat} {o : Oper} {a : Act} {w : World} {K : Act → World → Prop} {Q : Exit → Act → World → Prop} {t : TypeId} (x y : Operand) (ho : o.op = .store t x y) {inf : TypeInfo} (hi : P.info? t = some inf) {g : Nat} {T : TypeId} {cur : Array Value} (hx : a.eval x = .pointer (some ⟨g, 0, none⟩)) {v : Value} (hy : a.eval y = v)
    (cs : List Value) (hc : v.cells.toList = cs) (hl : cs.length = inf.size) (h1 : ∀ u ∈ cs, u.oneCell' = true) (hg : w.heap[g]? = some (.cells cur T (0, 0))) (hfit : cur.size = cs.length)
    (h : ∀ w', w'.heap[g]? = some (.cells cs.toArray T (0, 0)) → w.grownBy w' (some g) → K (a.put o.dst undef) w') : o.wpIn Fence.wide n P a w K Q := by
  refine wpIn_store_block x y ho hi hx hy cs hc hl h1 hg (by omega) (h _ ?_ ?_)
  · have e : (cur.toList.take 0 ++ cs ++ cur.toList.drop (0 + cs.length)).toArray = cs.toArray := by
      rw [List.drop_eq_nil_of_le (by simp [hfit])]
      simp
    rw [e]
    exact setRow_heap _ _ _ _ _ _ hg
  · exact ⟨rfl, rfl, rfl, by simp [World.setRow], fun k _ hk => setRow_other w g k _ (fun e => hk (by rw [e]))⟩
theorem infoF : (Try.prog.info? 113).map (fun i => (i.zero, i.size, i.bytes)) = some (some (.nilFunc), 1, 8) := by kernel_rfl
set_option maxHeartbeats 4000000 in
set_option maxRecDepth 100000 in
theorem hops_any (c0 c1 c2 c3 c4 W D : Int) (w : World) :
    Calls Try.prog 32 #[.agg #[.int .i64 c0, .int .i64 c1, .int .i64 c2, .int .i64 c3, .int .i64 c4, .int .i64 W, .int .i64 D]] w fun en w' => (∃ a, en = .returned (listv 64 65 #[a] 16 2) ∧ MayAt 65 #[a] H10.v (hopMay W D) w') ∧ Below w.heap.size w w' := by
  obtain ⟨u1, eu1, bu1, ku1⟩ := alloc_step w (.cells #[.int .i64 c0, .int .i64 c1, .int .i64 c2, .int .i64 c3, .int .i64 c4, .int .i64 W, .int .i64 D] 23)
  obtain ⟨u3, eu3, bu3, ku3⟩ := alloc_step u1 (.cells #[.nilFunc, .nilFunc, .int .i64 0, .int .i64 0] 84)
  obtain ⟨u4, eu4, bu4, ku4⟩ := alloc_step u3 (.cells #[.nilFunc] 113)
  obtain ⟨iT, hiT, hzT0, hzT1, hzT2⟩ := info_parts infoLH
  obtain ⟨iF, hiF, hzF0, hzF1, hzF2⟩ := info_parts infoF
  have ku3' := (bu4.block _ (lt_of_block ku3)).trans ku3
  have ls := lt_of_block ku3
  refine (callsIn_wide (n := 6)).1 ?_
  refine callsIn_of_wp Try.func32 rfl trivial ?_
  simp only [Try.ntmps32, List.size_toArray, List.length_cons, List.length_nil, Nat.reduceAdd, Nat.reduceSub, Array.replicate_succ, Array.replicate_zero, List.push_toArray, List.append_toArray, List.nil_append, List.cons_append]
  gi_wp2_with (first | (refine wpListIn_plain rfl fun K' hK' => ?_; refine wpIn_store_boxg (.tmp 3) (.tmp 4) rfl hiF rfl rfl [.func (.func 63) #[] #[.pointer (some ⟨w.heap.size, 0, none⟩)]] rfl hzF1.symm (by simp [Value.oneCell']) ku4 rfl ?_; intro w5 hkf hbf; have hk5 := (hbf.block _ (Nat.lt_of_lt_of_le ls bu4.size) (by intro e; injection e with e; omega)).trans ku3'; refine hK' _ _ ?_) | (refine wpListIn_plain rfl fun K' hK' => ?_; refine wpIn_store_boxg (.tmp 2) (.tmp 6) rfl hiT rfl rfl [.func (.func 64) #[] #[], .func (.func 65) #[] #[.pointer (some ⟨u3.heap.size, 0, none⟩)], .int .i64 16, .int .i64 2] rfl hzT1.symm (by simp [Value.oneCell']) hk5 rfl ?_; intro w6 hkm hbs; refine hK' _ _ ?_))
  have z1 := bu3.size
  have z4 := lt_of_block ku4
  have hb5 := below_own (bu1.trans ((bu3.trans (bu4.mono bu3.size)).mono bu1.size)) (Nat.le_trans bu1.size (Nat.le_trans bu3.size bu4.size)) hbf (Nat.le_trans bu1.size bu3.size)
  have hb6 := below_own hb5 hb5.size hbs bu1.size
  have y1 := lt_of_block ku1
  have hkc := (hbf.block w.heap.size (by omega) (by intro e; injection e with e; omega)).trans ((bu4.block _ (by omega)).trans ((bu3.block _ y1).trans ku1))
  have g1 := (hbs.block _ (lt_of_block hkc) (by intro e; injection e with e; omega)).trans hkc
  have g2 := (hbs.block _ (lt_of_block hkf) (by intro e; injection e with e; omega)).trans hkf
  refine bodyPost_ret (results_listH rfl _ _ u1.heap.size _ _ _ _ rfl hkm) rfl ?_
  refine ⟨⟨_, rfl, fun W' t h => ?_⟩, hb6⟩
  exact hopMay_any t W D u3.heap.size w.heap.size W' ((h.cell (p := ⟨u3.heap.size, 0, none⟩) (lt_of_block g2)).trans (cell_of g2 rfl)) ((h.cell (p := ⟨w.heap.size, 5, none⟩) (lt_of_block g1)).trans (cell_of g1 rfl)) ((h.cell (p := ⟨w.heap.size, 6, none⟩) (lt_of_block g1)).trans (cell_of g1 rfl)) (Nat.lt_of_lt_of_le (lt_of_block g2) h.size) (Nat.lt_of_lt_of_le (lt_of_block g1) h.size)

end Go.Proofs.Ytpbpbijjkmjjjaa
