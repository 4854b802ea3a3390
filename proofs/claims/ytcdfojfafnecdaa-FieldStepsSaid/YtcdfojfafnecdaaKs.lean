/- Several texts in one: Fs Ft Fu Fv Ha Hb. -/
import Derived.Test.YtcdfojfafnecdaaRf
/- footpathref13.at and footpathref13.to by walks. No conditions but that the grid lies where it is said to lie, and may be. -/
namespace Go.Proofs.Ytcdfojfafnecdaa
open Go Go.RowKit Go.Sx Go.Mp
attribute [local go_sem] Oper.semAt_some
theorem col_none {X Z W D : Int} {rows : List (List V3)} {x z : Int} (h : x < X ∨ W ≤ x - X ∨ z < Z ∨ D ≤ z - Z) : colOf X Z W D rows x z = [] := by unfold colOf; rw [if_pos h]
set_option maxHeartbeats 2000000 in
set_option maxRecDepth 100000 in
theorem rat_any (X Z W D x z : Int) (rows : List (List V3)) (A : Option Addr) (cap : Nat) (w : World) (hr : RowsAt w w.heap.size A rows) (ho : gridOk X Z W D rows) (_ : -1000 ≤ x ∧ x ≤ 1000) (hz : -1000 ≤ z ∧ z ≤ 1000) :
    Calls Try.prog 44 #[gridv X Z W D A rows.length cap, .int .i64 x, .int .i64 z] w fun en w' => RowRet w w' en (colOf X Z W D rows x z) := by
  obtain ⟨o1, o2, o3, o4, o5, o6, o7, o8, o9, _⟩ := ho
  obtain ⟨W0, e0, hb0, hk0⟩ := alloc_step w (.cells #[.int .i64 X, .int .i64 Z, .int .i64 W, .int .i64 D, .slice A rows.length cap] 26)
  obtain ⟨g0, g1, g2, g3, g4⟩ := box5 hk0
  have f1 : IntKind.i64.wrap (X + W) = X + W := by rw [IntKind.wrap_i64]; omega
  have f2 : IntKind.i64.wrap (Z + D) = Z + D := by rw [IntKind.wrap_i64]; omega
  have f3 : IntKind.i64.wrap (z - Z) = z - Z := by rw [IntKind.wrap_i64]; omega
  unfold gridv
  by_cases k0 : x < X
  · rw [col_none (.inl k0)]
    refine (callsIn_wide (n := 6)).1 ?_
    refine callsIn_of_wp Try.func44 rfl trivial ?_
    simp only [Try.ntmps44, List.size_toArray, List.length_cons, List.length_nil, Nat.reduceAdd, Nat.reduceSub, Array.replicate_succ, Array.replicate_zero, List.push_toArray, List.append_toArray, List.nil_append, List.cons_append]
    gi_wp2
    go_ret
    exact ⟨none, 0, rfl, vcs_nil, hb0⟩
  by_cases k1 : X + W ≤ x
  · rw [col_none (.inr (.inl (by omega)))]
    refine (callsIn_wide (n := 6)).1 ?_
    refine callsIn_of_wp Try.func44 rfl trivial ?_
    simp only [Try.ntmps44, List.size_toArray, List.length_cons, List.length_nil, Nat.reduceAdd, Nat.reduceSub, Array.replicate_succ, Array.replicate_zero, List.push_toArray, List.append_toArray, List.nil_append, List.cons_append]
    gi_wp2
    go_ret
    exact ⟨none, 0, rfl, vcs_nil, hb0⟩
  by_cases k2 : z < Z
  · rw [col_none (.inr (.inr (.inl k2)))]
    refine (callsIn_wide (n := 6)).1 ?_
    refine callsIn_of_wp Try.func44 rfl trivial ?_
    simp only [Try.ntmps44, List.size_toArray, List.length_cons, List.length_nil, Nat.reduceAdd, Nat.reduceSub, Array.replicate_succ, Array.replicate_zero, List.push_toArray, List.append_toArray, List.nil_append, List.cons_append]
    gi_wp2
    go_ret
    exact ⟨none, 0, rfl, vcs_nil, hb0⟩
  by_cases k3 : Z + D ≤ z
  · rw [col_none (.inr (.inr (.inr (by omega))))]
    refine (callsIn_wide (n := 6)).1 ?_
    refine callsIn_of_wp Try.func44 rfl trivial ?_
    simp only [Try.ntmps44, List.size_toArray, List.length_cons, List.length_nil, Nat.reduceAdd, Nat.reduceSub, Array.replicate_succ, Array.replicate_zero, List.push_toArray, List.append_toArray, List.nil_append, List.cons_append]
    gi_wp2
    go_ret
    exact ⟨none, 0, rfl, vcs_nil, hb0⟩
  obtain ⟨p, q, k, hk, hkl, e3, e3', e4, e4', e6, e6'⟩ := at_idx (X := X) (Z := Z) (W := W) (D := D) (x := x) (z := z) o1 o2 o5 o6 o8 o9 (by omega) (by omega) (by omega) (by omega)
  have hkl' : (k : Int) < (rows.length : Int) := Int.ofNat_lt.2 hkl
  have hcol : colOf X Z W D rows x z = rows[k] := by
    unfold colOf
    rw [if_neg (by omega), hk, Int.toNat_natCast, List.getD_eq_getElem?_getD, List.getElem?_eq_getElem hkl]; rfl
  obtain ⟨ad, Ai, ci, rfl, hbl, hc, hrr⟩ := (hr.below hb0).at_ hkl
  obtain ⟨r, hrk⟩ : ∃ r, rows[k] = r := ⟨_, rfl⟩
  rw [hrk] at hc hrr hcol
  rw [hcol]
  clear hrk hk o9 hcol
  refine (callsIn_wide (n := 6)).1 ?_
  refine callsIn_of_wp Try.func44 rfl trivial ?_
  simp only [Try.ntmps44, List.size_toArray, List.length_cons, List.length_nil, Nat.reduceAdd, Nat.reduceSub, Array.replicate_succ, Array.replicate_zero, List.push_toArray, List.append_toArray, List.nil_append, List.cons_append]
  gi_wp2
  go_ret
  exact ⟨Ai, ci, rfl, hrr.more hb0.size, hb0⟩
theorem rlk_eq {a b c d e f g aY aT aA bY bT bA : Int} (h1 : -2048 ≤ aY ∧ aY ≤ 2048 ∧ -2048 ≤ aT ∧ aT ≤ 1048576) (h2 : -2048 ≤ bY ∧ bY ≤ 2048 ∧ -2048 ≤ bT ∧ bT ≤ 1048576) : rlinkedF a b c d e f g aY aT aA bY bT bA = linkedF a b c d e f g aY aT aA bY bT bA := by
  rw [rlinkedF_eq, linkedF_eq, ← checkF_R]
  have e1 : w64 (aY - bY) = aY - bY := by rw [w64_id] <;> omega
  have e2 : w64 (bY - aY) = bY - aY := by rw [w64_id] <;> omega
  have e3 : w64 (max aY bY - min aY bY) = max aY bY - min aY bY := by rw [w64_id] <;> omega
  rw [e1, e2, e3, show max (aY - bY) (bY - aY) = max aY bY - min aY bY by omega]
  have d1 : (decide (min aY bY < -1099511627776)) = false := decide_eq_false (by omega)
  have d2 : (decide (1099511627776 < max aY bY)) = false := decide_eq_false (by omega)
  have d3 : (decide (min aT bT < -1099511627776)) = false := decide_eq_false (by omega)
  have d4 : (decide (1099511627776 < max aT bT)) = false := decide_eq_false (by omega)
  have d5 : (decide (aY < -1099511627776) || decide (1099511627776 < aY)) = false := by simp; omega
  have d6 : (decide (aT < -1099511627776) || decide (1099511627776 < aT)) = false := by simp; omega
  have d7 : (decide (bY < -1099511627776) || decide (1099511627776 < bY)) = false := by simp; omega
  have d8 : (decide (bT < -1099511627776) || decide (1099511627776 < bT)) = false := by simp; omega
  rw [d1, d2, d3, d4, d5, d6, d7, d8]
  have n1 : (decide (aA ≤ 0)) = !(decide (0 < aA)) := by by_cases h : 0 < aA <;> simp [h]; omega
  have n2 : (decide (bA ≤ 0)) = !(decide (0 < bA)) := by by_cases h : 0 < bA <;> simp [h]; omega
  rw [n1, n2]
  generalize (checkF a b c d e f g == 0) = p
  generalize decide (0 < aA) = q
  generalize decide (0 < bA) = r
  cases p <;> cases q <;> cases r <;> simp
theorem floor_bd {l : List V3} (h : rowOk l) {k : Nat} {f : V3} (hf : l[k]? = some f) : -2048 ≤ f.x ∧ f.x ≤ 2048 ∧ -2048 ≤ f.y ∧ f.y ≤ 1048576 := by
  have h1 := rowOk_low h hf
  have h2 := h.1 k f hf
  unfold floorOk at h2
  omega
theorem rlinked_any (a b c d e f g : Int) (p q : V3) (w : World) (h1 : -2048 ≤ p.x ∧ p.x ≤ 2048 ∧ -2048 ≤ p.y ∧ p.y ≤ 1048576) (h2 : -2048 ≤ q.x ∧ q.x ≤ 2048 ∧ -2048 ≤ q.y ∧ q.y ≤ 1048576) : Calls Try.prog 46 #[cfgv a b c d e f g, .agg #[.int .i64 p.x, .int .i64 p.y, .int .i64 p.z], .agg #[.int .i64 q.x, .int .i64 q.y, .int .i64 q.z]] w fun en w' =>
    en = .returned (.bool (lkF a b c d e f g p q)) ∧ Below w.heap.size w w' := by
  unfold lkF
  rw [← rlk_eq h1 h2]
  exact rlinkedC_holds [.int .i64 a, .int .i64 b, .int .i64 c, .int .i64 d, .int .i64 e, .int .i64 f, .int .i64 g, .int .i64 p.x, .int .i64 p.y, .int .i64 p.z, .int .i64 q.x, .int .i64 q.y, .int .i64 q.z]
    ⟨a, _, rfl, b, _, rfl, c, _, rfl, d, _, rfl, e, _, rfl, f, _, rfl, g, _, rfl, _, _, rfl, _, _, rfl, _, _, rfl, _, _, rfl, _, _, rfl, _, _, rfl, rfl⟩ w
theorem rstep_any {d : Nat} (hd4 : d < 4) {dx dz : Int} (hd : stepD d = some (dx, dz)) (w : World) : Calls Try.prog 45 #[.int .i64 d] w fun en w' => en = .returned (.tuple #[.int .i64 dx, .int .i64 dz, .bool true]) ∧ Below w.heap.size w w' := by
  refine (rstepC_holds [.int .i64 d] ⟨d, _, rfl, rfl⟩ w).mono fun en w' ⟨he, hb⟩ => ⟨?_, hb⟩
  rw [he]
  show Ending.returned (.tuple #[.int .i64 (rstepF0 d), .int .i64 (rstepF1 d), .bool (rstepF2 d)]) = _
  rw [rstepF0_eq, rstepF1_eq, rstepF2_eq]
  have h : d = 0 ∨ d = 1 ∨ d = 2 ∨ d = 3 := by omega
  rcases h with rfl | rfl | rfl | rfl <;> (have e := Option.some.inj hd; injection e with e1 e2; subst e1; subst e2; rfl)
set_option maxHeartbeats 2000000 in
set_option maxRecDepth 100000 in
theorem rto_any (a b c d e f g X Z W D x z : Int) (k dir : Nat) (rows : List (List V3)) (A : Option Addr) (cap : Nat) (w : World) (hr : RowsAt w w.heap.size A rows) (ho : gridOk X Z W D rows) (hx : -900 ≤ x ∧ x ≤ 900) (hz : -900 ≤ z ∧ z ≤ 900) (hk : k < (colOf X Z W D rows x z).length) (hd4 : dir < 4) :
    Calls Try.prog 33 #[cfgv a b c d e f g, gridv X Z W D A rows.length cap, .int .i64 x, .int .i64 z, .int .i64 k, .int .i64 dir] w fun en w' =>
      OptRet en (toF (lkF a b c d e f g) (colOf X Z W D rows) x z k dir) ∧ Below w.heap.size w w' := by
  obtain ⟨dx, dz, hd⟩ := stepD_some hd4
  obtain ⟨_, _, _, s1, s2, s3, s4⟩ := stepD_opp hd
  have hst := fun w => rstep_any hd4 hd w
  generalize hr1 : colOf X Z W D rows x z = r1 at hk
  have hro1 : rowOk r1 := by rw [← hr1]; exact colOf_ok ho x z
  obtain ⟨r2, hr2⟩ : ∃ r2, colOf X Z W D rows (x + dx) (z + dz) = r2 := ⟨_, rfl⟩
  have hro2 : rowOk r2 := by rw [← hr2]; exact colOf_ok ho _ _
  obtain ⟨fl, hfl⟩ : ∃ fl, r1[k] = fl := ⟨_, rfl⟩
  have hfl' : r1[k]? = some fl := by rw [List.getElem?_eq_getElem hk, hfl]
  obtain ⟨res, hres⟩ : ∃ res, firstF (fun q => lkF a b c d e f g fl q) r2 0 = res := ⟨_, rfl⟩
  have ht : toF (lkF a b c d e f g) (colOf X Z W D rows) x z k dir = res := by
    unfold toF
    rw [hd]
    simp only
    rw [if_neg (by omega), hr1, Int.toNat_natCast, hfl']
    simp only
    rw [hr2, hres]
  rw [ht]
  clear ht
  have hl1 : r1.length ≤ 8 := hro1.2
  have hl2 : r2.length ≤ 8 := hro2.2
  have e1 : IntKind.i64.wrap (x + dx) = x + dx := by rw [IntKind.wrap_i64]; omega
  have e2 : IntKind.i64.wrap (z + dz) = z + dz := by rw [IntKind.wrap_i64]; omega
  obtain ⟨u1, eu1, bu1, ku1⟩ := alloc_step w (.cells #[.int .i64 a, .int .i64 b, .int .i64 c, .int .i64 d, .int .i64 e, .int .i64 f, .int .i64 g] 23)
  obtain ⟨u2, eu2, bu2, ku2⟩ := alloc_step u1 (.cells #[.int .i64 X, .int .i64 Z, .int .i64 W, .int .i64 D, .slice A rows.length cap] 26)
  have hb2 : Below w.heap.size w u2 := bu1.trans (bu2.mono bu1.size)
  have hB0 := (bu2.block _ (lt_of_block ku1)).trans ku1
  have hA1 := rat_any X Z W D x z rows A cap u2 ((hr.below hb2).more hb2.size) ho (by omega) (by omega)
  rw [hr1] at hA1
  obtain ⟨g0, g1, g2, g3, g4⟩ := box5 ku2
  unfold cfgv
  unfold gridv at hA1 ⊢
  refine (callsIn_wide (n := 6)).1 ?_
  refine callsIn_of_wp Try.func33 rfl trivial ?_
  simp only [Try.ntmps33, List.size_toArray, List.length_cons, List.length_nil, Nat.reduceAdd, Nat.reduceSub, Array.replicate_succ, Array.replicate_zero, List.push_toArray, List.append_toArray, List.nil_append, List.cons_append]
  gi_wp2
  refine ⟨trivial, (callsIn_wide.2 hA1).mono ?_⟩
  rintro en w3 ⟨A1, c1, rfl, hrd1, hb3⟩
  clear g0 g1 g2 g3 g4
  gi_wp2
  refine ⟨trivial, (callsIn_wide.2 (hst _)).mono ?_⟩
  rintro en w4 ⟨rfl, hb4⟩
  have hb34 := hb3.trans (hb4.mono hb3.size)
  have hb24 := hb2.trans (hb34.mono hb2.size)
  have k2 := (hb34.block _ (lt_of_block ku2)).trans ku2
  have k1 := (hb34.block _ (lt_of_block hB0)).trans hB0
  have hk' : (k : Int) < (r1.length : Int) := by omega
  have hk0 : ¬ (k : Int) < 0 := by omega
  obtain ⟨g0, g1, g2, g3, g4⟩ := box5 k2
  gi_wp2
  have hA2 := rat_any X Z W D (x + dx) (z + dz) rows A cap w4 ((hr.below hb24).more hb24.size) ho (by omega) (by omega)
  rw [hr2] at hA2
  unfold gridv at hA2
  refine ⟨trivial, (callsIn_wide.2 hA2).mono ?_⟩
  rintro en w5 ⟨A2, c2, rfl, hrd2, hb5⟩
  clear g0 g1 g2 g3 g4
  gi_wp2
  have hb25 := hb24.trans (hb5.mono hb24.size)
  have m1 := (hb5.block _ (lt_of_block k1)).trans k1
  have hrd1' := (((hrd1.below hb4).more hb4.size).below hb5).more hb5.size
  obtain ⟨ad1, rfl, hbl1, x0, x1, x2⟩ := v3_at hrd1' hk
  rw [hfl] at x0 x1 x2
  generalize hP1 : ad1.add (k * 3) = P1 at hbl1 x0 x1 x2
  clear hst hA1 hA2 k1 k2
  gi_loopw [19] (fun x wr => ∃ i : Nat, x = .int .i64 i ∧ i ≤ r2.length ∧ firstF (fun q => lkF a b c d e f g fl q) (r2.drop i) i = res ∧ Below w5.heap.size w5 wr) (fun x _ => r2.length - (intOf x).toNat)
  case atStart => exact ⟨0, rfl, Nat.zero_le _, hres, Below.refl _ _⟩
  case round =>
    obtain ⟨i, rfl, hi, hfi, hb⟩ := hrel
    by_cases hin : i < r2.length
    · have hin' : (i : Int) < (r2.length : Int) := by omega
      have hwi : IntKind.i64.wrap ((i : Int) + 1) = (i : Int) + 1 := by rw [IntKind.wrap_i64]; omega
      obtain ⟨ad3, rfl, hbl3, y0, y1, y2⟩ := v3_at (hrd2.below hb) hin
      obtain ⟨gl, hgl⟩ : ∃ gl, r2[i] = gl := ⟨_, rfl⟩
      rw [List.drop_eq_getElem_cons hin] at hfi
      unfold firstF at hfi
      rw [hgl] at y0 y1 y2 hfi
      generalize hP3 : ad3.add (i * 3) = P3 at hbl3 y0 y1 y2
      have hbd2 := floor_bd hro2 (show r2[i]? = some gl by rw [List.getElem?_eq_getElem hin, hgl])
      have hlk := fun w => rlinked_any a b c d e f g fl gl w (floor_bd hro1 hfl') hbd2
      unfold cfgv at hlk
      have X0 := (hb.cell hbl1).trans x0
      have X1 := (hb.cell (p := ⟨P1.block, P1.off + 1, none⟩) hbl1).trans x1
      have X2 := (hb.cell (p := ⟨P1.block, P1.off + 2, none⟩) hbl1).trans x2
      obtain ⟨a0, a1, a2, a3, a4, a5, a6⟩ := box7 ((hb.block _ (lt_of_block m1)).trans m1)
      generalize lkF a b c d e f g fl gl = lb at hfi hlk
      gi_wp2
      have hS : (CellsL [(⟨w.heap.size, 0, none⟩, .int .i64 a), (⟨w.heap.size, 1, none⟩, .int .i64 b), (⟨w.heap.size, 2, none⟩, .int .i64 c), (⟨w.heap.size, 3, none⟩, .int .i64 d), (⟨w.heap.size, 4, none⟩, .int .i64 e), (⟨w.heap.size, 5, none⟩, .int .i64 f), (⟨w.heap.size, 6, none⟩, .int .i64 g), (P1, .int .i64 fl.x), (⟨P1.block, P1.off + 1, none⟩, .int .i64 fl.y), (⟨P1.block, P1.off + 2, none⟩, .int .i64 fl.z), (P3, .int .i64 gl.x), (⟨P3.block, P3.off + 1, none⟩, .int .i64 gl.y), (⟨P3.block, P3.off + 2, none⟩, .int .i64 gl.z)]) (wr.drew) := ⟨a0, a1, a2, a3, a4, a5, a6, X0, X1, X2, y0, y1, y2, trivial⟩
      refine wpIn_region_ord [(0, true), (1, true), (2, true), (3, true), (4, true), (5, true), (6, true), (7, true), (8, true)] (CellsL [(⟨w.heap.size, 0, none⟩, .int .i64 a), (⟨w.heap.size, 1, none⟩, .int .i64 b), (⟨w.heap.size, 2, none⟩, .int .i64 c), (⟨w.heap.size, 3, none⟩, .int .i64 d), (⟨w.heap.size, 4, none⟩, .int .i64 e), (⟨w.heap.size, 5, none⟩, .int .i64 f), (⟨w.heap.size, 6, none⟩, .int .i64 g), (P1, .int .i64 fl.x), (⟨P1.block, P1.off + 1, none⟩, .int .i64 fl.y), (⟨P1.block, P1.off + 2, none⟩, .int .i64 fl.z), (P3, .int .i64 gl.x), (⟨P3.block, P3.off + 1, none⟩, .int .i64 gl.y), (⟨P3.block, P3.off + 2, none⟩, .int .i64 gl.z)]) (fun _ => trivial) rfl (by first | exact then_put rfl | (intro c d v a w h; cases d <;> exact h)) (by kernel_rfl) ?_
      simp only [List.length_cons, List.length_nil, Nat.reduceAdd, List.drop_succ_cons, List.drop_zero]
      iterate 9 (apply wpOrd_quiet rfl hS rfl; (intro w' hw'; obtain ⟨q0, q1, q2, q3, q4, q5, q6, q7, q8, q9, q10, q11, q12, _⟩ := hw'; go_simp; exact rfl); go_simp)
      refine wpOrd_nil ?_
      clear hS a0 a1 a2 a3 a4 a5 a6 X0 X1 X2 y0 y1 y2
      gi_wp2
      refine ⟨trivial, (callsIn_wide.2 (hlk _)).mono ?_⟩
      rintro en w6 ⟨rfl, hb6⟩
      have hb56 : Below w5.heap.size w5 w6 := hb.drew.trans (hb6.mono hb.size)
      cases lb with
      | true =>
        rw [if_pos rfl] at hfi
        subst hfi
        gi_wp2
        go_ret2
        exact ⟨rfl, hb25.trans (hb56.mono hb25.size)⟩
      | false =>
        rw [if_neg (by decide)] at hfi
        have hfi := Lib.hid hfi
        gi_wp2
        go_roundw
        case rel => exact ⟨i + 1, by go_num, by omega, hfi.out, hb56⟩
        case measure => simp [intOf]; omega
    · obtain rfl : i = r2.length := by omega
      rw [List.drop_length] at hfi
      unfold firstF at hfi
      subst hfi
      gi_wp2
      go_ret2
      exact ⟨rfl, hb25.trans (hb.mono hb25.size)⟩
end Go.Proofs.Ytcdfojfafnecdaa

/- footpathref13.Build by a walk. No conditions but that the grid lies where it is said to lie. -/
namespace Go.Proofs.Ytcdfojfafnecdaa
open Go Go.RowKit Go.Sx Go.Mp
attribute [local go_sem] Oper.semAt_some
/-- The first q are set; the others are 0 still. -/
def upV (t : Nat → Option Nat) (q d : Nat) : Int := if d < q then optI (t d) else 0
def upB (t : Nat → Option Nat) (q : Nat) : Array Value := #[.int .i64 (upV t q 0), .int .i64 (upV t q 1), .int .i64 (upV t q 2), .int .i64 (upV t q 3)]
theorem upB_some {t : Nat → Option Nat} {q m : Nat} (hq : q < 4) (h : t q = some m) : ((upB t q).setIfInBounds q (.int .i64 (-1))).setIfInBounds q (.int .i64 m) = upB t (q + 1) := by
  have hq' : q = 0 ∨ q = 1 ∨ q = 2 ∨ q = 3 := by omega
  rcases hq' with rfl | rfl | rfl | rfl <;> simp [upB, upV, h, optI]
theorem upB_none {t : Nat → Option Nat} {q : Nat} (hq : q < 4) (h : t q = none) : (upB t q).setIfInBounds q (.int .i64 (-1)) = upB t (q + 1) := by
  have hq' : q = 0 ∨ q = 1 ∨ q = 2 ∨ q = 3 := by omega
  rcases hq' with rfl | rfl | rfl | rfl <;> simp [upB, upV, h, optI]
theorem upB_size (t : Nat → Option Nat) (q : Nat) : (upB t q).size = 4 := rfl
theorem upB_at (t : Nat → Option Nat) {q d : Nat} (hd : d < 4) : ∃ u, (upB t q)[d]? = some u := by
  have hq' : d = 0 ∨ d = 1 ∨ d = 2 ∨ d = 3 := by omega
  rcases hq' with rfl | rfl | rfl | rfl <;> exact ⟨_, rfl⟩
theorem colOf_here {X Z W D : Int} {rows : List (List V3)} (ho : gridOk X Z W D rows) {i : Nat} (hi : i < rows.length) : colOf X Z W D rows (X + (i : Int) % W) (Z + (i : Int) / W) = rows.getD i [] := by
  obtain ⟨hW, h1, h2, h3, h4⟩ := spot_bd ho hi
  have h5 : (i : Int) / W < D := Int.ediv_lt_of_lt_mul hW (by rw [Int.mul_comm]; have := ho.2.2.2.2.2.2.2.2.1; omega)
  have h6 := Int.emod_lt_of_pos (i : Int) hW
  unfold colOf
  rw [if_neg (by omega)]
  have e : (Z + (i : Int) / W - Z) * W + (X + (i : Int) % W) - X = (i : Int) := by
    have e1 := Int.mul_ediv_add_emod (i : Int) W
    have e2 : (Z + (i : Int) / W - Z) * W = W * ((i : Int) / W) := by rw [show Z + (i : Int) / W - Z = (i : Int) / W by omega, Int.mul_comm]
    omega
  rw [e, Int.toNat_natCast]
set_option maxHeartbeats 4000000 in
set_option maxRecDepth 100000 in
theorem rbuild_ok (a b c d e f g X Z W D : Int) (rows : List (List V3)) (A : Option Addr) (cap : Nat) (w : World) (hr : RowsAt w w.heap.size A rows) (hl : lensOk rows) (hk : checkF a b c d e f g = 0) (ho : gridOk X Z W D rows) :
    Calls Try.prog 15 #[cfgv a b c d e f g, gridv X Z W D A rows.length cap] w fun en w' =>
      ∃ v, en = .returned (.tuple #[v, .int .i64 0]) ∧ LRows w' w.heap.size v rows.length (lenF rows) (fun i => lcs (ttF (lkF a b c d e f g) X Z W D rows i) (lenF rows i)) ∧ Below w.heap.size w w' := by
  obtain ⟨u1, eu1, bu1, ku1⟩ := alloc_step w (.cells #[.int .i64 a, .int .i64 b, .int .i64 c, .int .i64 d, .int .i64 e, .int .i64 f, .int .i64 g] 23)
  obtain ⟨u2, eu2, bu2, ku2⟩ := alloc_step u1 (.cells #[.int .i64 X, .int .i64 Z, .int .i64 W, .int .i64 D, .slice A rows.length cap] 26)
  have hb2 : Below w.heap.size w u2 := bu1.trans (bu2.mono bu1.size)
  have hB0 := (bu2.block _ (lt_of_block ku1)).trans ku1
  obtain ⟨q0, q1, q2, q3, q4, q5, q6⟩ := box7 hB0
  have hck := fun w => rcfg_any a b c d e f g w
  rw [hk] at hck
  have hto := fun (x z : Int) (k dir : Nat) (w' : World) (hb : Below w.heap.size w w') h1 h2 h3 h4 => rto_any a b c d e f g X Z W D x z k dir rows A cap w' ((hr.below hb).more hb.size) ho h1 h2 h3 h4
  obtain ⟨tt, httF⟩ : ∃ tt, ttF (lkF a b c d e f g) X Z W D rows = tt := ⟨_, rfl⟩
  rw [httF]
  unfold cfgv at hck hto ⊢
  unfold gridv at hto ⊢
  refine (callsIn_wide (n := 6)).1 ?_
  refine callsIn_of_wp Try.func15 rfl trivial ?_
  simp only [Try.ntmps15, List.size_toArray, List.length_cons, List.length_nil, Nat.reduceAdd, Nat.reduceSub, Array.replicate_succ, Array.replicate_zero, List.push_toArray, List.append_toArray, List.nil_append, List.cons_append]
  gi_wp2
  refine ⟨trivial, (callsIn_wide.2 (hck _)).mono ?_⟩
  rintro en w3 ⟨rfl, hb3⟩
  have hb03 := hb2.trans (hb3.mono hb2.size)
  have k0 := (hb3.block _ (lt_of_block hB0)).trans hB0
  have k1 := (hb3.block _ (lt_of_block ku2)).trans ku2
  obtain ⟨g0, g1, g2, g3, g4⟩ := box5 k1
  clear q0 q1 q2 q3 q4 q5 q6
  gi_wp2
  have hch := rcheck_any X Z W D rows A cap w3 ((hr.below hb03).more hb03.size) hl
  unfold gridv at hch
  refine ⟨trivial, (callsIn_wide.2 hch).mono ?_⟩
  rintro en w4 ⟨⟨er, rfl, hei⟩, hb4⟩
  obtain rfl : er = 0 := hei.2 ho
  have hb04 := hb03.trans (hb4.mono hb03.size)
  have m0 := (hb4.block _ (lt_of_block k0)).trans k0
  have m1 := (hb4.block _ (lt_of_block k1)).trans k1
  clear g0 g1 g2 g3 g4 hch hck hei
  have hr4 := (hr.below hb04).more hb04.size
  have hn4 := rows_len ho
  have hl8 := lenF_le ho
  gi_wp2
  gi_loopw [6, 7] (fun u x wr => ∃ i : Nat, x = .int .i64 i ∧ i ≤ rows.length ∧ LRows wr w4.heap.size u i (lenF rows) (fun i => lcs (tt i) (lenF rows i)) ∧ Below w4.heap.size w4 wr) (fun _ x _ => rows.length - (intOf x).toNat)
  case atStart => exact ⟨0, rfl, Nat.zero_le _, LRows.nil _ _ _ _, Below.refl _ _⟩
  case round =>
    obtain ⟨i, rfl, hi, hrow, hlow⟩ := hrel
    obtain ⟨g0, g1, g2, g3, g4⟩ := box5 ((hlow.block _ (lt_of_block m1)).trans m1)
    by_cases hin : i < rows.length
    · have hin' : (i : Int) < (rows.length : Int) := by omega
      have hwi : IntKind.i64.wrap ((i : Int) + 1) = (i : Int) + 1 := by rw [IntKind.wrap_i64]; omega
      obtain ⟨wo, rfl⟩ : ∃ wo, wo = wr := ⟨wr, rfl⟩
      obtain ⟨ad, Ai, ci, rfl, hbl, hca, hrd⟩ := (hr4.below hlow).at_ hin
      have hlf : rows[i].length = lenF rows i := by simp [lenF, List.getD, hin]
      rw [hlf] at hca
      have h8 := hl8 i
      have hbd := spot_bd ho hin
      have hcol := colOf_here ho hin
      have hcl : (colOf X Z W D rows (X + (i : Int) % W) (Z + (i : Int) / W)).length = lenF rows i := by rw [hcol]; rfl
      have hW0 : W ≠ 0 := by omega
      have hi0 : (0 : Int) ≤ (i : Int) := by omega
      have eX : IntKind.i64.wrap (X + (i : Int).tmod W) = X + (i : Int) % W := by rw [Int.tmod_eq_emod_of_nonneg hi0, IntKind.wrap_i64]; have := ho.1; have := ho.2.1; omega
      have eD : IntKind.i64.wrap ((i : Int) / W) = (i : Int) / W := by rw [IntKind.wrap_i64]; omega
      have eZ : IntKind.i64.wrap (Z + (i : Int) / W) = Z + (i : Int) / W := by rw [IntKind.wrap_i64]; have := ho.2.2.1; have := ho.2.2.2.1; omega
      generalize hlc : lenF rows i = lc at hca h8 hcl
      have hos := hlow.size
      clear hcol hrd hlf
      gi_wp2
      clear g0 g1 g2 g3 g4
      gi_loopw [8, 9] (fun u x wt => ∃ k : Nat, x = .int .i64 k ∧ k ≤ lc ∧ wt.ownsRow wo.heap.size 75 4 u k (lcs (tt i) k) ∧ Below wo.heap.size wo wt) (fun _ x _ => lc - (intOf x).toNat)
      case atStart => exact ⟨0, rfl, Nat.zero_le _, World.ownsRow_nil _ _ _ _, Below.refl _ _⟩
      case round =>
        obtain ⟨k, rfl, hkl, hrow2, hlow2⟩ := hrel
        have hlow3 := hlow.trans (hlow2.mono hos)
        obtain ⟨g0, g1, g2, g3, g4⟩ := box5 ((hlow3.block _ (lt_of_block m1)).trans m1)
        have hc2 := (hlow2.cell (p := ad.add i) (by rw [block_of_add]; omega)).trans hca
        obtain ⟨wm, rfl⟩ : ∃ wm, wm = wr := ⟨wr, rfl⟩
        by_cases hkn : k < lc
        · have hkn' : (k : Int) < (lc : Int) := by omega
          have hwk : IntKind.i64.wrap ((k : Int) + 1) = (k : Int) + 1 := by rw [IntKind.wrap_i64]; omega
          have h4 : ∀ d' : Nat, toF (lkF a b c d e f g) (colOf X Z W D rows) (X + (i : Int) % W) (Z + (i : Int) / W) k d' = tt i k d' := fun d' => by rw [← httF]; rfl
          obtain ⟨x1, ex1, bx1, kx1⟩ := alloc_step wm (.cells #[.int .i64 0, .int .i64 0, .int .i64 0, .int .i64 0] 75)
          gi_wp2
          clear g0 g1 g2 g3 g4
          gi_loopw [11] (fun x wt => ∃ q : Nat, x = .int .i64 q ∧ q ≤ 4 ∧ wt.heap[wm.heap.size]? = some (.cells (upB (tt i k) q) 75 (0, 0)) ∧ Below wm.heap.size wm wt) (fun x _ => 4 - (intOf x).toNat)
          case atStart => exact ⟨0, rfl, by omega, kx1, bx1⟩
          case round =>
            obtain ⟨q, rfl, hq, hO, hbt⟩ := hrel
            by_cases hq4 : q < 4
            · have hq' : (q : Int) < 4 := by omega
              have hwq : IntKind.i64.wrap ((q : Int) + 1) = (q : Int) + 1 := by rw [IntKind.wrap_i64]; omega
              have z0 : wr.frozen? ⟨wm.heap.size, q, none⟩ = false := not_frozen hO
              obtain ⟨uq, huq⟩ := upB_at (tt i k) (q := q) hq4
              have z1 : wr.cell? ⟨wm.heap.size, q, none⟩ = some uq := cell_of hO huq
              obtain ⟨y1, ey1⟩ : ∃ y1, wr.setCell ⟨wm.heap.size, q, none⟩ (.int .i64 (-1)) = y1 := ⟨_, rfl⟩
              have hO1 := set_block (k := q) hO (.int .i64 (-1))
              rw [ey1] at hO1
              have hbt1 : Below wm.heap.size wm y1 := by rw [← ey1]; exact hbt.setCell (p := ⟨wm.heap.size, q, none⟩) (Nat.le_refl _) _
              have hlow5 := hlow3.trans (hbt1.mono hlow3.size)
              have hb05 := hb04.trans (hlow5.mono hb04.size)
              obtain ⟨a0, a1, a2, a3, a4, a5, a6⟩ := box7 (show y1.drew.heap[w.heap.size]? = _ from (hlow5.block _ (lt_of_block m0)).trans m0)
              obtain ⟨g0, g1, g2, g3, g4⟩ := box5 (show y1.drew.heap[u1.heap.size]? = _ from (hlow5.block _ (lt_of_block m1)).trans m1)
              have l1 : w.heap.size < y1.drew.heap.size := Nat.lt_of_lt_of_le (lt_of_block m0) hlow5.size
              have l2 : u1.heap.size < y1.drew.heap.size := Nat.lt_of_lt_of_le (lt_of_block m1) hlow5.size
              have ht := hto (X + (i : Int) % W) (Z + (i : Int) / W) k q y1.drew hb05.drew (by have := ho.1; have := ho.2.1; omega) (by have := ho.2.2.1; have := ho.2.2.2.1; omega) (by rw [hcl]; exact hkn) hq4
              rw [h4] at ht
              cases htq : tt i k q with
              | none =>
                rw [htq] at ht
                simp only [OptRet] at ht
                gi_wp2
                have hS : (CellsL [(⟨w.heap.size, 0, none⟩, .int .i64 a), (⟨w.heap.size, 1, none⟩, .int .i64 b), (⟨w.heap.size, 2, none⟩, .int .i64 c), (⟨w.heap.size, 3, none⟩, .int .i64 d), (⟨w.heap.size, 4, none⟩, .int .i64 e), (⟨w.heap.size, 5, none⟩, .int .i64 f), (⟨w.heap.size, 6, none⟩, .int .i64 g), (⟨u1.heap.size, 0, none⟩, .int .i64 X), (⟨u1.heap.size, 1, none⟩, .int .i64 Z), (⟨u1.heap.size, 2, none⟩, .int .i64 W), (⟨u1.heap.size, 3, none⟩, .int .i64 D), (⟨u1.heap.size, 4, none⟩, .slice (some ad) rows.length cap)]) (y1.drew) := ⟨a0, a1, a2, a3, a4, a5, a6, g0, g1, g2, g3, g4, trivial⟩
                refine wpIn_region_ord [(0, true), (1, true), (2, true), (3, true), (4, true), (5, true), (6, true), (7, true), (8, true), (9, true), (10, true), (11, true), (12, true), (13, true), (14, true), (15, true), (16, true), (17, true), (18, false), (19, true), (20, true), (21, true), (22, true)] (CellsL [(⟨w.heap.size, 0, none⟩, .int .i64 a), (⟨w.heap.size, 1, none⟩, .int .i64 b), (⟨w.heap.size, 2, none⟩, .int .i64 c), (⟨w.heap.size, 3, none⟩, .int .i64 d), (⟨w.heap.size, 4, none⟩, .int .i64 e), (⟨w.heap.size, 5, none⟩, .int .i64 f), (⟨w.heap.size, 6, none⟩, .int .i64 g), (⟨u1.heap.size, 0, none⟩, .int .i64 X), (⟨u1.heap.size, 1, none⟩, .int .i64 Z), (⟨u1.heap.size, 2, none⟩, .int .i64 W), (⟨u1.heap.size, 3, none⟩, .int .i64 D), (⟨u1.heap.size, 4, none⟩, .slice (some ad) rows.length cap)]) (fun _ => trivial) rfl (by first | exact then_put rfl | (intro c d v a w h; cases d <;> exact h)) (by kernel_rfl) ?_
                simp only [List.length_cons, List.length_nil, Nat.reduceAdd, List.drop_succ_cons, List.drop_zero]
                iterate 18 (apply wpOrd_quiet rfl hS rfl; (intro w' hw'; obtain ⟨q0, q1, q2, q3, q4, q5, q6, q7, q8, q9, q10, q11, _⟩ := hw'; go_simp; first | exact rfl | (rw [if_neg hW0, Int.tmod_eq_emod_of_nonneg hi0]; exact rfl) | (rw [if_neg hW0, Int.tdiv_eq_ediv_of_nonneg hi0]; exact rfl)); go_simp)
                refine wpOrd_move rfl rfl ?_
                go_simp
                refine ⟨trivial, (callsIn_wide.2 ht).mono ?_⟩
                rintro en w6 ⟨rfl, hb6⟩
                replace hS := CellsL.keep hb6 hS ⟨l1, l1, l1, l1, l1, l1, l1, l2, l2, l2, l2, l2, trivial⟩
                refine ⟨hS, ?_⟩
                go_simp
                iterate 4 (apply wpOrd_quiet rfl hS rfl; (intro w' hw'; obtain ⟨q0, q1, q2, q3, q4, q5, q6, q7, q8, q9, q10, q11, _⟩ := hw'; go_simp; first | exact rfl | (rw [if_neg hW0, Int.tmod_eq_emod_of_nonneg hi0]; exact rfl) | (rw [if_neg hW0, Int.tdiv_eq_ediv_of_nonneg hi0]; exact rfl)); go_simp)
                refine wpOrd_nil ?_
                clear hS a0 a1 a2 a3 a4 a5 a6 g0 g1 g2 g3 g4 z0 z1
                have hbt6 := hbt1.drew.trans (hb6.mono hbt1.size)
                have hO6 := (hb6.block _ (show _ < y1.drew.heap.size from lt_of_block hO1)).trans hO1
                rw [upB_none hq4 htq] at hO6
                gi_wp2
                go_roundw
                case rel => exact ⟨q + 1, by go_num, by omega, hO6, hbt6⟩
                case measure => simp [intOf]; omega
              | some m =>
                rw [htq] at ht
                simp only [OptRet] at ht
                gi_wp2
                have hS : (CellsL [(⟨w.heap.size, 0, none⟩, .int .i64 a), (⟨w.heap.size, 1, none⟩, .int .i64 b), (⟨w.heap.size, 2, none⟩, .int .i64 c), (⟨w.heap.size, 3, none⟩, .int .i64 d), (⟨w.heap.size, 4, none⟩, .int .i64 e), (⟨w.heap.size, 5, none⟩, .int .i64 f), (⟨w.heap.size, 6, none⟩, .int .i64 g), (⟨u1.heap.size, 0, none⟩, .int .i64 X), (⟨u1.heap.size, 1, none⟩, .int .i64 Z), (⟨u1.heap.size, 2, none⟩, .int .i64 W), (⟨u1.heap.size, 3, none⟩, .int .i64 D), (⟨u1.heap.size, 4, none⟩, .slice (some ad) rows.length cap)]) (y1.drew) := ⟨a0, a1, a2, a3, a4, a5, a6, g0, g1, g2, g3, g4, trivial⟩
                refine wpIn_region_ord [(0, true), (1, true), (2, true), (3, true), (4, true), (5, true), (6, true), (7, true), (8, true), (9, true), (10, true), (11, true), (12, true), (13, true), (14, true), (15, true), (16, true), (17, true), (18, false), (19, true), (20, true), (21, true), (22, true)] (CellsL [(⟨w.heap.size, 0, none⟩, .int .i64 a), (⟨w.heap.size, 1, none⟩, .int .i64 b), (⟨w.heap.size, 2, none⟩, .int .i64 c), (⟨w.heap.size, 3, none⟩, .int .i64 d), (⟨w.heap.size, 4, none⟩, .int .i64 e), (⟨w.heap.size, 5, none⟩, .int .i64 f), (⟨w.heap.size, 6, none⟩, .int .i64 g), (⟨u1.heap.size, 0, none⟩, .int .i64 X), (⟨u1.heap.size, 1, none⟩, .int .i64 Z), (⟨u1.heap.size, 2, none⟩, .int .i64 W), (⟨u1.heap.size, 3, none⟩, .int .i64 D), (⟨u1.heap.size, 4, none⟩, .slice (some ad) rows.length cap)]) (fun _ => trivial) rfl (by first | exact then_put rfl | (intro c d v a w h; cases d <;> exact h)) (by kernel_rfl) ?_
                simp only [List.length_cons, List.length_nil, Nat.reduceAdd, List.drop_succ_cons, List.drop_zero]
                iterate 18 (apply wpOrd_quiet rfl hS rfl; (intro w' hw'; obtain ⟨q0, q1, q2, q3, q4, q5, q6, q7, q8, q9, q10, q11, _⟩ := hw'; go_simp; first | exact rfl | (rw [if_neg hW0, Int.tmod_eq_emod_of_nonneg hi0]; exact rfl) | (rw [if_neg hW0, Int.tdiv_eq_ediv_of_nonneg hi0]; exact rfl)); go_simp)
                refine wpOrd_move rfl rfl ?_
                go_simp
                refine ⟨trivial, (callsIn_wide.2 ht).mono ?_⟩
                rintro en w6 ⟨rfl, hb6⟩
                replace hS := CellsL.keep hb6 hS ⟨l1, l1, l1, l1, l1, l1, l1, l2, l2, l2, l2, l2, trivial⟩
                refine ⟨hS, ?_⟩
                go_simp
                iterate 4 (apply wpOrd_quiet rfl hS rfl; (intro w' hw'; obtain ⟨q0, q1, q2, q3, q4, q5, q6, q7, q8, q9, q10, q11, _⟩ := hw'; go_simp; first | exact rfl | (rw [if_neg hW0, Int.tmod_eq_emod_of_nonneg hi0]; exact rfl) | (rw [if_neg hW0, Int.tdiv_eq_ediv_of_nonneg hi0]; exact rfl)); go_simp)
                refine wpOrd_nil ?_
                clear hS a0 a1 a2 a3 a4 a5 a6 g0 g1 g2 g3 g4 z0 z1
                have hbt6 := hbt1.drew.trans (hb6.mono hbt1.size)
                have hO6 := (hb6.block _ (show _ < y1.drew.heap.size from lt_of_block hO1)).trans hO1
                have z6 : w6.frozen? ⟨wm.heap.size, q, none⟩ = false := not_frozen hO6
                have z7 : ∃ u, w6.cell? ⟨wm.heap.size, q, none⟩ = some u := by
                  have hsz : q < ((upB (tt i k) q).setIfInBounds q (.int .i64 (-1))).size := by rw [Array.size_setIfInBounds, upB_size]; exact hq4
                  exact ⟨_, cell_of hO6 (Array.getElem?_eq_getElem hsz)⟩
                obtain ⟨u7, hu7⟩ := z7
                have hO7 := set_block (k := q) hO6 (.int .i64 m)
                rw [upB_some hq4 htq] at hO7
                gi_wp2
                go_roundw
                case rel => exact ⟨q + 1, by go_num, by omega, hO7, hbt6.setCell (p := ⟨wm.heap.size, q, none⟩) (Nat.le_refl _) _⟩
                case measure => simp [intOf]; omega
            · obtain rfl : q = 4 := by omega
              have o0 : wr.cell? ⟨wm.heap.size, 0, none⟩ = some (.int .i64 (optI (tt i k 0))) := cell_of hO rfl
              have o1 : wr.cell? ⟨wm.heap.size, 1, none⟩ = some (.int .i64 (optI (tt i k 1))) := cell_of hO rfl
              have o2 : wr.cell? ⟨wm.heap.size, 2, none⟩ = some (.int .i64 (optI (tt i k 2))) := cell_of hO rfl
              have o3 : wr.cell? ⟨wm.heap.size, 3, none⟩ = some (.int .i64 (optI (tt i k 3))) := cell_of hO rfl
              obtain ⟨i0, hii, hz0, hz1, hz2⟩ := info_parts infoL
              have hrow3 := own_below hrow2 hbt
              have hsm := hlow2.size
              clear hO hto h4 kx1 ex1
              gi_wp2_with (gi_at_builtin; refine wpListIn_append_own_at _ rfl (.tmp 69) (.tmp 71) 73 rfl wo.heap.size 75 i0 _ 4 32 Try.underlying73 hii hz0 hz1 hz2 (by decide) (by decide) _ k _ rfl (hrow3.alloc _) ⟨wr.heap.size, 0, none⟩ 1 1 (lk4 (tt i k)) rfl rfl (lk4_new _ _ _) (lk4_one _) (by unfold maxLen; omega) (by omega) (by simp; have := hbt.size; omega) ?_; intro v8 w8 hown8 hg8 hnil8 hloc8)
              go_roundw
              case rel => exact ⟨k + 1, by go_num, by omega, hown8, ((hlow2.trans (hbt.mono hsm)).alloc (Nat.le_trans hsm hbt.size) _).grown hg8 (by simp; have := hbt.size; omega) (fun q e => (hrow3.lt q e).1)⟩
              case measure => simp [intOf]; omega
        · obtain rfl : k = lc := by omega
          obtain ⟨A3, c3, rfl⟩ := own_rowS hrow2
          obtain ⟨hd, hr1, hr2⟩ := LRows.below hrow hlow2
          obtain ⟨i0, hii, hz0, hz1, hz2⟩ := info_parts infoR
          have hsm := hlow2.size
          gi_wp2_with (gi_at_builtin; refine wpListIn_append_own_at _ rfl (.tmp 73) (.tmp 75) 36 rfl w4.heap.size 73 i0 _ 1 24 Try.underlying36 hii hz0 hz1 hz2 (by decide) (by decide) _ i hd rfl (hr1.alloc _) ⟨wm.heap.size, 0, none⟩ 1 1 [.slice A3 k c3] rfl rfl (cell_one_new _ _ _) (by simp [Value.oneCell']) (by unfold maxLen; omega) (by omega) (by simp; omega) ?_; intro v8 w8 hown8 hg8 hnil8 hloc8)
          have hrow8 : LRows w8 w4.heap.size v8 (i + 1) (lenF rows) (fun i => lcs (tt i) (lenF rows i)) := LRows.snoc hr1 hr2 (by show World.ownsRow _ _ _ _ _ (lenF rows i) (lcs (tt i) (lenF rows i)); rw [hlc]; exact own_base hrow2 hos) hg8 hown8
          go_roundw
          case rel => exact ⟨i + 1, by go_num, by omega, hrow8, (hlow3.alloc hlow3.size _).grown hg8 (by simp; have := hlow3.size; omega) (fun q e => (hr1.lt q e).1)⟩
          case measure => simp [intOf]; omega
    · obtain rfl : i = rows.length := by omega
      gi_wp2
      go_ret2
      refine ⟨_, rfl, ?_, hb04.trans (hlow.mono hb04.size)⟩
      obtain ⟨hd, h1, h2⟩ := hrow
      refine ⟨hd, own_base h1 hb04.size, fun i hi => ?_⟩
      obtain ⟨u, h3, h4⟩ := h2 i hi
      exact ⟨u, h3, own_base h4 hb04.size⟩
set_option maxHeartbeats 1000000 in
set_option maxRecDepth 100000 in
theorem rbuild_no (a b c d e f g X Z W D : Int) (rows : List (List V3)) (A : Option Addr) (cap : Nat) (w : World) (hr : RowsAt w w.heap.size A rows) (hl : lensOk rows) (hno : ¬ (checkF a b c d e f g = 0 ∧ gridOk X Z W D rows)) :
    Calls Try.prog 15 #[cfgv a b c d e f g, gridv X Z W D A rows.length cap] w fun en w' =>
      en = .returned (.tuple #[.slice none 0 0, .int .i64 (if checkF a b c d e f g = 0 then 2 else 20)]) ∧ Below w.heap.size w w' := by
  obtain ⟨u1, eu1, bu1, ku1⟩ := alloc_step w (.cells #[.int .i64 a, .int .i64 b, .int .i64 c, .int .i64 d, .int .i64 e, .int .i64 f, .int .i64 g] 23)
  obtain ⟨u2, eu2, bu2, ku2⟩ := alloc_step u1 (.cells #[.int .i64 X, .int .i64 Z, .int .i64 W, .int .i64 D, .slice A rows.length cap] 26)
  have hb2 : Below w.heap.size w u2 := bu1.trans (bu2.mono bu1.size)
  have hB0 := (bu2.block _ (lt_of_block ku1)).trans ku1
  obtain ⟨q0, q1, q2, q3, q4, q5, q6⟩ := box7 hB0
  have hck := fun w => rcfg_any a b c d e f g w
  unfold cfgv at hck ⊢
  unfold gridv
  by_cases hk : checkF a b c d e f g = 0
  · rw [if_pos hk]
    rw [hk] at hck
    refine (callsIn_wide (n := 6)).1 ?_
    refine callsIn_of_wp Try.func15 rfl trivial ?_
    simp only [Try.ntmps15, List.size_toArray, List.length_cons, List.length_nil, Nat.reduceAdd, Nat.reduceSub, Array.replicate_succ, Array.replicate_zero, List.push_toArray, List.append_toArray, List.nil_append, List.cons_append]
    gi_wp2
    refine ⟨trivial, (callsIn_wide.2 (hck _)).mono ?_⟩
    rintro en w3 ⟨rfl, hb3⟩
    have hb03 := hb2.trans (hb3.mono hb2.size)
    have k1 := (hb3.block _ (lt_of_block ku2)).trans ku2
    obtain ⟨g0, g1, g2, g3, g4⟩ := box5 k1
    clear q0 q1 q2 q3 q4 q5 q6
    gi_wp2
    have hch := rcheck_any X Z W D rows A cap w3 ((hr.below hb03).more hb03.size) hl
    unfold gridv at hch
    refine ⟨trivial, (callsIn_wide.2 hch).mono ?_⟩
    rintro en w4 ⟨⟨er, rfl, hei⟩, hb4⟩
    have hne : (er != 0) = true := by simpa using fun h => hno ⟨hk, hei.1 h⟩
    clear hei hch g0 g1 g2 g3 g4
    gi_wp2
    go_ret2
    exact ⟨rfl, hb03.trans (hb4.mono hb03.size)⟩
  · have hk' : (checkF a b c d e f g != 0) = true := by simpa using hk
    rw [if_neg hk]
    generalize checkF a b c d e f g = er at hk hk' hck
    refine (callsIn_wide (n := 6)).1 ?_
    refine callsIn_of_wp Try.func15 rfl trivial ?_
    simp only [Try.ntmps15, List.size_toArray, List.length_cons, List.length_nil, Nat.reduceAdd, Nat.reduceSub, Array.replicate_succ, Array.replicate_zero, List.push_toArray, List.append_toArray, List.nil_append, List.cons_append]
    gi_wp2
    refine ⟨trivial, (callsIn_wide.2 (hck _)).mono ?_⟩
    rintro en w3 ⟨rfl, hb3⟩
    clear q0 q1 q2 q3 q4 q5 q6
    gi_wp2
    go_ret2
    exact ⟨rfl, hb2.trans (hb3.mono hb2.size)⟩
end Go.Proofs.Ytcdfojfafnecdaa

/- footpathref14.Step and footpathref14.Eight by walks: they tell what the program's own tell. No conditions but that the links lie where they are said to lie, and lead into the grid. -/
namespace Go.Proofs.Ytcdfojfafnecdaa
open Go Go.RowKit Go.Sx Go.Mp
attribute [local go_sem] Oper.semAt_some
theorem rresults_sp {fn : Func} {t u : Tmp} (h : fn.results = #[.cell t 45, .tmp u]) (tmps : Array Value) (w : World) (B : Nat) (v0 v1 : Value) (ht : tmps.getD t undef = .pointer (some ⟨B, 0, none⟩)) (c0 : w.cell? ⟨B, 0, none⟩ = some v0) (c1 : w.cell? ⟨B, 1, none⟩ = some v1) :
    (results fn tmps).run Try.prog w = .ok (.tuple #[.agg #[v0, v1], tmps.getD u undef]) w := by
  have ht' : tmps[t]?.getD undef = .pointer (some ⟨B, 0, none⟩) := by simpa using ht
  simp [results, h, ht', c0, c1, go_sem]
set_option maxHeartbeats 2000000 in
set_option maxRecDepth 100000 in
theorem rwstep_any (X Z D : Int) (W : Nat) (F : Value) (A : Option Addr) (cap n : Nat) (len : Nat → Nat) (tt : Nat → Nat → Nat → Option Nat) (w : World) (hl : LinksAt w w.heap.size A n len tt) (hW : W ≤ 64) (hn : n ≤ 4096) (c k d : Nat) (hc : c < n) (hk : k < len c) (dx dz : Int) (hd : stepD d = some (dx, dz)) :
    Calls Try.prog 34 #[.agg #[.int .i64 X, .int .i64 Z, .int .i64 W, .int .i64 D, F], .slice A n cap, spv (c, k), .int .i64 d] w fun en w' =>
      en = .returned (.tuple #[.agg #[.int .i64 ((c : Int) + dz * W + dx), .int .i64 (optI (tt c k d))], .bool (decide (0 ≤ optI (tt c k d)))]) ∧ Below w.heap.size w w' := by
  have hs4 := stepD_opp hd
  have hd4 : d < 4 := by omega
  have hst := fun w => rstep_any hd4 hd w
  unfold spv
  obtain ⟨p0, p1, p2, pb, ps⟩ := three_alloc w (.cells #[.int .i64 X, .int .i64 Z, .int .i64 W, .int .i64 D, F] 26) (.cells #[.int .i64 c, .int .i64 k] 45) (.cells #[.int .i64 0, .int .i64 0] 45)
  have hl2 := hl.below pb
  obtain ⟨ad, ai, ci, rfl, hbl, ha1, hbl2, ha2⟩ := hl2.at_ hc hk
  have ha3 := ha2 d hd4
  obtain ⟨W2, hW2⟩ : ∃ W2, ((w.alloc (.cells #[.int .i64 X, .int .i64 Z, .int .i64 W, .int .i64 D, F] 26)).alloc (.cells #[.int .i64 c, .int .i64 k] 45)).alloc (.cells #[.int .i64 0, .int .i64 0] 45) = W2 := ⟨_, rfl⟩
  rw [hW2] at p0 p1 p2 pb ps ha1 ha3
  refine (callsIn_wide (n := 6)).1 ?_
  refine callsIn_of_wp Try.func34 rfl trivial ?_
  simp only [Try.ntmps34, List.size_toArray, List.length_cons, List.length_nil, Nat.reduceAdd, Nat.reduceSub, Array.replicate_succ, Array.replicate_zero, List.push_toArray, List.append_toArray, List.nil_append, List.cons_append]
  have hkl : (k : Int) < len c := by omega
  have hcl : (c : Int) < n := by omega
  have hdl : (d : Int) < 4 := by omega
  gi_wp2
  have hS : (CellsL [(⟨w.heap.size + 1, 0, none⟩, .int .i64 c), (⟨w.heap.size + 1, 1, none⟩, .int .i64 k), (ad.add c, .slice (some ai) (len c) ci), ((ai.add (k * 4)).add d, .int .i64 (optI (tt c k d)))]) (W2.drew) := ⟨cell_of (show W2.drew.heap[w.heap.size + 1]? = _ from p1) rfl, cell_of (show W2.drew.heap[w.heap.size + 1]? = _ from p1) rfl, ha1, ha3, trivial⟩
  refine wpIn_region_ord [(0, true), (1, true), (2, true), (3, true), (4, true), (5, true), (6, true), (7, true), (8, true), (9, true), (10, true)] (CellsL [(⟨w.heap.size + 1, 0, none⟩, .int .i64 c), (⟨w.heap.size + 1, 1, none⟩, .int .i64 k), (ad.add c, .slice (some ai) (len c) ci), ((ai.add (k * 4)).add d, .int .i64 (optI (tt c k d)))]) (fun _ => trivial) rfl (by first | exact then_put rfl | (intro c d v a w h; cases d <;> exact h)) (by kernel_rfl) ?_
  simp only [List.length_cons, List.length_nil, Nat.reduceAdd, List.drop_succ_cons, List.drop_zero]
  iterate 11 (apply wpOrd_quiet rfl hS rfl; (intro w' hw'; obtain ⟨q0, q1, q2, q3, _⟩ := hw'; go_simp; exact rfl); go_simp)
  refine wpOrd_nil ?_
  clear hS hl hl2 ha1 ha3 ha2
  gi_wp2
  refine ⟨trivial, (callsIn_wide.2 (hst _)).mono ?_⟩
  rintro en w2 ⟨rfl, hb2⟩
  have hbd : Below W2.heap.size W2 w2 := (Below.refl W2.heap.size W2).drew.trans hb2
  have hs2 := hbd.size
  have hg : ∃ g : Int, dz * W = g ∧ -64 ≤ g ∧ g ≤ 64 := by
    refine ⟨_, rfl, ?_⟩
    have h3 : dz = -1 ∨ dz = 0 ∨ dz = 1 := by omega
    rcases h3 with rfl | rfl | rfl <;> omega
  obtain ⟨g, hg, hg1, hg2⟩ := hg
  have e0 : IntKind.i64.wrap (dz * W) = g := by rw [hg, IntKind.wrap_i64]; omega
  have e2 : IntKind.i64.wrap ((c : Int) + g) = (c : Int) + g := by rw [IntKind.wrap_i64]; omega
  have e3 : IntKind.i64.wrap ((c : Int) + g + dx) = (c : Int) + g + dx := by rw [IntKind.wrap_i64]; omega
  have f0 := (hbd.block _ (lt_of_block p0)).trans p0
  have f1 := (hbd.block _ (lt_of_block p1)).trans p1
  have f2 := (hbd.block _ (lt_of_block p2)).trans p2
  have q0 : w2.cell? ⟨w.heap.size, 2, none⟩ = some (.int .i64 W) := cell_of f0 rfl
  have q1 : w2.cell? ⟨w.heap.size + 1, 0, none⟩ = some (.int .i64 c) := cell_of f1 rfl
  have q2 : w2.cell? ⟨w.heap.size + 1 + 1, 0, none⟩ = some (.int .i64 0) := cell_of f2 rfl
  have q3 : w2.cell? ⟨w.heap.size + 1 + 1, 1, none⟩ = some (.int .i64 0) := cell_of f2 rfl
  have z0 : w2.frozen? ⟨w.heap.size + 1 + 1, 0, none⟩ = false := not_frozen f2
  have z1 : w2.frozen? ⟨w.heap.size + 1 + 1, 1, none⟩ = false := not_frozen f2
  gi_wp2
  refine bodyPost_ret (rresults_sp rfl _ _ (w.heap.size + 1 + 1) (.int .i64 ((c : Int) + g + dx)) (.int .i64 (optI (tt c k d))) rfl ?_ ?_) rfl ?_
  iterate 2 (go_simp)
  rw [hg]
  refine ⟨rfl, ?_⟩
  have hbw := pb.trans (hbd.mono (by omega))
  exact (hbw.setCell (p := ⟨w.heap.size + 1 + 1, 0, none⟩) (by show w.heap.size ≤ w.heap.size + 1 + 1; omega) _).setCell (p := ⟨w.heap.size + 1 + 1, 1, none⟩) (by show w.heap.size ≤ w.heap.size + 1 + 1; omega) _
section
variable {X Z D : Int} {W : Nat} {F : Value} {A : Option Addr} {cap n : Nat} {len : Nat → Nat} {tt : Nat → Nat → Nat → Option Nat}
theorem rwstep_none (X Z D : Int) (F : Value) (cap : Nat) (hW : W ≤ 64) (hn : n ≤ 4096) {s : Nat × Nat} {d : Nat} (hs : InG n len s) (hd : d < 4) (h : stepS W tt s d = none) (w : World) (hl : LinksAt w w.heap.size A n len tt) :
    Calls Try.prog 34 #[.agg #[.int .i64 X, .int .i64 Z, .int .i64 W, .int .i64 D, F], .slice A n cap, spv s, .int .i64 d] w fun en w' =>
      (∃ i j : Int, en = .returned (.tuple #[.agg #[.int .i64 i, .int .i64 j], .bool false])) ∧ Below w.heap.size w w' := by
  obtain ⟨dx, dz, e⟩ := stepD_some hd
  refine (rwstep_any X Z D W F A cap n len tt w hl hW hn s.1 s.2 d hs.1 hs.2 dx dz e).mono fun en w' ⟨h1, h2⟩ => ⟨?_, h2⟩
  have h0 : tt s.1 s.2 d = none := by
    unfold stepS at h
    rw [e] at h
    cases h2 : tt s.1 s.2 d with
    | none => rfl
    | some m => rw [h2] at h; cases h
  rw [h0] at h1
  exact ⟨_, _, h1⟩
theorem rwstep_gen (X Z D : Int) (F : Value) (cap : Nat) (hW : W ≤ 64) (hn : n ≤ 4096) {s : Nat × Nat} {d : Nat} (hs : InG n len s) (hd : d < 4) (w : World) (hl : LinksAt w w.heap.size A n len tt) :
    Calls Try.prog 34 #[.agg #[.int .i64 X, .int .i64 Z, .int .i64 W, .int .i64 D, F], .slice A n cap, spv s, .int .i64 d] w fun en w' =>
      (∃ (i j : Int) (b : Bool), en = .returned (.tuple #[.agg #[.int .i64 i, .int .i64 j], .bool b])) ∧ Below w.heap.size w w' := by
  obtain ⟨dx, dz, e⟩ := stepD_some hd
  exact (rwstep_any X Z D W F A cap n len tt w hl hW hn s.1 s.2 d hs.1 hs.2 dx dz e).mono fun en w' ⟨h1, h2⟩ => ⟨⟨_, _, _, h1⟩, h2⟩
theorem rwstep_some (X Z D : Int) (F : Value) (cap : Nat) (hW : W ≤ 64) (hn : n ≤ 4096) (hi : Inside W n len tt) {s p : Nat × Nat} {d : Nat} (hs : InG n len s) (hd : d < 4) (h : stepS W tt s d = some p) (w : World) (hl : LinksAt w w.heap.size A n len tt) :
    Calls Try.prog 34 #[.agg #[.int .i64 X, .int .i64 Z, .int .i64 W, .int .i64 D, F], .slice A n cap, spv s, .int .i64 d] w fun en w' =>
      en = .returned (.tuple #[.agg #[.int .i64 p.1, .int .i64 p.2], .bool true]) ∧ Below w.heap.size w w' := by
  obtain ⟨dx, dz, e⟩ := stepD_some hd
  refine (rwstep_any X Z D W F A cap n len tt w hl hW hn s.1 s.2 d hs.1 hs.2 dx dz e).mono fun en w' ⟨h1, h2⟩ => ⟨?_, h2⟩
  unfold stepS at h
  rw [e] at h
  cases h2 : tt s.1 s.2 d with
  | none => rw [h2] at h; cases h
  | some m =>
    rw [h2] at h
    injection h with h
    subst h
    have := (hi s.1 s.2 d m dx dz hs.1 hs.2 e h2).1
    have hdd : decide (0 ≤ optI (some m)) = true := decide_eq_true (by show (0 : Int) ≤ (m : Int); omega)
    rw [h1, h2, hdd]
    simp only
    rw [Int.toNat_of_nonneg this]
    rfl
end
theorem infoS2 : (Try.prog.info? 45).map (fun i => (i.zero, i.size, i.bytes)) = some (some (.agg #[.int .i64 0, .int .i64 0]), 2, 16) := by kernel_rfl
/-- What Eight tells. -/
def EightRet2 (B : Nat) (w' : World) (en : Ending) : Option (List (Nat × Nat)) → Prop
  | none => en = .returned (.tuple #[.slice none 0 0, .bool false])
  | some l => ∃ v, en = .returned (.tuple #[v, .bool true]) ∧ w'.ownsRow B 45 2 v l.length (spcs l)
set_option maxHeartbeats 2000000 in
set_option maxRecDepth 100000 in
theorem reight_any (X Z D : Int) (W : Nat) (F : Value) (A : Option Addr) (cap n : Nat) (len : Nat → Nat) (tt : Nat → Nat → Nat → Option Nat) (w : World) (hl : LinksAt w w.heap.size A n len tt) (hW : W ≤ 64) (hn : n ≤ 4096) (hi : Inside W n len tt) (c k : Nat) (hs : InG n len (c, k)) :
    Calls Try.prog 17 #[.agg #[.int .i64 X, .int .i64 Z, .int .i64 W, .int .i64 D, F], .slice A n cap, spv (c, k)] w fun en w' =>
      EightRet2 w.heap.size w' en (eightF W tt (c, k)) ∧ Below w.heap.size w w' := by
  have b0 := two_alloc w (.cells #[.int .i64 X, .int .i64 Z, .int .i64 W, .int .i64 D, F] 26) (.cells #[.int .i64 c, .int .i64 k] 45)
  have b1 := alloc2_new w (.cells #[.int .i64 X, .int .i64 Z, .int .i64 W, .int .i64 D, F] 26) (.cells #[.int .i64 c, .int .i64 k] 45)
  have bb : Below w.heap.size w ((w.alloc (.cells #[.int .i64 X, .int .i64 Z, .int .i64 W, .int .i64 D, F] 26)).alloc (.cells #[.int .i64 c, .int .i64 k] 45)) := ((Below.refl _ _).alloc (Nat.le_refl _) _).alloc (by simp) _
  have bs : ((w.alloc (.cells #[.int .i64 X, .int .i64 Z, .int .i64 W, .int .i64 D, F] 26)).alloc (.cells #[.int .i64 c, .int .i64 k] 45)).heap.size = w.heap.size + 2 := by simp
  obtain ⟨W2, hW2⟩ : ∃ W2, (w.alloc (.cells #[.int .i64 X, .int .i64 Z, .int .i64 W, .int .i64 D, F] 26)).alloc (.cells #[.int .i64 c, .int .i64 k] 45) = W2 := ⟨_, rfl⟩
  rw [hW2] at b0 b1 bb bs
  have hl2 := (hl.below bb).more bb.size
  generalize hEE : eightF W tt (c, k) = E
  unfold spv
  refine (callsIn_wide (n := 6)).1 ?_
  refine callsIn_of_wp Try.func17 rfl trivial ?_
  simp only [Try.ntmps17, List.size_toArray, List.length_cons, List.length_nil, Nat.reduceAdd, Nat.reduceSub, Array.replicate_succ, Array.replicate_zero, List.push_toArray, List.append_toArray, List.nil_append, List.cons_append]
  gi_wp2
  gi_loopw [8, 9] (fun u4 u16 wr => ∃ (q : Nat) (l : List (Nat × Nat)), u16 = .int .i64 q ∧ q ≤ 4 ∧ eightN W tt (c, k) q = some l ∧ wr.ownsRow W2.heap.size 45 2 u4 l.length (spcs l) ∧ Below W2.heap.size W2 wr) (fun _ x _ => 4 - (intOf x).toNat)
  case atStart => exact ⟨0, [], rfl, by omega, rfl, World.ownsRow_nil _ _ _ _, Below.refl _ _⟩
  case round =>
    obtain ⟨q, l, rfl, hq, hN, hrow, hlow⟩ := hrel
    have hcs := hlow.size
    have f0 := (hlow.block _ (lt_of_block b0)).trans b0
    have f1 := (hlow.block _ (lt_of_block b1)).trans b1
    have hlr := (hl2.below hlow).more hcs
    clear hl hl2
    by_cases hq4 : q < 4
    · have hq4' : (q : Int) < 4 := by omega
      obtain ⟨d2, hd2⟩ : ∃ d2, (q + 1) % 4 = d2 := ⟨_, rfl⟩
      have hd4 : d2 < 4 := by omega
      have e1 : IntKind.i64.wrap ((q : Int) + 1) = (q : Int) + 1 := by rw [IntKind.wrap_i64]; omega
      have e2 : ((q : Int) + 1) % 4 = (d2 : Int) := by omega
      obtain ⟨c0, c1, c2, c3, c4⟩ := box5 f0
      obtain ⟨k0, k1⟩ := box2 f1
      cases hA : stepS W tt (c, k) q with
      | none =>
        have hE : eightF W tt (c, k) = none := eightF_no hq4 (by unfold eightD; rw [hA])
        gi_wp2
        refine ⟨trivial, (callsIn_wide.2 (rwstep_none X Z D F cap hW hn hs hq4 hA wr hlr)).mono ?_⟩
        rintro en w3 ⟨⟨i1, j1, rfl⟩, hb3⟩
        obtain ⟨wa, ea, hba, ha, hs3, hza⟩ := after_call hb3 (.cells #[.int .i64 i1, .int .i64 j1] 45)
        have f0a := (hba.block _ (lt_of_block f0)).trans f0
        have f1a := (hba.block _ (lt_of_block f1)).trans f1
        clear c0 c1 c2 c3 c4 k0 k1
        obtain ⟨c0, c1, c2, c3, c4⟩ := box5 f0a
        obtain ⟨k0, k1⟩ := box2 f1a
        have hla := (hlr.below hba).more hba.size
        gi_wp2
        refine ⟨trivial, (callsIn_wide.2 (rwstep_gen X Z D F cap hW hn hs hd4 wa hla)).mono ?_⟩
        rintro en w4 ⟨⟨i2, j2, t2, rfl⟩, hb4⟩
        gi_wp2
        go_ret2
        rw [← hEE, hE]
        exact ⟨rfl, bb.trans ((hlow.trans ((hba.trans ((hb4.alloc hb4.size _).mono hba.size)).mono hcs)).mono bb.size)⟩
      | some a =>
        have hIA := stepS_in hi hs hA
        gi_wp2
        refine ⟨trivial, (callsIn_wide.2 (rwstep_some X Z D F cap hW hn hi hs hq4 hA wr hlr)).mono ?_⟩
        rintro en w3 ⟨rfl, hb3⟩
        obtain ⟨wa, ea, hba, ha, hs3, hza⟩ := after_call hb3 (.cells #[.int .i64 a.1, .int .i64 a.2] 45)
        have f0a := (hba.block _ (lt_of_block f0)).trans f0
        have f1a := (hba.block _ (lt_of_block f1)).trans f1
        clear c0 c1 c2 c3 c4 k0 k1
        obtain ⟨c0, c1, c2, c3, c4⟩ := box5 f0a
        obtain ⟨k0, k1⟩ := box2 f1a
        have hla := (hlr.below hba).more hba.size
        gi_wp2
        cases hB : stepS W tt (c, k) d2 with
        | none =>
          have hE : eightF W tt (c, k) = none := eightF_no hq4 (by unfold eightD; rw [hA, hd2, hB])
          refine ⟨trivial, (callsIn_wide.2 (rwstep_none X Z D F cap hW hn hs hd4 hB wa hla)).mono ?_⟩
          rintro en w4 ⟨⟨i2, j2, rfl⟩, hb4⟩
          gi_wp2
          go_ret2
          rw [← hEE, hE]
          exact ⟨rfl, bb.trans ((hlow.trans ((hba.trans ((hb4.alloc hb4.size _).mono hba.size)).mono hcs)).mono bb.size)⟩
        | some b =>
          have hIB := stepS_in hi hs hB
          refine ⟨trivial, (callsIn_wide.2 (rwstep_some X Z D F cap hW hn hi hs hd4 hB wa hla)).mono ?_⟩
          rintro en w4 ⟨rfl, hb4⟩
          obtain ⟨wb, eb, hbb, hb, hs4, hzb⟩ := after_call hb4 (.cells #[.int .i64 b.1, .int .i64 b.2] 45)
          have f0b := (hbb.block _ (lt_of_block f0a)).trans f0a
          have hab := (hbb.block _ (lt_of_block ha)).trans ha
          clear c0 c1 c2 c3 c4 k0 k1
          obtain ⟨c0, c1, c2, c3, c4⟩ := box5 f0b
          obtain ⟨k0, k1⟩ := box2 hab
          have hlb := (hla.below hbb).more hbb.size
          gi_wp2
          cases hX : stepS W tt a d2 with
          | none =>
            have hE : eightF W tt (c, k) = none := eightF_no hq4 (by unfold eightD; rw [hA, hd2, hB]; simp only; rw [hX])
            refine ⟨trivial, (callsIn_wide.2 (rwstep_none X Z D F cap hW hn hIA hd4 hX wb hlb)).mono ?_⟩
            rintro en w5 ⟨⟨i3, j3, rfl⟩, hb5⟩
            obtain ⟨wc, ec, hbc, hc, hs5, hzc⟩ := after_call hb5 (.cells #[.int .i64 i3, .int .i64 j3] 45)
            have f0c := (hbc.block _ (lt_of_block f0b)).trans f0b
            have hbc2 := (hbc.block _ (lt_of_block hb)).trans hb
            clear c0 c1 c2 c3 c4 k0 k1
            obtain ⟨c0, c1, c2, c3, c4⟩ := box5 f0c
            obtain ⟨k0, k1⟩ := box2 hbc2
            have hlc := (hlb.below hbc).more hbc.size
            gi_wp2
            refine ⟨trivial, (callsIn_wide.2 (rwstep_gen X Z D F cap hW hn hIB hq4 wc hlc)).mono ?_⟩
            rintro en w6 ⟨⟨i4, j4, t4, rfl⟩, hb6⟩
            gi_wp2
            go_ret2
            rw [← hEE, hE]
            exact ⟨rfl, bb.trans ((hlow.trans ((hba.trans ((hbb.trans ((hbc.trans ((hb6.alloc hb6.size _).mono hbc.size)).mono hbb.size)).mono hba.size)).mono hcs)).mono bb.size)⟩
          | some x =>
            refine ⟨trivial, (callsIn_wide.2 (rwstep_some X Z D F cap hW hn hi hIA hd4 hX wb hlb)).mono ?_⟩
            rintro en w5 ⟨rfl, hb5⟩
            obtain ⟨wc, ec, hbc, hc, hs5, hzc⟩ := after_call hb5 (.cells #[.int .i64 x.1, .int .i64 x.2] 45)
            have f0c := (hbc.block _ (lt_of_block f0b)).trans f0b
            have hbc2 := (hbc.block _ (lt_of_block hb)).trans hb
            have hac := (hbc.block _ (lt_of_block hab)).trans hab
            clear c0 c1 c2 c3 c4 k0 k1
            obtain ⟨c0, c1, c2, c3, c4⟩ := box5 f0c
            obtain ⟨k0, k1⟩ := box2 hbc2
            have hlc := (hlb.below hbc).more hbc.size
            gi_wp2
            cases hY : stepS W tt b q with
            | none =>
              have hE : eightF W tt (c, k) = none := eightF_no hq4 (by unfold eightD; rw [hA, hd2, hB]; simp only; rw [hX, hY])
              refine ⟨trivial, (callsIn_wide.2 (rwstep_none X Z D F cap hW hn hIB hq4 hY wc hlc)).mono ?_⟩
              rintro en w6 ⟨⟨i4, j4, rfl⟩, hb6⟩
              gi_wp2
              go_ret2
              rw [← hEE, hE]
              exact ⟨rfl, bb.trans ((hlow.trans ((hba.trans ((hbb.trans ((hbc.trans ((hb6.alloc hb6.size _).mono hbc.size)).mono hbb.size)).mono hba.size)).mono hcs)).mono bb.size)⟩
            | some y =>
              refine ⟨trivial, (callsIn_wide.2 (rwstep_some X Z D F cap hW hn hi hIB hq4 hY wc hlc)).mono ?_⟩
              rintro en w6 ⟨rfl, hb6⟩
              obtain ⟨wd, ed, hbd, hd, hs6, hzd⟩ := after_call hb6 (.cells #[.int .i64 y.1, .int .i64 y.2] 45)
              have hcd := (hbd.block _ (lt_of_block hc)).trans hc
              have had := (hbd.block _ (lt_of_block hac)).trans hac
              clear c0 c1 c2 c3 c4 k0 k1
              obtain ⟨c0, c1⟩ := box2 hcd
              obtain ⟨c2, c3⟩ := box2 hd
              obtain ⟨c4, c5⟩ := box2 had
              have hwd : Below wr.heap.size wr wd := hba.trans ((hbb.trans ((hbc.trans (hbd.mono hbc.size)).mono hbb.size)).mono hba.size)
              by_cases hxy : x = y
              · subst hxy
                have hD : eightD W tt (c, k) q = some [a, x] := by unfold eightD; rw [hA, hd2, hB]; simp only; rw [hX, hY]; simp
                have hrowd := own_below hrow hwd
                have hl2l := eightN_len hN
                obtain ⟨i0, hii, hz0, hz1, hz2⟩ := info_parts infoS2
                clear hza hzb hzc hzd hlr hla hlb hlc f0 f0a f0b f0c f1 f1a b0 b1 ea eb ec ha hab hac had hb hbc2 hc hcd hd
                gi_wp2_with (gi_at_builtin; go_loud (refine wpListIn_append_own_at _ rfl (.tmp 75) (.tmp 78) 41 rfl W2.heap.size 45 i0 _ 2 16 Try.underlying41 hii hz0 hz1 hz2 (by decide) (by decide) u8 l.length (spcs l) rfl (hrowd.alloc _) ⟨wd.heap.size, 0, none⟩ 2 2 (spcs [a, x]) rfl rfl (sp2_new _ _ _ _) (sp2_one _ _) (by unfold maxLen; omega) (by omega) (by simp; have := hwd.size; omega) ?_; intro v8 w8 hown8 hg8 hnil8 hloc8))
                go_roundw
                case rel => exact ⟨q + 1, l ++ [a, x], by go_num, by omega, by rw [eightN, hN, hD], by rw [spcs_append, List.length_append]; exact hown8, ((hlow.trans (hwd.mono hcs)).alloc (Nat.le_trans hcs hwd.size) _).grown hg8 (by simp; have := hwd.size; omega) (fun k e => (hrow.lt k e).1)⟩
                case measure => simp [intOf]; omega
              · have hE : eightF W tt (c, k) = none := eightF_no hq4 (by unfold eightD; rw [hA, hd2, hB]; simp only; rw [hX, hY]; simp only; rw [if_neg hxy])
                by_cases h1 : x.1 = y.1
                · have h2 : ¬ x.2 = y.2 := fun h2 => hxy (Prod.ext h1 h2)
                  have h3 : ¬ (x.2 : Int) = y.2 := by omega
                  rw [h1] at c0
                  gi_wp2
                  go_ret2
                  rw [← hEE, hE]
                  exact ⟨rfl, bb.trans ((hlow.trans (hwd.mono hcs)).mono bb.size)⟩
                · have h3 : ¬ (x.1 : Int) = y.1 := by omega
                  gi_wp2
                  go_ret2
                  rw [← hEE, hE]
                  exact ⟨rfl, bb.trans ((hlow.trans (hwd.mono hcs)).mono bb.size)⟩
    · obtain rfl : q = 4 := by omega
      gi_wp2
      go_ret2
      rw [← hEE, show eightF W tt (c, k) = some l from hN]
      exact ⟨⟨_, rfl, own_base hrow bb.size⟩, bb.trans (hlow.mono bb.size)⟩
end Go.Proofs.Ytcdfojfafnecdaa

/- footpathref14.Cap, Same of equal rows, Fits of rows that fit; footpathref01.Ints of equal rows: by walks. No conditions but that the rows lie where they are said to lie. -/
namespace Go.Proofs.Ytcdfojfafnecdaa
open Go Go.RowKit Go.Sx Go.Mp
attribute [local go_sem] Oper.semAt_some
set_option maxHeartbeats 1000000 in
set_option maxRecDepth 100000 in
theorem rcap_any (a b c d e f g : Int) (w : World) : Calls Try.prog 14 #[cfgv a b c d e f g] w fun en w' => en = .returned (.int .i64 (capF a b c d e f g)) ∧ Below w.heap.size w w' := by
  have hba : Below w.heap.size w (w.alloc (.cells #[.int .i64 a, .int .i64 b, .int .i64 c, .int .i64 d, .int .i64 e, .int .i64 f, .int .i64 g] 23)) := (Below.refl _ _).alloc (Nat.le_refl _) _
  have hc := rcfg_any a b c d e f g (w.alloc (.cells #[.int .i64 a, .int .i64 b, .int .i64 c, .int .i64 d, .int .i64 e, .int .i64 f, .int .i64 g] 23))
  have hB := World.alloc_heap_new w (.cells #[.int .i64 a, .int .i64 b, .int .i64 c, .int .i64 d, .int .i64 e, .int .i64 f, .int .i64 g] 23)
  unfold cfgv at hc ⊢
  unfold capF
  by_cases hk : checkF a b c d e f g = 0
  · have ha := check_clear hk
    have e1 : IntKind.i64.wrap (a + 3) = a + 3 := by rw [IntKind.wrap_i64]; omega
    rw [if_pos hk]
    rw [hk] at hc
    refine (callsIn_wide (n := 6)).1 ?_
    refine callsIn_of_wp Try.func14 rfl trivial ?_
    simp only [Try.ntmps14, List.size_toArray, List.length_cons, List.length_nil, Nat.reduceAdd, Nat.reduceSub, Array.replicate_succ, Array.replicate_zero, List.push_toArray, List.append_toArray, List.nil_append, List.cons_append]
    gi_wp2_with (refine ⟨trivial, ?_⟩; gi_at_call 19; refine (callsIn_wide.2 hc).mono ?_; rintro en w3 ⟨rfl, hb3⟩; have c0 : w3.cell? ⟨w.heap.size, 0, none⟩ = some (.int .i64 a) := cell_of ((hb3.block _ (lt_of_block hB)).trans hB) rfl)
    go_ret
    exact ⟨rfl, hba.trans (hb3.mono hba.size)⟩
  · have hne : (checkF a b c d e f g != 0) = true := by simpa using hk
    rw [if_neg hk]
    generalize checkF a b c d e f g = er at hc hne hk
    refine (callsIn_wide (n := 6)).1 ?_
    refine callsIn_of_wp Try.func14 rfl trivial ?_
    simp only [Try.ntmps14, List.size_toArray, List.length_cons, List.length_nil, Nat.reduceAdd, Nat.reduceSub, Array.replicate_succ, Array.replicate_zero, List.push_toArray, List.append_toArray, List.nil_append, List.cons_append]
    gi_wp2_with (refine ⟨trivial, ?_⟩; gi_at_call 19; refine (callsIn_wide.2 hc).mono ?_; rintro en w3 ⟨rfl, hb3⟩)
    go_ret
    exact ⟨rfl, hba.trans (hb3.mono hba.size)⟩
set_option maxHeartbeats 1000000 in
set_option maxRecDepth 100000 in
theorem rints_any (q : Nat) (f : Nat → Int) (A B : Option Addr) (ca cb : Nat) (w : World) (hq : q ≤ 100000) (hA : Reads w w.heap.size 1 A q (intRow q f)) (hB : Reads w w.heap.size 1 B q (intRow q f)) :
    Calls Try.prog 23 #[.slice A q ca, .slice B q cb] w fun en w' => en = .returned (.bool true) ∧ Below w.heap.size w w' := by
  refine (callsIn_wide (n := 6)).1 ?_
  refine callsIn_of_wp Try.func23 rfl trivial ?_
  simp only [Try.ntmps23, List.size_toArray, List.length_cons, List.length_nil, Nat.reduceAdd, Nat.reduceSub, Array.replicate_succ, Array.replicate_zero, List.push_toArray, List.append_toArray, List.nil_append, List.cons_append]
  gi_wp2
  gi_loopw [5] (fun x wr => ∃ k : Nat, x = .int .i64 k ∧ k ≤ q ∧ Below w.heap.size w wr) (fun x _ => q - (intOf x).toNat)
  case atStart => exact ⟨0, rfl, Nat.zero_le _, Below.refl _ _⟩
  case round =>
    obtain ⟨k, rfl, hk, hlow⟩ := hrel
    by_cases hkn : k < q
    · have hkn' : (k : Int) < (q : Int) := by omega
      have hwk : IntKind.i64.wrap ((k : Int) + 1) = (k : Int) + 1 := by rw [IntKind.wrap_i64]; omega
      obtain ⟨a, u, rfl, hba, hu, hc⟩ := (hA.below hlow).at_ hkn
      obtain ⟨b, v, rfl, hbb, hv, hd⟩ := (hB.below hlow).at_ hkn
      rw [intRow_get hkn] at hu hv
      injection hu with hu
      injection hv with hv
      subst hu; subst hv
      generalize f k = x at hc hd
      gi_wp2
      have hS : (CellsL [(a.add k, .int .i64 x), (b.add k, .int .i64 x)]) (wr.drew) := ⟨hc, hd, trivial⟩
      refine wpIn_region_ord [(0, true), (1, true), (2, true), (3, true), (4, true), (5, true), (6, true), (7, true)] (CellsL [(a.add k, .int .i64 x), (b.add k, .int .i64 x)]) (fun _ => trivial) rfl (by first | exact then_put rfl | (intro c d v a w h; cases d <;> exact h)) (by kernel_rfl) ?_
      simp only [List.length_cons, List.length_nil, Nat.reduceAdd, List.drop_succ_cons, List.drop_zero]
      iterate 8 (apply wpOrd_quiet rfl hS rfl; (intro w' hw'; obtain ⟨q0, q1, _⟩ := hw'; go_simp; exact rfl); go_simp)
      refine wpOrd_nil ?_
      clear hS
      gi_wp2
      go_roundw
      case rel => exact ⟨k + 1, by go_num, by omega, hlow.drew⟩
      case measure => simp [intOf]; omega
    · obtain rfl : k = q := by omega
      gi_wp2
      go_ret
      exact ⟨rfl, hlow⟩
set_option maxHeartbeats 1000000 in
set_option maxRecDepth 100000 in
theorem rsame_any (n : Nat) (len : Nat → Nat) (f : Nat → Nat → Int) (A B : Option Addr) (ca cb : Nat) (w : World) (hn : n ≤ 4096) (h8 : ∀ i, len i ≤ 8) (hA : IntsAt w w.heap.size A n len f) (hB : IntsAt w w.heap.size B n len f) :
    Calls Try.prog 12 #[.slice A n ca, .slice B n cb] w fun en w' => en = .returned (.bool true) ∧ Below w.heap.size w w' := by
  refine (callsIn_wide (n := 6)).1 ?_
  refine callsIn_of_wp Try.func12 rfl trivial ?_
  simp only [Try.ntmps12, List.size_toArray, List.length_cons, List.length_nil, Nat.reduceAdd, Nat.reduceSub, Array.replicate_succ, Array.replicate_zero, List.push_toArray, List.append_toArray, List.nil_append, List.cons_append]
  gi_wp2
  gi_loopw [5] (fun x wr => ∃ i : Nat, x = .int .i64 i ∧ i ≤ n ∧ Below w.heap.size w wr) (fun x _ => n - (intOf x).toNat)
  case atStart => exact ⟨0, rfl, Nat.zero_le _, Below.refl _ _⟩
  case round =>
    obtain ⟨i, rfl, hi, hlow⟩ := hrel
    by_cases hin : i < n
    · have hin' : (i : Int) < (n : Int) := by omega
      have hwi : IntKind.i64.wrap ((i : Int) + 1) = (i : Int) + 1 := by rw [IntKind.wrap_i64]; omega
      obtain ⟨a, Ai, ci, rfl, hba, hc, hra⟩ := (hA.below hlow).at_ hin
      obtain ⟨b, Bi, di, rfl, hbb, hd, hrb⟩ := (hB.below hlow).at_ hin
      have hl8 := h8 i
      have hs := hlow.size
      have hin1 := rints_any (len i) (f i) Ai Bi ci di wr.drew (by omega) (hra.more hs) (hrb.more hs)
      generalize len i = li at hc hd hra hrb hl8 hin1
      gi_wp2
      have hS : (CellsL [(a.add i, .slice Ai li ci), (b.add i, .slice Bi li di)]) (wr.drew) := ⟨hc, hd, trivial⟩
      refine wpIn_region_ord [(0, true), (1, true), (2, true), (3, true), (4, true), (5, true), (6, true), (7, true), (8, false)] (CellsL [(a.add i, .slice Ai li ci), (b.add i, .slice Bi li di)]) (fun _ => trivial) rfl (by first | exact then_put rfl | (intro c d v a w h; cases d <;> exact h)) (by kernel_rfl) ?_
      simp only [List.length_cons, List.length_nil, Nat.reduceAdd, List.drop_succ_cons, List.drop_zero]
      iterate 8 (apply wpOrd_quiet rfl hS rfl; (intro w' hw'; obtain ⟨q0, q1, _⟩ := hw'; go_simp; exact rfl); go_simp)
      refine wpOrd_move rfl rfl ?_
      go_simp
      refine ⟨trivial, (callsIn_wide.2 hin1).mono ?_⟩
      rintro en w3 ⟨rfl, hb3⟩
      replace hS := CellsL.keep hb3 hS ⟨by rw [block_of_add]; show _ < wr.heap.size; omega, by rw [block_of_add]; show _ < wr.heap.size; omega, trivial⟩
      refine ⟨hS, ?_⟩
      go_simp
      refine wpOrd_nil ?_
      clear hS
      gi_wp2
      go_roundw
      case rel => exact ⟨i + 1, by go_num, by omega, hlow.drew.trans (hb3.mono hs)⟩
      case measure => simp [intOf]; omega
    · obtain rfl : i = n := by omega
      gi_wp2
      go_ret
      exact ⟨rfl, hlow⟩
theorem rsame_nil (w : World) : Calls Try.prog 12 #[.slice none 0 0, .slice none 0 0] w fun en w' => en = .returned (.bool true) ∧ Below w.heap.size w w' :=
  rsame_any 0 (fun _ => 0) (fun _ _ => 0) none none 0 0 w (by omega) (fun _ => by omega) ⟨[], Reads.none_, fun i hi => by omega⟩ ⟨[], Reads.none_, fun i hi => by omega⟩
set_option maxHeartbeats 2000000 in
set_option maxRecDepth 100000 in
theorem rfits_any (X Z W D : Int) (rows : List (List V3)) (A : Option Addr) (cap : Nat) (f : Nat → Nat → Int) (hf : ∀ i k, 0 ≤ f i k) (B : Option Addr) (cb : Nat) (w : World) (hr : RowsAt w w.heap.size A rows) (ho : gridOk X Z W D rows) (hI : IntsAt w w.heap.size B rows.length (lenF rows) f) :
    Calls Try.prog 16 #[gridv X Z W D A rows.length cap, .slice B rows.length cb] w fun en w' => en = .returned (.bool true) ∧ Below w.heap.size w w' := by
  have hl := lensOk_g ho
  have hn4 := rows_len ho
  have h8 := lenF_le ho
  obtain ⟨u1, eu1, bu1, ku1⟩ := alloc_step w (.cells #[.int .i64 X, .int .i64 Z, .int .i64 W, .int .i64 D, .slice A rows.length cap] 26)
  have hch := rcheck_any X Z W D rows A cap u1 ((hr.below bu1).more bu1.size) hl
  obtain ⟨g0, g1, g2, g3, g4⟩ := box5 ku1
  unfold gridv at hch ⊢
  refine (callsIn_wide (n := 6)).1 ?_
  refine callsIn_of_wp Try.func16 rfl trivial ?_
  simp only [Try.ntmps16, List.size_toArray, List.length_cons, List.length_nil, Nat.reduceAdd, Nat.reduceSub, Array.replicate_succ, Array.replicate_zero, List.push_toArray, List.append_toArray, List.nil_append, List.cons_append]
  gi_wp2
  refine ⟨trivial, (callsIn_wide.2 hch).mono ?_⟩
  rintro en w2 ⟨⟨er, rfl, hei⟩, hb2⟩
  obtain rfl : er = 0 := hei.2 ho
  clear hei hch g0 g1 g2 g3 g4
  have k1 := (hb2.block _ (lt_of_block ku1)).trans ku1
  obtain ⟨g0, g1, g2, g3, g4⟩ := box5 k1
  have hb02 := bu1.trans (hb2.mono bu1.size)
  have hr2 := (hr.below hb02).more hb02.size
  have hI2 := (hI.below hb02).more hb02.size
  gi_wp2
  gi_loopw [5] (fun x wr => ∃ i : Nat, x = .int .i64 i ∧ i ≤ rows.length ∧ Below w2.heap.size w2 wr) (fun x _ => rows.length - (intOf x).toNat)
  case atStart => exact ⟨0, rfl, Nat.zero_le _, Below.refl _ _⟩
  case round =>
    clear g0 g1 g2 g3 g4
    obtain ⟨i, rfl, hi, hlow⟩ := hrel
    obtain ⟨g0, g1, g2, g3, g4⟩ := box5 ((hlow.block _ (lt_of_block k1)).trans k1)
    by_cases hin : i < rows.length
    · have hin' : (i : Int) < (rows.length : Int) := by omega
      have hwi : IntKind.i64.wrap ((i : Int) + 1) = (i : Int) + 1 := by rw [IntKind.wrap_i64]; omega
      obtain ⟨a, Ai, ci, rfl, hba, hc, hra⟩ := (hr2.below hlow).at_ hin
      obtain ⟨b, Bi, di, rfl, hbb, hd, hrb⟩ := (hI2.below hlow).at_ hin
      have hlf : rows[i].length = lenF rows i := by simp [lenF, List.getD, hin]
      rw [hlf] at hc
      have hl8 := h8 i
      generalize lenF rows i = li at hc hd hrb hl8
      have hos := hlow.size
      gi_wp2
      have hS : (CellsL [(b.add i, .slice Bi li di), (⟨w.heap.size, 4, none⟩, .slice (some a) rows.length cap), (a.add i, .slice Ai li ci)]) (wr.drew) := ⟨hd, g4, hc, trivial⟩
      refine wpIn_region_ord [(0, true), (1, true), (2, true), (3, true), (4, true), (5, true), (6, true), (7, true), (8, true), (9, true), (10, true)] (CellsL [(b.add i, .slice Bi li di), (⟨w.heap.size, 4, none⟩, .slice (some a) rows.length cap), (a.add i, .slice Ai li ci)]) (fun _ => trivial) rfl (by first | exact then_put rfl | (intro c d v a w h; cases d <;> exact h)) (by kernel_rfl) ?_
      simp only [List.length_cons, List.length_nil, Nat.reduceAdd, List.drop_succ_cons, List.drop_zero]
      iterate 11 (apply wpOrd_quiet rfl hS rfl; (intro w' hw'; obtain ⟨q0, q1, q2, _⟩ := hw'; go_simp; exact rfl); go_simp)
      refine wpOrd_nil ?_
      clear hS g0 g1 g2 g3 g4
      have hd' : wr.drew.cell? (b.add i) = some (.slice Bi li di) := hd
      have hrb' := hrb.drew
      have hlow' : Below w2.heap.size w2 wr.drew := hlow.drew
      clear hd hrb hlow hc hra
      generalize wr.drew = wo at hd' hrb' hlow' ⊢
      gi_wp2
      gi_loopw [6] (fun x wt => ∃ k : Nat, x = .int .i64 k ∧ k ≤ li ∧ Below wo.heap.size wo wt) (fun x _ => li - (intOf x).toNat)
      case atStart => exact ⟨0, rfl, Nat.zero_le _, Below.refl _ _⟩
      case round =>
        obtain ⟨k, rfl, hkl, hlow2⟩ := hrel
        have hos' := hlow'.size
        have hd2 := (hlow2.cell (p := b.add i) (by rw [block_of_add]; omega)).trans hd'
        by_cases hkn : k < li
        · have hkn' : (k : Int) < (li : Int) := by omega
          have hwk : IntKind.i64.wrap ((k : Int) + 1) = (k : Int) + 1 := by rw [IntKind.wrap_i64]; omega
          obtain ⟨bb, v, rfl, hbbb, hv, he⟩ := ((hrb'.more hos').below hlow2).at_ hkn
          rw [intRow_get hkn] at hv
          injection hv with hv
          subst hv
          have hp := hf i k
          have hp' : ¬ f i k < 0 := by omega
          generalize f i k = x at he hp hp'
          gi_wp2
          go_roundw
          case rel => exact ⟨k + 1, by go_num, by omega, hlow2⟩
          case measure => simp [intOf]; omega
        · obtain rfl : k = li := by omega
          gi_wp2
          go_roundw
          case rel => exact ⟨i + 1, by go_num, by omega, hlow'.trans (hlow2.mono hos')⟩
          case measure => simp [intOf]; omega
    · obtain rfl : i = rows.length := by omega
      gi_wp2
      go_ret
      exact ⟨rfl, hb02.trans (hlow.mono hb02.size)⟩
end Go.Proofs.Ytcdfojfafnecdaa

/- The eight are mutual, and clearances of the eight differ by 1 at most: plain. No conditions. -/
namespace Go.Proofs.Ytcdfojfafnecdaa
open Go Go.RowKit Go.Sx Go.Mp
section
variable {X Z D : Int} {W : Nat} {rows : List (List V3)} {lk : V3 → V3 → Bool}
theorem step_back (ho : gridOk X Z W D rows) (hs : ∀ a b, lk a b = lk b a)
    (hu : ∀ (x z : Int) (a : V3) (i j : Nat) (f g : V3), (colOf X Z W D rows x z)[i]? = some f → (colOf X Z W D rows x z)[j]? = some g → lk a f = true → lk a g = true → i = j)
    {s t : Nat × Nat} {d : Nat} (hc : s.1 < rows.length) (h : stepS W (ttF lk X Z W D rows) s d = some t) : stepS W (ttF lk X Z W D rows) t ((d + 2) % 4) = some s := by
  obtain ⟨c, k⟩ := s
  unfold stepS at h
  cases hd : stepD d with
  | none => rw [hd] at h; cases h
  | some p =>
    obtain ⟨dx, dz⟩ := p
    rw [hd] at h
    cases ht : ttF lk X Z W D rows c k d with
    | none => simp only [ht] at h; cases h
    | some m =>
      simp only [ht] at h
      injection h with h
      subst h
      have ht' : toF lk (colOf X Z W D rows) (X + (c : Int) % W) (Z + (c : Int) / W) k d = some m := ht
      have hb := toF_back hs hu hd ht'
      obtain ⟨_, a, f, h1, h2, _⟩ := toF_some lk (colOf X Z W D rows) hd ht'
      obtain ⟨g1, g2, g3, g4, g5, g6, g7⟩ := colOf_spot ho hc h2
      have hW : (0 : Int) < W := by omega
      obtain ⟨c', hc'⟩ : ∃ c' : Nat, (c : Int) + dz * W + dx = c' := ⟨((c : Int) + dz * W + dx).toNat, by omega⟩
      have e1 := Int.mul_ediv_add_emod (c : Int) W
      have ec : (c' : Int) = ((c : Int) % W + dx) + (W : Int) * ((c : Int) / W + dz) := by rw [← hc', Int.mul_add, Int.mul_comm (W : Int) dz]; omega
      have em : (c' : Int) % W = (c : Int) % W + dx := by rw [ec, Int.add_mul_emod_self_left, Int.emod_eq_of_lt g4 g5]
      have ed : (c' : Int) / W = (c : Int) / W + dz := by rw [ec, Int.add_mul_ediv_left _ _ (by omega), Int.ediv_eq_zero_of_lt g4 g5]; omega
      have hdd : (((d + 2) % 4 : Nat) : Int) = ((d : Int) + 2) % 4 := by omega
      have hopp := (stepD_opp hd).1
      unfold stepS
      rw [hdd, hopp, hc', Int.toNat_natCast]
      have hb2 : ttF lk X Z W D rows c' m ((d + 2) % 4) = some k := by
        unfold ttF
        rw [hdd, em, ed, ← Int.add_assoc, ← Int.add_assoc, hb, Int.toNat_natCast]
      simp only [hb2]
      rw [show (c' : Int) + -dz * W + -dx = (c : Int) by rw [← hc', Int.neg_mul]; omega, Int.toNat_natCast]
theorem eightD_some {tt : Nat → Nat → Nat → Option Nat} {s : Nat × Nat} {d : Nat} {m : List (Nat × Nat)} (h : eightD W tt s d = some m) :
    ∃ a b x, stepS W tt s d = some a ∧ stepS W tt s ((d + 1) % 4) = some b ∧ stepS W tt a ((d + 1) % 4) = some x ∧ stepS W tt b d = some x ∧ m = [a, x] := by
  unfold eightD at h
  cases hA : stepS W tt s d with
  | none => rw [hA] at h; cases h
  | some a =>
    cases hB : stepS W tt s ((d + 1) % 4) with
    | none => rw [hA, hB] at h; cases h
    | some b =>
      rw [hA, hB] at h
      simp only at h
      cases hX : stepS W tt a ((d + 1) % 4) with
      | none => rw [hX] at h; cases h
      | some x =>
        cases hY : stepS W tt b d with
        | none => rw [hX, hY] at h; cases h
        | some y =>
          rw [hX, hY] at h
          simp only at h
          split at h
          · rename_i e
            injection h with h
            exact ⟨a, b, x, rfl, rfl, hX, by rw [hY, e], h.symm⟩
          · cases h
theorem eightN_part {tt : Nat → Nat → Nat → Option Nat} {s : Nat × Nat} : ∀ {q : Nat} {l : List (Nat × Nat)}, eightN W tt s q = some l → (∀ d, d < q → ∃ m, eightD W tt s d = some m ∧ ∀ t ∈ m, t ∈ l) ∧ (∀ t ∈ l, ∃ d m, d < q ∧ eightD W tt s d = some m ∧ t ∈ m)
  | 0, l, h => by injection h with h; subst h; exact ⟨fun d hd => by omega, fun t ht => by cases ht⟩
  | q + 1, l, h => by
    rw [eightN] at h
    cases h1 : eightN W tt s q with
    | none => rw [h1] at h; cases h
    | some l1 =>
      cases h2 : eightD W tt s q with
      | none => rw [h1, h2] at h; cases h
      | some m =>
        rw [h1, h2] at h
        injection h with h
        subst h
        obtain ⟨i1, i2⟩ := eightN_part h1
        refine ⟨fun d hd => ?_, fun t ht => ?_⟩
        · by_cases hq : d = q
          · subst hq; exact ⟨m, h2, fun t ht => List.mem_append_right _ ht⟩
          · obtain ⟨m', h3, h4⟩ := i1 d (by omega)
            exact ⟨m', h3, fun t ht => List.mem_append_left _ (h4 t ht)⟩
        · rcases List.mem_append.1 ht with ht | ht
          · obtain ⟨d, m', h3, h4, h5⟩ := i2 t ht
            exact ⟨d, m', by omega, h4, h5⟩
          · exact ⟨q, m, by omega, h2, ht⟩
theorem eight_mutual (ho : gridOk X Z W D rows) (hs : ∀ a b, lk a b = lk b a)
    (hu : ∀ (x z : Int) (a : V3) (i j : Nat) (f g : V3), (colOf X Z W D rows x z)[i]? = some f → (colOf X Z W D rows x z)[j]? = some g → lk a f = true → lk a g = true → i = j)
    {s t : Nat × Nat} (hc : InG rows.length (lenF rows) s) {l l' : List (Nat × Nat)} (h : eightF W (ttF lk X Z W D rows) s = some l) (ht : t ∈ l) (h' : eightF W (ttF lk X Z W D rows) t = some l') : s ∈ l' := by
  have hin := tt_inside lk ho rfl
  obtain ⟨d, m, hd, hm, htm⟩ := (eightN_part h).2 t ht
  obtain ⟨a, b, x, ha, hb, hx, hy, rfl⟩ := eightD_some hm
  have ha1 := stepS_in hin hc ha
  have hb1 := stepS_in hin hc hb
  have e2 : (d + 2) % 4 < 4 := Nat.mod_lt _ (by omega)
  obtain ⟨m', hm', hl'⟩ := (eightN_part h').1 ((d + 2) % 4) e2
  obtain ⟨a', b', x', ha', hb', hx', hy', rfl⟩ := eightD_some hm'
  have htm : t = a ∨ t = x := by simpa using htm
  rcases htm with rfl | rfl
  · rw [step_back ho hs hu hc.1 ha] at ha'
    injection ha' with ha'
    subst ha'
    exact hl' _ (by simp)
  · have k1 := step_back ho hs hu hb1.1 hy
    rw [k1] at ha'
    injection ha' with ha'
    subst ha'
    have k2 := step_back ho hs hu hc.1 hb
    rw [show ((d + 1) % 4 + 2) % 4 = ((d + 2) % 4 + 1) % 4 by omega] at k2
    rw [k2] at hx'
    injection hx' with hx'
    subst hx'
    exact hl' _ (by simp)
end
section
variable {N : Nat × Nat → Option (List (Nat × Nat))} {s : Nat × Nat}
theorem cl_pos {c : Nat} (hc : 0 < c) : decide (0 < cl N c s) = (N s).isSome := by
  have h := lt_cl (N := N) (s := s) (c := c) (m := 0)
  cases hN : N s with
  | none =>
    have hk : kn N 0 s = true := kn_none hN
    refine decide_eq_false fun h1 => ?_
    have := (h.1 h1).2
    rw [hk] at this
    cases this
  | some l =>
    have hk : kn N 0 s = false := by rw [kn, hN]; rfl
    exact decide_eq_true (h.2 ⟨hc, hk⟩)
theorem cl_step {l : List (Nat × Nat)} {t : Nat × Nat} (hN : N s = some l) (ht : t ∈ l) (c : Nat) : cl N c s ≤ cl N c t + 1 := by
  rcases Nat.lt_or_ge (cl N c t + 1) (cl N c s) with h | h
  · exfalso
    obtain ⟨h1, h2⟩ := lt_cl.1 h
    have hk : kn N (cl N c t) t = true := by
      cases hk : kn N (cl N c t) t with
      | true => rfl
      | false =>
        have := (lt_cl (N := N) (s := t) (c := c) (m := cl N c t)).2 ⟨by omega, hk⟩
        omega
    rw [kn_some hN, List.any_eq_true.2 ⟨t, ht, hk⟩, Bool.or_true] at h2
    cases h2
  · exact h
theorem cl_near {l : List (Nat × Nat)} {t : Nat × Nat} (hN : N s = some l) (ht : t ∈ l) (hb : ∀ l', N t = some l' → s ∈ l') (c : Nat) : cl N c s ≤ cl N c t + 1 ∧ cl N c t ≤ cl N c s + 1 := by
  refine ⟨cl_step hN ht c, ?_⟩
  cases hT : N t with
  | none =>
    cases c with
    | zero => simp [cl]
    | succ c =>
      have := cl_pos (N := N) (s := t) (c := c + 1) (by omega)
      rw [hT] at this
      have := of_decide_eq_false this
      omega
  | some l' => exact cl_step hT (hb l' hT) c
end
end Go.Proofs.Ytcdfojfafnecdaa

/- FieldSteps' call tells true. No conditions but that the grid lies where it is said to lie. -/
namespace Go.Proofs.Ytcdfojfafnecdaa
open Go Go.RowKit Go.Sx Go.Mp
attribute [local go_sem] Oper.semAt_some
set_option maxHeartbeats 4000000 in
set_option maxRecDepth 100000 in
theorem fsteps_any (a b c d e f g X Z W D : Int) (rows : List (List V3)) (A : Option Addr) (cap : Nat) (w : World) (hr : RowsAt w w.heap.size A rows) (hl : lensOk rows) :
    Calls Try.prog 4 #[cfgv a b c d e f g, gridv X Z W D A rows.length cap] w fun en w' => en = .returned (.bool true) ∧ Below w.heap.size w w' := by
  obtain ⟨u1, eu1, bu1, ku1⟩ := alloc_step w (.cells #[.int .i64 a, .int .i64 b, .int .i64 c, .int .i64 d, .int .i64 e, .int .i64 f, .int .i64 g] 23)
  obtain ⟨u2, eu2, bu2, ku2⟩ := alloc_step u1 (.cells #[.int .i64 X, .int .i64 Z, .int .i64 W, .int .i64 D, .slice A rows.length cap] 26)
  have hba : Below w.heap.size w u2 := bu1.trans (bu2.mono bu1.size)
  have hB0 := (bu2.block _ (lt_of_block ku1)).trans ku1
  have hgr := great14_any X Z W D rows A cap u2 ((hr.below hba).more hba.size) hl
  have hwk := fun w => wakes14_any w
  have hcA := fun w => cap_any a b c d e f g w
  unfold gridv at hgr
  unfold cfgv at hcA
  obtain ⟨q0, q1, q2, q3, q4, q5, q6⟩ := box7 hB0
  obtain ⟨g0, g1, g2, g3, g4⟩ := box5 ku2
  unfold cfgv gridv
  refine (callsIn_wide (n := 6)).1 ?_
  refine callsIn_of_wp Try.func4 rfl trivial ?_
  simp only [Try.ntmps4, List.size_toArray, List.length_cons, List.length_nil, Nat.reduceAdd, Nat.reduceSub, Array.replicate_succ, Array.replicate_zero, List.push_toArray, List.append_toArray, List.nil_append, List.cons_append]
  gi_wp2
  refine ⟨trivial, (callsIn_wide.2 hgr).mono ?_⟩
  rintro en w1 ⟨⟨bg, rfl⟩, hb1⟩
  clear q0 q1 q2 q3 q4 q5 q6 g0 g1 g2 g3 g4 hgr
  have p0 := (hb1.block _ (lt_of_block hB0)).trans hB0
  have p1 := (hb1.block _ (lt_of_block ku2)).trans ku2
  have hb01 := hba.trans (hb1.mono hba.size)
  cases bg with
  | true =>
    gi_wp2_with (refine wpListIn_off rfl ?_)
    refine ⟨trivial, (callsIn_wide.2 (hwk _)).mono ?_⟩
    rintro en w2 ⟨rfl, hb2⟩
    gi_wp2
    go_ret
    exact ⟨rfl, hb01.trans (hb2.mono hb01.size)⟩
  | false =>
    obtain ⟨q0, q1, q2, q3, q4, q5, q6⟩ := box7 p0
    obtain ⟨g0, g1, g2, g3, g4⟩ := box5 p1
    gi_wp2
    by_cases ho : checkF a b c d e f g = 0 ∧ gridOk X Z W D rows
    · obtain ⟨hk, ho⟩ := ho
      obtain ⟨Wn, rfl⟩ : ∃ Wn : Nat, W = Wn := ⟨W.toNat, by have := ho.2.2.2.2.1; omega⟩
      have hin := tt_inside (lkF a b c d e f g) ho rfl
      have hW64 : Wn ≤ 64 := by have := ho.2.2.2.2.2.1; omega
      have hn4 : rows.length ≤ 4096 := rows_len ho
      have hlen8 : ∀ i, lenF rows i ≤ 8 := lenF_le ho
      have hclr := check_clear hk
      obtain ⟨cp, hcp⟩ : ∃ cp : Nat, a + 3 = cp := ⟨(a + 3).toNat, by omega⟩
      have hcapv : capF a b c d e f g = cp := by unfold capF; rw [if_pos hk, hcp]
      rw [hcapv] at hcA
      have hf1 := fbuild_ok a b c d e f g X Z Wn D rows A cap w1 ((hr.below hb01).more hb01.size) hl hk ho
      have hmut := fun (s t : Nat × Nat) (hc : InG rows.length (lenF rows) s) l l' h ht h' => eight_mutual ho (lkF_comm a b c d e f g) (fun x z p i j q r h1 h2 h3 h4 => lkF_one (colOf_ok ho x z) h1 h2 h3 h4) (s := s) (t := t) hc (l := l) (l' := l') h ht h'
      rw [Int.toNat_natCast, hcp, Int.toNat_natCast] at hf1
      have hf2 := fun w (hr : RowsAt w w.heap.size A rows) => rbuild_ok a b c d e f g X Z Wn D rows A cap w hr hl hk ho
      obtain ⟨tt, httF⟩ : ∃ tt, ttF (lkF a b c d e f g) X Z Wn D rows = tt := ⟨_, rfl⟩
      rw [httF] at hin hf1 hmut hf2
      obtain ⟨N, hN⟩ : ∃ N, eightF Wn tt = N := ⟨_, rfl⟩
      have hG : ∀ s l, InG rows.length (lenF rows) s → N s = some l → ∀ t ∈ l, InG rows.length (lenF rows) t := fun s l hs hNs t ht => eight_in hin hs (by rw [hN]; exact hNs) t ht
      rw [hN] at hf1 hmut
      have hnear : ∀ s l t, InG rows.length (lenF rows) s → N s = some l → t ∈ l → cl N cp s ≤ cl N cp t + 1 ∧ cl N cp t ≤ cl N cp s + 1 := fun s l t hs hNs ht => cl_near hNs ht (fun l' h' => hmut s t hs l l' hNs ht h') cp
      have hpos := fun s => cl_pos (N := N) (s := s) (c := cp) (by omega)
      have hle := fun s => cl_le (N := N) (s := s) (c := cp)
      clear hmut
      unfold cfgv at hf1
      refine ⟨trivial, (callsIn_wide.2 hf1).mono ?_⟩
      rintro en w2 ⟨A2, c2, rfl, hI2, hb2⟩
      clear q0 q1 q2 q3 q4 q5 q6 g0 g1 g2 g3 g4 hf1
      have hb02 := hb01.trans (hb2.mono hb01.size)
      have m0 := (hb2.block _ (lt_of_block p0)).trans p0
      have m1 := (hb2.block _ (lt_of_block p1)).trans p1
      obtain ⟨q0, q1, q2, q3, q4, q5, q6⟩ := box7 m0
      obtain ⟨g0, g1, g2, g3, g4⟩ := box5 m1
      gi_wp2
      replace hf2 := hf2 w2 ((hr.below hb02).more hb02.size)
      unfold cfgv gridv at hf2
      refine ⟨trivial, (callsIn_wide.2 hf2).mono ?_⟩
      rintro en w3 ⟨v3, rfl, hL, hb3⟩
      clear q0 q1 q2 q3 q4 q5 q6 g0 g1 g2 g3 g4 hf2
      obtain ⟨A3, c3, rfl, hLA⟩ := LinksAt.of (len := lenF rows) (tt := tt) hL (fun i _ => rfl)
      have hb03 := hb02.trans (hb3.mono hb02.size)
      have n0 := (hb3.block _ (lt_of_block m0)).trans m0
      have n1 := (hb3.block _ (lt_of_block m1)).trans m1
      obtain ⟨g0, g1, g2, g3, g4⟩ := box5 n1
      have hI3 := (hI2.below hb3).more hb3.size
      have hfit := rfits_any X Z Wn D rows A cap (fun i k => (cl N cp (i, k) : Nat)) (fun i k => by omega) A2 c2 w3 ((hr.below hb03).more hb03.size) ho hI3
      unfold gridv at hfit
      clear hL hI2
      gi_wp2
      refine ⟨trivial, (callsIn_wide.2 hfit).mono ?_⟩
      rintro en w4 ⟨rfl, hb4⟩
      clear g0 g1 g2 g3 g4 hfit
      have hb04 := hb03.trans (hb4.mono hb03.size)
      have r0 := (hb4.block _ (lt_of_block n0)).trans n0
      have r1 := (hb4.block _ (lt_of_block n1)).trans n1
      have hr4 := (hr.below hb04).more hb04.size
      have hI4 := (hI3.below hb4).more hb4.size
      have hL4 := (hLA.below hb4).more hb4.size
      clear hI3 hLA
      gi_wp2
      gi_loopw [9] (fun x wr => ∃ i : Nat, x = .int .i64 i ∧ i ≤ rows.length ∧ Below w4.heap.size w4 wr) (fun x _ => rows.length - (intOf x).toNat)
      case atStart => exact ⟨0, rfl, Nat.zero_le _, Below.refl _ _⟩
      case round =>
        obtain ⟨i, rfl, hi, hlow⟩ := hrel
        obtain ⟨wo, rfl⟩ : ∃ wo, wo = wr := ⟨wr, rfl⟩
        obtain ⟨g0, g1, g2, g3, g4⟩ := box5 ((hlow.block _ (lt_of_block r1)).trans r1)
        by_cases hin2 : i < rows.length
        · have hin' : (i : Int) < (rows.length : Int) := by omega
          have hwi : IntKind.i64.wrap ((i : Int) + 1) = (i : Int) + 1 := by rw [IntKind.wrap_i64]; omega
          obtain ⟨ad, Ai, ci, rfl, hbl, hca, hrd⟩ := (hr4.below hlow).at_ hin2
          obtain ⟨bd, Bi, di, rfl, hbb, hcb, hrb⟩ := (hI4.below hlow).at_ hin2
          have hlf : rows[i].length = lenF rows i := by simp [lenF, List.getD, hin2]
          rw [hlf] at hca
          have h8 := hlen8 i
          have hsi : ∀ k, k < lenF rows i → InG rows.length (lenF rows) (i, k) := fun k hk => ⟨hin2, hk⟩
          generalize hlc : lenF rows i = lc at hca hcb hrb h8 hsi
          have hos := hlow.size
          clear hrd hlf
          gi_wp2
          clear g0 g1 g2 g3 g4
          gi_loopw [10] (fun x wt => ∃ k : Nat, x = .int .i64 k ∧ k ≤ lc ∧ Below wo.heap.size wo wt) (fun x _ => lc - (intOf x).toNat)
          case atStart => exact ⟨0, rfl, Nat.zero_le _, Below.refl _ _⟩
          case round =>
            obtain ⟨k, rfl, hkl, hlow2⟩ := hrel
            obtain ⟨wk, rfl⟩ : ∃ wk, wk = wr := ⟨wr, rfl⟩
            have hlow3 := hlow.trans (hlow2.mono hos)
            obtain ⟨g0, g1, g2, g3, g4⟩ := box5 ((hlow3.block _ (lt_of_block r1)).trans r1)
            have hca2 := (hlow2.cell (p := ad.add i) (by rw [block_of_add]; omega)).trans hca
            by_cases hkn : k < lc
            · have hkn' : (k : Int) < (lc : Int) := by omega
              have hwk : IntKind.i64.wrap ((k : Int) + 1) = (k : Int) + 1 := by rw [IntKind.wrap_i64]; omega
              have hs := hsi k hkn
              have h28 := reight_any X Z D Wn (.slice (some ad) rows.length cap) A3 c3 rows.length (lenF rows) tt wk ((hL4.below hlow3).more hlow3.size) hW64 hn4 hin i k hs
              rw [hN] at h28
              unfold spv at h28
              obtain ⟨bb, ux, rfl, hbbb, hux, hcx⟩ := ((hrb.more hos).below hlow2).at_ hkn
              rw [intRow_get hkn] at hux
              injection hux with hux
              subst hux
              have hp1 := hpos (i, k)
              have hp2 := hle (i, k)
              have hp3 : ∀ l t, N (i, k) = some l → t ∈ l → ¬ ((cl N cp t : Nat) : Int) < ((cl N cp (i, k) : Nat) : Int) - 1 ∧ ¬ ((cl N cp (i, k) : Nat) : Int) + 1 < ((cl N cp t : Nat) : Int) := fun l t h1 h2 => by
                have := hnear _ l t hs h1 h2
                omega
              have hxc : ¬ (cp : Int) < ((cl N cp (i, k) : Nat) : Int) := by omega
              have hx1 : IntKind.i64.wrap (((cl N cp (i, k) : Nat) : Int) - 1) = ((cl N cp (i, k) : Nat) : Int) - 1 := by rw [IntKind.wrap_i64]; omega
              have hx2 : IntKind.i64.wrap (((cl N cp (i, k) : Nat) : Int) + 1) = ((cl N cp (i, k) : Nat) : Int) + 1 := by rw [IntKind.wrap_i64]; omega
              have hcb2 := (hlow2.cell (p := bd.add i) (by rw [block_of_add]; omega)).trans hcb
              have hx0 : decide ((0 : Int) < ((cl N cp (i, k) : Nat) : Int)) = (N (i, k)).isSome := by rw [← hp1]; exact decide_eq_decide.2 (by omega)
              obtain ⟨x, hx⟩ : ∃ x : Int, ((cl N cp (i, k) : Nat) : Int) = x := ⟨_, rfl⟩
              rw [hx] at hp3 hxc hx1 hx2 hx0
              simp only [hx] at hcx
              clear hp1 hp2 hx
              cases hNs : N (i, k) with
              | none =>
                rw [hNs] at h28 hx0
                have hx0' : ¬ (0 : Int) < x := of_decide_eq_false hx0
                have hx0b : decide ((0 : Int) < x) = false := hx0
                have hxcb : decide ((cp : Int) < x) = false := decide_eq_false hxc
                clear hp3
                gi_wp2
                refine ⟨trivial, (callsIn_wide.2 h28).mono ?_⟩
                rintro en w5 ⟨rfl, hb5⟩
                clear g0 g1 g2 g3 g4 h28
                have hlow5 := hlow2.trans (hb5.mono hlow2.size)
                have hlow35 := hlow3.trans (hb5.mono hlow3.size)
                obtain ⟨a0, a1, a2, a3, a4, a5, a6⟩ := box7 (show w5.drew.heap[w.heap.size]? = _ from (hlow35.block _ (lt_of_block r0)).trans r0)
                have l1 : w.heap.size < w5.drew.heap.size := Nat.lt_of_lt_of_le (lt_of_block r0) hlow35.size
                have hd5 := (hb5.cell (p := bd.add i) (by rw [block_of_add]; have := hlow2.size; omega)).trans hcb2
                have he5 := (hb5.cell (p := bb.add k) (by rw [block_of_add]; have := hlow2.size; omega)).trans hcx
                gi_wp2
                have hS : (CellsL [(⟨w.heap.size, 0, none⟩, .int .i64 a), (⟨w.heap.size, 1, none⟩, .int .i64 b), (⟨w.heap.size, 2, none⟩, .int .i64 c), (⟨w.heap.size, 3, none⟩, .int .i64 d), (⟨w.heap.size, 4, none⟩, .int .i64 e), (⟨w.heap.size, 5, none⟩, .int .i64 f), (⟨w.heap.size, 6, none⟩, .int .i64 g), (bd.add i, .slice (some bb) lc di), (bb.add k, .int .i64 x)]) (w5.drew) := ⟨a0, a1, a2, a3, a4, a5, a6, hd5, he5, trivial⟩
                refine wpIn_region_ord [(0, true), (1, true), (2, true), (3, true), (4, true), (5, true), (6, true), (7, true), (8, true), (9, true), (10, true), (11, true), (12, true), (13, true), (14, true), (15, true), (16, true), (17, true), (18, true), (19, false), (20, true)] (CellsL [(⟨w.heap.size, 0, none⟩, .int .i64 a), (⟨w.heap.size, 1, none⟩, .int .i64 b), (⟨w.heap.size, 2, none⟩, .int .i64 c), (⟨w.heap.size, 3, none⟩, .int .i64 d), (⟨w.heap.size, 4, none⟩, .int .i64 e), (⟨w.heap.size, 5, none⟩, .int .i64 f), (⟨w.heap.size, 6, none⟩, .int .i64 g), (bd.add i, .slice (some bb) lc di), (bb.add k, .int .i64 x)]) (fun _ => trivial) rfl (by first | exact then_put rfl | (intro c d v a w h; cases d <;> exact h)) (by kernel_rfl) ?_
                simp only [List.length_cons, List.length_nil, Nat.reduceAdd, List.drop_succ_cons, List.drop_zero]
                iterate 19 (apply wpOrd_quiet rfl hS rfl; (intro w' hw'; obtain ⟨q0, q1, q2, q3, q4, q5, q6, q7, q8, _⟩ := hw'; go_simp; first | (rw [hx0b]; exact rfl) | (rw [hxcb]; exact rfl) | exact rfl); go_simp)
                refine wpOrd_move rfl rfl ?_
                go_simp
                refine ⟨trivial, (callsIn_wide.2 (hcA _)).mono ?_⟩
                rintro en w6 ⟨rfl, hb6⟩
                replace hS := CellsL.keep hb6 hS ⟨l1, l1, l1, l1, l1, l1, l1, by rw [block_of_add]; show _ < w5.heap.size; have := hb5.size; have := hlow2.size; omega, by rw [block_of_add]; show _ < w5.heap.size; have := hb5.size; have := hlow2.size; omega, trivial⟩
                refine ⟨hS, ?_⟩
                go_simp
                iterate 1 (apply wpOrd_quiet rfl hS rfl; (intro w' hw'; obtain ⟨q0, q1, q2, q3, q4, q5, q6, q7, q8, _⟩ := hw'; go_simp; first | (rw [hx0b]; exact rfl) | (rw [hxcb]; exact rfl) | exact rfl); go_simp)
                refine wpOrd_nil ?_
                clear hS a0 a1 a2 a3 a4 a5 a6
                gi_wp2
                have hb56 : Below wo.heap.size wo w6 := hlow5.drew.trans (hb6.mono hlow5.size)
                gi_loopw [13] (fun x wj => x = .int .i64 0 ∧ Below w6.heap.size w6 wj) (fun _ _ => 0)
                case atStart => exact ⟨rfl, Below.refl _ _⟩
                case round =>
                  obtain ⟨rfl, hlj⟩ := hrel
                  gi_wp2
                  go_roundw
                  case rel => exact ⟨k + 1, by go_num, by omega, hb56.trans (hlj.mono hb56.size)⟩
                  case measure => simp [intOf]; omega
              | some l =>
                rw [hNs] at h28 hx0
                have hx0' : (0 : Int) < x := of_decide_eq_true hx0
                have hx0b : decide ((0 : Int) < x) = true := hx0
                have hxcb : decide ((cp : Int) < x) = false := decide_eq_false hxc
                have hl8 : l.length = 8 := eightN_len (show eightN Wn tt (i, k) 4 = some l by rw [← hNs, ← hN]; rfl)
                have hlG := hG _ _ hs hNs
                replace hp3 := fun t h => hp3 l t hNs h
                gi_wp2
                refine ⟨trivial, (callsIn_wide.2 h28).mono ?_⟩
                rintro en w5 ⟨⟨v5, rfl, hv5⟩, hb5⟩
                clear g0 g1 g2 g3 g4 h28
                obtain ⟨A5, c5, rfl⟩ := own_rowS hv5
                have hrd5 := Reads.of_own hv5
                have hlow5 := hlow2.trans (hb5.mono hlow2.size)
                have hlow35 := hlow3.trans (hb5.mono hlow3.size)
                obtain ⟨a0, a1, a2, a3, a4, a5, a6⟩ := box7 (show w5.drew.heap[w.heap.size]? = _ from (hlow35.block _ (lt_of_block r0)).trans r0)
                have l1 : w.heap.size < w5.drew.heap.size := Nat.lt_of_lt_of_le (lt_of_block r0) hlow35.size
                have hd5 := (hb5.cell (p := bd.add i) (by rw [block_of_add]; have := hlow2.size; omega)).trans hcb2
                have he5 := (hb5.cell (p := bb.add k) (by rw [block_of_add]; have := hlow2.size; omega)).trans hcx
                gi_wp2
                have hS : (CellsL [(⟨w.heap.size, 0, none⟩, .int .i64 a), (⟨w.heap.size, 1, none⟩, .int .i64 b), (⟨w.heap.size, 2, none⟩, .int .i64 c), (⟨w.heap.size, 3, none⟩, .int .i64 d), (⟨w.heap.size, 4, none⟩, .int .i64 e), (⟨w.heap.size, 5, none⟩, .int .i64 f), (⟨w.heap.size, 6, none⟩, .int .i64 g), (bd.add i, .slice (some bb) lc di), (bb.add k, .int .i64 x)]) (w5.drew) := ⟨a0, a1, a2, a3, a4, a5, a6, hd5, he5, trivial⟩
                refine wpIn_region_ord [(0, true), (1, true), (2, true), (3, true), (4, true), (5, true), (6, true), (7, true), (8, true), (9, true), (10, true), (11, true), (12, true), (13, true), (14, true), (15, true), (16, true), (17, true), (18, true), (19, false), (20, true)] (CellsL [(⟨w.heap.size, 0, none⟩, .int .i64 a), (⟨w.heap.size, 1, none⟩, .int .i64 b), (⟨w.heap.size, 2, none⟩, .int .i64 c), (⟨w.heap.size, 3, none⟩, .int .i64 d), (⟨w.heap.size, 4, none⟩, .int .i64 e), (⟨w.heap.size, 5, none⟩, .int .i64 f), (⟨w.heap.size, 6, none⟩, .int .i64 g), (bd.add i, .slice (some bb) lc di), (bb.add k, .int .i64 x)]) (fun _ => trivial) rfl (by first | exact then_put rfl | (intro c d v a w h; cases d <;> exact h)) (by kernel_rfl) ?_
                simp only [List.length_cons, List.length_nil, Nat.reduceAdd, List.drop_succ_cons, List.drop_zero]
                iterate 19 (apply wpOrd_quiet rfl hS rfl; (intro w' hw'; obtain ⟨q0, q1, q2, q3, q4, q5, q6, q7, q8, _⟩ := hw'; go_simp; first | (rw [hx0b]; exact rfl) | (rw [hxcb]; exact rfl) | exact rfl); go_simp)
                refine wpOrd_move rfl rfl ?_
                go_simp
                refine ⟨trivial, (callsIn_wide.2 (hcA _)).mono ?_⟩
                rintro en w6 ⟨rfl, hb6⟩
                replace hS := CellsL.keep hb6 hS ⟨l1, l1, l1, l1, l1, l1, l1, by rw [block_of_add]; show _ < w5.heap.size; have := hb5.size; have := hlow2.size; omega, by rw [block_of_add]; show _ < w5.heap.size; have := hb5.size; have := hlow2.size; omega, trivial⟩
                refine ⟨hS, ?_⟩
                go_simp
                iterate 1 (apply wpOrd_quiet rfl hS rfl; (intro w' hw'; obtain ⟨q0, q1, q2, q3, q4, q5, q6, q7, q8, _⟩ := hw'; go_simp; first | (rw [hx0b]; exact rfl) | (rw [hxcb]; exact rfl) | exact rfl); go_simp)
                refine wpOrd_nil ?_
                clear hS a0 a1 a2 a3 a4 a5 a6
                gi_wp2
                have hb56 : Below wo.heap.size wo w6 := hlow5.drew.trans (hb6.mono hlow5.size)
                have hb46 : Below w4.heap.size w4 w6 := hlow35.drew.trans (hb6.mono hlow35.size)
                have hI6 := (hI4.below hb46).more hb46.size
                have hrd6 := (hrd5.drew.below hb6).more hb6.size
                have hd6 := (hb56.cell (p := bd.add i) (by rw [block_of_add]; omega)).trans hcb
                have he6 := (hb6.cell (p := bb.add k) (by rw [block_of_add]; show _ < w5.heap.size; have := hb5.size; have := hlow2.size; omega)).trans (show w5.drew.cell? (bb.add k) = _ from he5)
                have hs6 := hb56.size
                have hs62 : wk.heap.size ≤ w6.heap.size := Nat.le_trans hb5.size hb6.size
                have hs61 := hlow2.size
                clear hd5 he5 hcx hcb2 hca2
                gi_loopw [13] (fun y wj => ∃ j : Nat, y = .int .i64 j ∧ j ≤ l.length ∧ Below w6.heap.size w6 wj) (fun y _ => l.length - (intOf y).toNat)
                case atStart => exact ⟨0, rfl, Nat.zero_le _, Below.refl _ _⟩
                case round =>
                  obtain ⟨j, rfl, hj, hlj⟩ := hrel
                  by_cases hjn : j < l.length
                  · have hjn' : (j : Int) < (l.length : Int) := by omega
                    have hwj : IntKind.i64.wrap ((j : Int) + 1) = (j : Int) + 1 := by rw [IntKind.wrap_i64]; omega
                    obtain ⟨h1, h2⟩ := hlG l[j] (List.getElem_mem hjn)
                    obtain ⟨h3, h4⟩ := hp3 l[j] (List.getElem_mem hjn)
                    obtain ⟨a5, rfl, hba5, y0, y1⟩ := spot_at (hrd6.below hlj) hjn
                    generalize hPa : a5.add (j * 2) = Pa at hba5 y0 y1
                    generalize l[j] = t at h1 h2 h3 h4 y0 y1
                    obtain ⟨t1, t2⟩ := t
                    simp only at h1 h2 y0 y1
                    have hdj := (hlj.cell (p := bd.add i) (by rw [block_of_add]; omega)).trans hd6
                    have hej := (hlj.cell (p := bb.add k) (by rw [block_of_add]; omega)).trans he6
                    obtain ⟨ad9, ai9, ci9, e9, hbl9, hca9, hrd9⟩ := (hI6.below hlj).at_ h1
                    injection e9 with e9
                    subst e9
                    obtain ⟨bb9, u9, rfl, hbb9, hu9, hc9⟩ := hrd9.at_ h2
                    rw [intRow_get h2] at hu9
                    injection hu9 with hu9
                    subst hu9
                    try simp only at hc9
                    generalize ((cl N cp (t1, t2) : Nat) : Int) = y at hc9 h3 h4
                    have h1' : (t1 : Int) < (rows.length : Int) := by omega
                    have h2' : (t2 : Int) < (lenF rows t1 : Int) := by omega
                    generalize lenF rows t1 = l9 at h2 h2' hca9 hrd9
                    gi_wp2
                    have hS : (CellsL [(Pa, .int .i64 t1), (⟨Pa.block, Pa.off + 1, none⟩, .int .i64 t2), (bd.add t1, .slice (some bb9) l9 ci9), (bb9.add t2, .int .i64 y)]) (wr.drew) := ⟨y0, y1, hca9, hc9, trivial⟩
                    refine wpIn_region_ord [(0, true), (1, true), (2, true), (3, true), (4, true), (5, true), (6, true), (7, true), (8, true), (9, true), (10, true), (11, true), (12, true), (13, true), (14, true)] (CellsL [(Pa, .int .i64 t1), (⟨Pa.block, Pa.off + 1, none⟩, .int .i64 t2), (bd.add t1, .slice (some bb9) l9 ci9), (bb9.add t2, .int .i64 y)]) (fun _ => trivial) rfl (by first | exact then_put rfl | (intro c d v a w h; cases d <;> exact h)) (by kernel_rfl) ?_
                    simp only [List.length_cons, List.length_nil, Nat.reduceAdd, List.drop_succ_cons, List.drop_zero]
                    iterate 15 (apply wpOrd_quiet rfl hS rfl; (intro w' hw'; obtain ⟨q0, q1, q2, q3, _⟩ := hw'; go_simp; exact rfl); go_simp)
                    refine wpOrd_nil ?_
                    clear hS y0 y1 hca9 hc9
                    have hdj' : wr.drew.cell? (bd.add i) = some (.slice (some bb) lc di) := hdj
                    have hej' : wr.drew.cell? (bb.add k) = some (.int .i64 x) := hej
                    clear hdj hej
                    gi_wp2
                    go_roundw
                    case rel => exact ⟨j + 1, by go_num, by omega, hlj.drew⟩
                    case measure => simp [intOf]; omega
                  · obtain rfl : j = l.length := by omega
                    gi_wp2
                    go_roundw
                    case rel => exact ⟨k + 1, by go_num, by omega, hb56.trans (hlj.mono hb56.size)⟩
                    case measure => simp [intOf]; omega
            · obtain rfl : k = lc := by omega
              gi_wp2
              go_roundw
              case rel => exact ⟨i + 1, by go_num, by omega, hlow3⟩
              case measure => simp [intOf]; omega
        · obtain rfl : i = rows.length := by omega
          gi_wp2
          refine ⟨trivial, (callsIn_wide.2 (hwk _)).mono ?_⟩
          rintro en w5 ⟨rfl, hb5⟩
          gi_wp2
          go_ret
          exact ⟨rfl, hb04.trans ((hlow.trans (hb5.mono hlow.size)).mono hb04.size)⟩
    · have hf1 := fbuild_no a b c d e f g X Z W D rows A cap w1 ((hr.below hb01).more hb01.size) hl ho
      obtain ⟨er, her, hne⟩ : ∃ er : Int, (if checkF a b c d e f g = 0 then 2 else 20 : Int) = er ∧ er ≠ 0 := ⟨_, rfl, by split <;> decide⟩
      rw [her] at hf1
      unfold cfgv at hf1
      refine ⟨trivial, (callsIn_wide.2 hf1).mono ?_⟩
      rintro en w2 ⟨rfl, hb2⟩
      clear q0 q1 q2 q3 q4 q5 q6 g0 g1 g2 g3 g4 hf1
      have hb02 := hb01.trans (hb2.mono hb01.size)
      have m0 := (hb2.block _ (lt_of_block p0)).trans p0
      have m1 := (hb2.block _ (lt_of_block p1)).trans p1
      obtain ⟨q0, q1, q2, q3, q4, q5, q6⟩ := box7 m0
      obtain ⟨g0, g1, g2, g3, g4⟩ := box5 m1
      gi_wp2
      have hf2 := rbuild_no a b c d e f g X Z W D rows A cap w2 ((hr.below hb02).more hb02.size) hl ho
      rw [her] at hf2
      unfold cfgv gridv at hf2
      refine ⟨trivial, (callsIn_wide.2 hf2).mono ?_⟩
      rintro en w3 ⟨rfl, hb3⟩
      clear q0 q1 q2 q3 q4 q5 q6 g0 g1 g2 g3 g4 hf2
      have hb03 := hb02.trans (hb3.mono hb02.size)
      have n1 := (hb3.block _ (lt_of_block m1)).trans m1
      have hne' : (er == 0) = false := by simpa using hne
      have hne1 : (er != er) = false := by simp
      clear her ho
      gi_wp2_with (refine wpListIn_off rfl ?_)
      gi_loopw [9] (fun x wr => x = .int .i64 0 ∧ Below w3.heap.size w3 wr) (fun _ _ => 0)
      case atStart => exact ⟨rfl, Below.refl _ _⟩
      case round =>
        obtain ⟨rfl, hlow⟩ := hrel
        obtain ⟨g0, g1, g2, g3, g4⟩ := box5 ((hlow.block _ (lt_of_block n1)).trans n1)
        rcases Nat.eq_zero_or_pos rows.length with h0 | h0
        · rw [h0] at g4
          gi_wp2
          refine ⟨trivial, (callsIn_wide.2 (hwk _)).mono ?_⟩
          rintro en w5 ⟨rfl, hb5⟩
          gi_wp2
          go_ret
          exact ⟨rfl, hb03.trans ((hlow.trans (hb5.mono hlow.size)).mono hb03.size)⟩
        · have h0' : (0 : Int) < (rows.length : Int) := by omega
          gi_wp2
          refine ⟨trivial, (callsIn_wide.2 (hwk _)).mono ?_⟩
          rintro en w5 ⟨rfl, hb5⟩
          gi_wp2
          go_ret
          exact ⟨rfl, hb03.trans ((hlow.trans (hb5.mono hlow.size)).mono hb03.size)⟩
theorem fieldSteps_calls (a b c d e f g X Z W D : Int) (rows : List (List V3)) (A : Option Addr) (cap : Nat) (w : World) (hr : RowsAt w w.heap.size A rows) (hl : lensOk rows) :
    Calls Try.prog 4 #[.agg #[.int .i64 a, .int .i64 b, .int .i64 c, .int .i64 d, .int .i64 e, .int .i64 f, .int .i64 g], .agg #[.int .i64 X, .int .i64 Z, .int .i64 W, .int .i64 D, .slice A rows.length cap]] w fun en w' => en = .returned (.bool true) ∧ Below w.heap.size w w' :=
  fsteps_any a b c d e f g X Z W D rows A cap w hr hl
end Go.Proofs.Ytcdfojfafnecdaa
