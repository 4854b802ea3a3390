/- (links.model).to by a walk: where a floor leads. The grid may be; the place is not far off. -/
import Derived.Test.YtcdfojfafnecdaaMf
import Derived.Deep.RegionHeld3
namespace Go.Proofs.Ytcdfojfafnecdaa
open Go Go.RowKit Go.Sx
/-- What is told of a place, or of none. -/
def OptRet (e : Ending) : Option Nat → Prop
  | some n => e = .returned (.tuple #[.int .i64 n, .bool true])
  | none => e = .returned (.tuple #[.int .i64 0, .bool false])
theorem modb (a b c d e f g : Int) (p : Value) (w : World) (t : TypeId) : CfgB w.heap.size a b c d e f g (w.alloc (.cells #[.int .i64 a, .int .i64 b, .int .i64 c, .int .i64 d, .int .i64 e, .int .i64 f, .int .i64 g, p] t)) ∧ (w.alloc (.cells #[.int .i64 a, .int .i64 b, .int .i64 c, .int .i64 d, .int .i64 e, .int .i64 f, .int .i64 g, p] t)).cell? ⟨w.heap.size, 7, none⟩ = some p := by
  refine ⟨⟨?_, ?_, ?_, ?_, ?_, ?_, ?_⟩, ?_⟩ <;> exact World.cell?_alloc_at _ _ _ _ rfl
def S13 (B0 : Nat) (a b c d e f g : Int) (P : Addr) (fx fy fz : Int) (Bf : Nat) (gx gy gz : Int) (N : Nat) (w0 w : World) : Prop :=
  w.cell? ⟨B0, 0, none⟩ = some (.int .i64 a) ∧ w.cell? ⟨B0, 1, none⟩ = some (.int .i64 b) ∧ w.cell? ⟨B0, 2, none⟩ = some (.int .i64 c) ∧ w.cell? ⟨B0, 3, none⟩ = some (.int .i64 d) ∧ w.cell? ⟨B0, 4, none⟩ = some (.int .i64 e) ∧ w.cell? ⟨B0, 5, none⟩ = some (.int .i64 f) ∧ w.cell? ⟨B0, 6, none⟩ = some (.int .i64 g) ∧ w.cell? P = some (.int .i64 fx) ∧ w.cell? ⟨P.block, P.off + 1, none⟩ = some (.int .i64 fy) ∧ w.cell? ⟨P.block, P.off + 2, none⟩ = some (.int .i64 fz) ∧ w.cell? ⟨Bf, 0, none⟩ = some (.int .i64 gx) ∧ w.cell? ⟨Bf, 1, none⟩ = some (.int .i64 gy) ∧ w.cell? ⟨Bf, 2, none⟩ = some (.int .i64 gz) ∧ (Below N w0 w ∧ B0 < w.heap.size ∧ P.block < w.heap.size ∧ Bf < w.heap.size ∧ N ≤ w.heap.size)
theorem S13.keep {B0 : Nat} {a b c d e f g : Int} {P : Addr} {fx fy fz : Int} {Bf : Nat} {gx gy gz : Int} {N : Nat} {w0 w w' : World} (h : S13 B0 a b c d e f g P fx fy fz Bf gx gy gz N w0 w) (hb : Below w.heap.size w w') : S13 B0 a b c d e f g P fx fy fz Bf gx gy gz N w0 w' := by
  obtain ⟨h0, h1, h2, h3, h4, h5, h6, h7, h8, h9, h10, h11, h12, hB, z0, z1, z2, z3⟩ := h
  have e0 : ∀ q, w'.cell? ⟨B0, q, none⟩ = w.cell? ⟨B0, q, none⟩ := fun q => hb.cell (by exact z0)
  have e1 : ∀ q, w'.cell? ⟨P.block, q, none⟩ = w.cell? ⟨P.block, q, none⟩ := fun q => hb.cell (by exact z1)
  have e2 : w'.cell? P = w.cell? P := hb.cell z1
  have e3 : ∀ q, w'.cell? ⟨Bf, q, none⟩ = w.cell? ⟨Bf, q, none⟩ := fun q => hb.cell (by exact z2)
  exact ⟨(e0 _).trans h0, (e0 _).trans h1, (e0 _).trans h2, (e0 _).trans h3, (e0 _).trans h4, (e0 _).trans h5, (e0 _).trans h6, e2.trans h7, (e1 _).trans h8, (e1 _).trans h9, (e3 _).trans h10, (e3 _).trans h11, (e3 _).trans h12, hB.trans (hb.mono z3), Nat.lt_of_lt_of_le z0 hb.size, Nat.lt_of_lt_of_le z1 hb.size, Nat.lt_of_lt_of_le z2 hb.size, Nat.le_trans z3 hb.size⟩
set_option maxHeartbeats 2000000 in
set_option maxRecDepth 100000 in
theorem to_any (a b c d e f g : Int) (B : Nat) (X Z W D x z k dir : Int) (rows : List (List V3)) (A : Option Addr) (cap : Nat) (w : World) (hg : GAt B X Z W D A rows.length cap w) (hr : RowsAt w w.heap.size A rows) (ho : gridOk X Z W D rows) (hx : -900 ≤ x ∧ x ≤ 900) (hz : -900 ≤ z ∧ z ≤ 900) :
    Calls Try.prog 40 #[modv a b c d e f g B, .int .i64 x, .int .i64 z, .int .i64 k, .int .i64 dir] w fun en w' =>
      OptRet en (toF (lkF a b c d e f g) (colOf X Z W D rows) x z k dir) ∧ Below w.heap.size w w' := by
  have hat := fun (W' : World) (hb : Below w.heap.size w W') (px pz : Int) (h1 : -1000 ≤ px ∧ px ≤ 1000) (h2 : -1000 ≤ pz ∧ pz ≤ 1000) => at_any a b c d e f g B X Z W D px pz rows A cap W' (hg.below hb hg.lt) ((hr.below hb).more hb.size) ho h1 h2
  obtain ⟨hc0, hp0⟩ := modb a b c d e f g (.pointer (some ⟨B, 0, none⟩)) w 83
  have hlt : ∀ o : Obj, Below w.heap.size w (w.alloc o) := fun o => (Below.refl _ _).alloc (Nat.le_refl _) _
  have hst := fun w => step_any dir w
  generalize hr1 : colOf X Z W D rows x z = r1
  have ht : toF (lkF a b c d e f g) (colOf X Z W D rows) x z k dir = (match stepD dir with
    | none => none
    | some (dx, dz) => if k < 0 then none else match r1[k.toNat]? with
      | none => none
      | some fl => firstF (fun q => lkF a b c d e f g fl q) (colOf X Z W D rows (x + dx) (z + dz)) 0) := by
    unfold toF
    rw [hr1]
    cases stepD dir with
    | none => rfl
    | some p => rfl
  have hat1 := fun W' hb => hat W' hb x z (by omega) (by omega)
  rw [hr1] at hat1
  obtain ⟨W0, hW0⟩ : ∃ W0, w.alloc (.cells #[.int .i64 a, .int .i64 b, .int .i64 c, .int .i64 d, .int .i64 e, .int .i64 f, .int .i64 g, .pointer (some ⟨B, 0, none⟩)] 83) = W0 := ⟨_, rfl⟩
  have hb0 : Below w.heap.size w W0 := by rw [← hW0]; exact hlt _
  have hs0 : w.heap.size < W0.heap.size := by rw [← hW0]; simp
  rw [hW0] at hc0 hp0
  unfold modv at hat hat1 ⊢
  cases hd : stepD dir with
  | none =>
    rw [hd] at hst ht
    rw [ht]
    go_enter Try.func40, Try.ntmps40
    obtain ⟨q0, q1, q2, q3, q4, q5, q6⟩ := id hc0
    go_wp2_with (first
      | (go_at_call 49; refine (hat1 _ hb0).mono ?_; rintro en w1 ⟨A1, c1, rfl, hrd1, hb1⟩)
      | (go_at_call 50; refine (hst _).mono ?_; rintro en w2 ⟨rfl, hb2⟩))
    refine bodyPost_ret (results_tmp2 rfl _ _ _) rfl ?_
    exact ⟨rfl, hb0.trans ((hb1.trans (hb2.mono hb1.size)).mono hb0.size)⟩
  | some p =>
    obtain ⟨dx, dz⟩ := p
    obtain ⟨_, _, _, s1, s2, s3, s4⟩ := stepD_opp hd
    rw [hd] at hst ht
    simp only at hst ht
    obtain ⟨e1, e1'⟩ := w64e (n := x + dx) (by omega) (by omega)
    obtain ⟨e2, e2'⟩ := w64e (n := z + dz) (by omega) (by omega)
    by_cases hk0 : k < 0
    · rw [if_pos hk0] at ht
      rw [ht]
      go_enter Try.func40, Try.ntmps40
      obtain ⟨q0, q1, q2, q3, q4, q5, q6⟩ := id hc0
      go_wp2_with (first
        | (go_at_call 49; refine (hat1 _ hb0).mono ?_; rintro en w1 ⟨A1, c1, rfl, hrd1, hb1⟩)
        | (go_at_call 50; refine (hst _).mono ?_; rintro en w2 ⟨rfl, hb2⟩))
      refine bodyPost_ret (results_tmp2 rfl _ _ _) rfl ?_
      exact ⟨rfl, hb0.trans ((hb1.trans (hb2.mono hb1.size)).mono hb0.size)⟩
    rw [if_neg hk0] at ht
    have qk0 : decide (k < 0) = false := decide_eq_false hk0
    by_cases hkl : (r1.length : Int) ≤ k
    · rw [List.getElem?_eq_none (by omega)] at ht
      simp only at ht
      rw [ht]
      go_enter Try.func40, Try.ntmps40
      obtain ⟨q0, q1, q2, q3, q4, q5, q6⟩ := id hc0
      go_wp2_with (first
        | (go_at_call 49; refine (hat1 _ hb0).mono ?_; rintro en w1 ⟨A1, c1, rfl, hrd1, hb1⟩)
        | (go_at_call 50; refine (hst _).mono ?_; rintro en w2 ⟨rfl, hb2⟩))
      refine bodyPost_ret (results_tmp2 rfl _ _ _) rfl ?_
      exact ⟨rfl, hb0.trans ((hb1.trans (hb2.mono hb1.size)).mono hb0.size)⟩
    obtain ⟨kn, rfl⟩ : ∃ kn : Nat, k = kn := ⟨k.toNat, by omega⟩
    have hkn : kn < r1.length := by omega
    have hkn' : (kn : Int) < (r1.length : Int) := by omega
    rw [Int.toNat_natCast, List.getElem?_eq_getElem hkn] at ht
    simp only at ht
    have hat2 := fun W' hb => hat W' hb (x + dx) (z + dz) (by omega) (by omega)
    generalize hr2 : colOf X Z W D rows (x + dx) (z + dz) = r2 at hat2 ht
    have hqk : decide ((r1.length : Int) ≤ (kn : Int)) = false := decide_eq_false hkl
    obtain ⟨⟨fx, fy, fz⟩, hfl⟩ : ∃ fl, r1[kn] = fl := ⟨_, rfl⟩
    rw [hfl] at ht
    obtain ⟨res, hres⟩ : ∃ res, firstF (fun q => lkF a b c d e f g ⟨fx, fy, fz⟩ q) r2 0 = res := ⟨_, rfl⟩
    rw [ht, hres]
    have hl2 : r2.length ≤ 8 := by rw [← hr2]; exact (colOf_ok ho _ _).2
    go_enter Try.func40, Try.ntmps40
    obtain ⟨q0, q1, q2, q3, q4, q5, q6⟩ := id hc0
    go_wp2_with (first
      | (go_at_call 49; first | (refine (hat1 _ hb0).mono ?_; rintro en w1 ⟨A1, c1, rfl, hrd1, hb1⟩; have hb01 := hb0.trans (hb1.mono hb0.size); clear hat1) | (refine (hat2 _ hb02).mono ?_; rintro en w3 ⟨A3, c3, rfl, hrd3, hb3⟩; have hb03 := hb02.trans (hb3.mono hb02.size)))
      | (go_at_call 50; refine (hst _).mono ?_; rintro en w2 ⟨rfl, hb2⟩; have hb02 := hb01.trans (hb2.mono hb01.size); obtain ⟨s0, s1', s2', s3', s4', s5, s6⟩ := CfgB.below hc0 (hb1.trans (hb2.mono hb1.size)) hs0; have sp := ((hb1.trans (hb2.mono hb1.size)).cell (p := ⟨w.heap.size, 7, none⟩) hs0).trans hp0))
    have hrd13 := (hrd1.below (hb2.trans (hb3.mono hb2.size))).more (Nat.le_trans hb2.size hb3.size)
    have hc3 := CfgB.below hc0 (hb1.trans ((hb2.trans (hb3.mono hb2.size)).mono hb1.size)) hs0
    have hs3 : w.heap.size < w3.heap.size := Nat.lt_of_lt_of_le hs0 (Nat.le_trans hb1.size (Nat.le_trans hb2.size hb3.size))
    obtain ⟨ad1, rfl, hbl1, x0, x1, x2⟩ := v3_at hrd13 hkn
    generalize hP1 : ad1.add (kn * 3) = P1 at hbl1 x0 x1 x2
    rw [hfl] at x0 x1 x2
    dsimp only at x0 x1 x2
    have hli := fun (q : V3) (w' : World) => linked_any a b c d e f g ⟨fx, fy, fz⟩ q w'
    unfold cfgv at hli
    dsimp only at hli
    clear hat2 hst hrd1 hW0 hp0 ht
    go_loopw [49] (fun x wr => ∃ i : Nat, x = .int .i64 i ∧ i ≤ r2.length ∧ res = firstF (fun q => lkF a b c d e f g ⟨fx, fy, fz⟩ q) (r2.drop i) i ∧ Below w3.heap.size w3 wr)
      (fun x _ => r2.length - (intOf x).toNat)
    case atStart => exact ⟨0, rfl, Nat.zero_le _, hres.symm, Below.refl _ _⟩
    case round =>
      obtain ⟨i, rfl, hi, hfi, hb⟩ := hrel
      by_cases hin : i < r2.length
      · obtain ⟨ad3, rfl, hbl3, y0, y1, y2⟩ := v3_at (hrd3.below hb) hin
        generalize hP3 : ad3.add (i * 3) = P3 at hbl3 y0 y1 y2
        rw [List.drop_eq_getElem_cons hin, firstF] at hfi
        generalize r2[i] = gl at hfi y0 y1 y2
        obtain ⟨gx, gy, gz⟩ := gl
        dsimp only at y0 y1 y2
        have hin' : (i : Int) < (r2.length : Int) := by omega
        have hlg := hli ⟨gx, gy, gz⟩
        dsimp only at hlg
        generalize lkF a b c d e f g ⟨fx, fy, fz⟩ ⟨gx, gy, gz⟩ = lb at hfi hlg
        obtain ⟨t0, t1, t2, t3, t4, t5, t6⟩ := CfgB.below hc3 hb hs3
        have X0 := (hb.cell hbl1).trans x0
        have X1 := (hb.cell (p := ⟨P1.block, P1.off + 1, none⟩) hbl1).trans x1
        have X2 := (hb.cell (p := ⟨P1.block, P1.off + 2, none⟩) hbl1).trans x2
        have hsz := hb.size
        obtain ⟨Wf, hWf⟩ : ∃ Wf, wr.alloc (.cells #[.int .i64 gx, .int .i64 gy, .int .i64 gz] 54) = Wf := ⟨_, rfl⟩
        have hS : S13 w.heap.size a b c d e f g P1 fx fy fz wr.heap.size gx gy gz w3.heap.size w3 Wf := by
          have hba : Below wr.heap.size wr Wf := by rw [← hWf]; exact (Below.refl _ _).alloc (Nat.le_refl _) _
          have hz : wr.heap.size < Wf.heap.size := by rw [← hWf]; simp
          have n0 : Wf.cell? ⟨wr.heap.size, 0, none⟩ = some (.int .i64 gx) := by rw [← hWf]; exact World.cell?_alloc_at _ _ _ _ rfl
          have n1 : Wf.cell? ⟨wr.heap.size, 1, none⟩ = some (.int .i64 gy) := by rw [← hWf]; exact World.cell?_alloc_at _ _ _ _ rfl
          have n2 : Wf.cell? ⟨wr.heap.size, 2, none⟩ = some (.int .i64 gz) := by rw [← hWf]; exact World.cell?_alloc_at _ _ _ _ rfl
          have b0 : w.heap.size < wr.heap.size := by omega
          have b1 : P1.block < wr.heap.size := by omega
          obtain ⟨T0, T1, T2, T3, T4, T5, T6⟩ := CfgB.below ⟨t0, t1, t2, t3, t4, t5, t6⟩ hba b0
          exact ⟨T0, T1, T2, T3, T4, T5, T6, (hba.cell b1).trans X0, (hba.cell (p := ⟨P1.block, P1.off + 1, none⟩) b1).trans X1, (hba.cell (p := ⟨P1.block, P1.off + 2, none⟩) b1).trans X2, n0, n1, n2, hb.trans (hba.mono hsz), by omega, by omega, hz, by omega⟩
        go_wp2
        go_region_held3 (fun w' => w'.cell? ⟨w.heap.size, 0, none⟩ = some (.int .i64 a) ∧ w'.cell? ⟨w.heap.size, 1, none⟩ = some (.int .i64 b) ∧ w'.cell? ⟨w.heap.size, 2, none⟩ = some (.int .i64 c) ∧ w'.cell? ⟨w.heap.size, 3, none⟩ = some (.int .i64 d) ∧ w'.cell? ⟨w.heap.size, 4, none⟩ = some (.int .i64 e) ∧ w'.cell? ⟨w.heap.size, 5, none⟩ = some (.int .i64 f) ∧ w'.cell? ⟨w.heap.size, 6, none⟩ = some (.int .i64 g) ∧ w'.cell? P1 = some (.int .i64 fx) ∧ w'.cell? ⟨P1.block, P1.off + 1, none⟩ = some (.int .i64 fy) ∧ w'.cell? ⟨P1.block, P1.off + 2, none⟩ = some (.int .i64 fz) ∧ w'.cell? ⟨wr.heap.size, 0, none⟩ = some (.int .i64 gx) ∧ w'.cell? ⟨wr.heap.size, 1, none⟩ = some (.int .i64 gy) ∧ w'.cell? ⟨wr.heap.size, 2, none⟩ = some (.int .i64 gz) ∧ (Below w3.heap.size w3 w' ∧ w.heap.size < w'.heap.size ∧ P1.block < w'.heap.size ∧ wr.heap.size < w'.heap.size ∧ w3.heap.size ≤ w'.heap.size))
          (first | exact hS | exact S13.keep hS ((Below.refl _ _).drew) | exact S13.keep (by assumption) (by assumption))
          (first | (go_at_call 21; refine (hlg _).mono ?_; rintro en w5 ⟨rfl, hb5⟩))
        have hS5 : S13 w.heap.size a b c d e f g P1 fx fy fz wr.heap.size gx gy gz w3.heap.size w3 w5 := by assumption
        have hbw5 : Below w3.heap.size w3 w5 := hS5.2.2.2.2.2.2.2.2.2.2.2.2.2.1
        cases lb with
        | true =>
          have hre : res = some i := by simpa using hfi
          clear hfi hres
          subst hre
          go_wp2
          refine bodyPost_ret (results_tmp2 rfl _ _ _) rfl ?_
          exact ⟨rfl, hb03.trans (hbw5.mono hb03.size)⟩
        | false =>
          have hre : res = firstF (fun q => lkF a b c d e f g ⟨fx, fy, fz⟩ q) (r2.drop (i + 1)) (i + 1) := by simpa using hfi
          clear hfi hres
          have hre := Lib.hid hre
          go_wp2
          go_roundw
          case rel => exact ⟨i + 1, by go_num, by omega, hre.out, hbw5⟩
          case measure => show r2.length - ((i : Int) + 1).toNat < r2.length - ((i : Int)).toNat; omega
      · have hie : i = r2.length := by omega
        subst hie
        rw [List.drop_length] at hfi
        have hfn : res = none := hfi
        subst hfn
        go_wp2
        refine bodyPost_ret (results_tmp2 rfl _ _ _) rfl ?_
        exact ⟨rfl, hb03.trans (hb.mono hb03.size)⟩
end Go.Proofs.Ytcdfojfafnecdaa
