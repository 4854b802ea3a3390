/- footpathref11.Check by a walk: it tells what open.Check tells. No conditions but that the grid lies where it is said to lie. -/
import Derived.Test.YtcdfojfafnecdaaMg
namespace Go.Proofs.Ytcdfojfafnecdaa
open Go Go.RowKit Go.Sx
def gridv (X Z W D : Int) (A : Option Addr) (n cap : Nat) : Value := .agg #[.int .i64 X, .int .i64 Z, .int .i64 W, .int .i64 D, .slice A n cap]
def NotOk (p : Prop) : Prop := ¬ p
theorem floor_bad {r : List V3} {k : Nat} {f : V3} (hf : r[k]? = some f) (h : f.x < -2048 ∨ 2048 < f.x ∨ f.y ≤ f.x ∨ 1048576 < f.y ∨ f.z < 0 ∨ 7 < f.z ∨ (∃ q, r[k - 1]? = some q ∧ 0 < k ∧ f.x < q.y)) : ¬ rowOk r := by
  intro hr
  have h1 := hr.1 k f hf
  have h2 := rowOk_low hr hf
  unfold floorOk at h1
  rcases h with h | h | h | h | h | h | ⟨q, hq, hk, h⟩
  · omega
  · omega
  · omega
  · omega
  · omega
  · omega
  · have h3 := rowOk_sorted hr (by omega : k - 1 < k) hq hf
    omega
theorem step_floors {r : List V3} {k : Nat} {f : V3} (h : ∀ j (f : V3), j < k → r[j]? = some f → floorOk (lastOf r j) f) (hf : r[k]? = some f) (ho : floorOk (lastOf r k) f) :
    ∀ j (f : V3), j < k + 1 → r[j]? = some f → floorOk (lastOf r j) f := by
  intro j g hj hg
  by_cases hjk : j < k
  · exact h j g hjk hg
  · obtain rfl : j = k := by omega
    rw [hf] at hg
    injection hg with hg
    subst hg; exact ho
theorem box3 {B : Nat} {x y z : Int} {wr Wf : World} {t : TypeId} (h : wr.alloc (.cells #[.int .i64 x, .int .i64 y, .int .i64 z] t) = Wf) (hB : wr.heap.size = B) : Wf.cell? ⟨B, 0, none⟩ = some (.int .i64 x) ∧ Wf.cell? ⟨B, 1, none⟩ = some (.int .i64 y) ∧ Wf.cell? ⟨B, 2, none⟩ = some (.int .i64 z) := by
  subst hB
  subst h
  exact ⟨World.cell?_alloc_at _ _ _ _ rfl, World.cell?_alloc_at _ _ _ _ rfl, World.cell?_alloc_at _ _ _ _ rfl⟩
set_option maxHeartbeats 4000000 in
set_option maxRecDepth 100000 in
theorem rcheck_any (X Z W D : Int) (rows : List (List V3)) (A : Option Addr) (cap : Nat) (w : World) (hr : RowsAt w w.heap.size A rows) (hl : lensOk rows) :
    Calls Try.prog 18 #[gridv X Z W D A rows.length cap] w fun e w' => ErrIff e (gridOk X Z W D rows) ∧ Below w.heap.size w w' := by
  have hl1 := hl.1
  obtain ⟨W0, hW0⟩ : ∃ W0, w.alloc (.cells #[.int .i64 X, .int .i64 Z, .int .i64 W, .int .i64 D, .slice A rows.length cap] 26) = W0 := ⟨_, rfl⟩
  have hg0 : GAt w.heap.size X Z W D A rows.length cap W0 := by rw [← hW0]; exact GAt.new X Z W D A rows.length cap w 26
  have hb0 : Below w.heap.size w W0 := by rw [← hW0]; exact (Below.refl _ _).alloc (Nat.le_refl _) _
  obtain ⟨g0, g1, g2, g3, g4, g5⟩ := id hg0
  unfold gridv
  by_cases hWD : 0 ≤ W ∧ W ≤ 64 ∧ 0 ≤ D ∧ D ≤ 64
  · have hmul : 0 ≤ W * D ∧ W * D ≤ 64 * 64 := ⟨Int.mul_nonneg hWD.1 hWD.2.2.1, Int.mul_le_mul hWD.2.1 hWD.2.2.2 hWD.2.2.1 (by omega)⟩
    obtain ⟨wr1, wr2⟩ := w64e (n := W * D) (by omega) (by omega)
    by_cases hXZ : -64 ≤ X ∧ X ≤ 64 ∧ -64 ≤ Z ∧ Z ≤ 64
    · by_cases hlen : (rows.length : Int) = W * D
      · have hq : ((rows.length : Int) != W * D) = false := by simp [hlen]
        obtain ⟨x1, x2, z1, z2⟩ := hXZ
        obtain ⟨w1, w2, d1, d2⟩ := hWD
        have hno : (∃ r ∈ rows, ¬ rowOk r) → NotOk (gridOk X Z W D rows) := fun ⟨r, hm, hro⟩ h => hro (h.2.2.2.2.2.2.2.2.2 r hm)
        have hyes : (∀ j (r : List V3), j < rows.length → rows[j]? = some r → rowOk r) → gridOk X Z W D rows := fun h => ⟨x1, x2, z1, z2, w1, w2, d1, d2, hlen, fun r hm => by
          obtain ⟨j, hj⟩ := List.getElem?_of_mem hm
          exact h j r (List.getElem?_eq_some_iff.1 hj).1 hj⟩
        go_enter Try.func18, Try.ntmps18
        go_wp2
        clear hlen hq wr1 wr2 hmul
        go_loopw [3] (fun x wr => ∃ i : Nat, x = .int .i64 i ∧ i ≤ rows.length ∧ (∀ j (r : List V3), j < i → rows[j]? = some r → rowOk r) ∧ Below W0.heap.size W0 wr)
          (fun x _ => rows.length - (intOf x).toNat)
        case atStart => exact ⟨0, rfl, Nat.zero_le _, fun j r hj => by omega, Below.refl _ _⟩
        case round =>
          obtain ⟨i, rfl, hi, hall, hb⟩ := hrel
          obtain ⟨wo, hwo⟩ : ∃ wo, wo = wr := ⟨_, rfl⟩
          subst hwo
          have hbw : Below w.heap.size w wo := hb0.trans (hb.mono hb0.size)
          obtain ⟨G0, G1, G2, G3, G4, G5⟩ := hg0.below hb g5
          by_cases hin : i < rows.length
          · obtain ⟨ad, Ai, ci, rfl, hbl, hc, hrr⟩ := (hr.below hbw).at_ hin
            have hf : rows[i]? = some rows[i] := List.getElem?_eq_getElem hin
            have hlr := hl.2 _ (List.getElem_mem hin)
            generalize rows[i] = r at hf hc hrr hlr
            have hin' : (i : Int) < (rows.length : Int) := by omega
            have hmem := List.mem_of_getElem? hf
            by_cases h8 : 8 < r.length
            · have h8' : decide ((8 : Int) < (r.length : Int)) = true := decide_eq_true (by omega)
              have h8'' : (8 : Int) < (r.length : Int) := by omega
              have hbad : NotOk (gridOk X Z W D rows) := hno ⟨r, hmem, fun ho => by have := ho.2; omega⟩
              go_wp2
              go_ret
              exact ⟨⟨2, rfl, ⟨fun h => by simp at h, fun h => absurd h hbad⟩⟩, hbw⟩
            · have h8' : decide ((8 : Int) < (r.length : Int)) = false := decide_eq_false (by omega)
              have h8'' : (r.length : Int) ≤ (8 : Int) := by omega
              go_wp2
              have hstep := Lib.hid (fun (hro : rowOk r) j (r' : List V3) (hj : j < i + 1) (hjr : rows[j]? = some r') => (show rowOk r' from by
                by_cases hji : j < i
                · exact hall j r' hji hjr
                · obtain rfl : j = i := by omega
                  rw [hf] at hjr
                  injection hjr with hjr
                  subst hjr; exact hro))
              clear hall hc hbl G0 G1 G2 G3 G4
              go_loopw [5] (fun x w2 => ∃ k : Nat, x = .int .i64 k ∧ k ≤ r.length ∧ (∀ j (f : V3), j < k → r[j]? = some f → floorOk (lastOf r j) f) ∧ Below wo.heap.size wo w2)
                (fun x _ => r.length - (intOf x).toNat)
              case atStart => exact ⟨0, rfl, Nat.zero_le _, fun j f hj => by omega, Below.refl _ _⟩
              case round =>
                obtain ⟨k, rfl, hk, hall2, hb2⟩ := hrel
                by_cases hkn : k < r.length
                · have hkn' : (k : Int) < (r.length : Int) := by omega
                  have hr2 := hrr.below (hb2.mono hbw.size)
                  have hfk : r[k]? = some r[k] := List.getElem?_eq_getElem hkn
                  obtain ⟨ad, rfl, hbl, y0, y1, y2⟩ := v3_at hr2 hkn
                  generalize hP1 : ad.add (k * 3) = P1 at hbl y0 y1 y2
                  generalize r[k] = f at hfk y0 y1 y2
                  obtain ⟨fx, fy, fz⟩ := f
                  dsimp only at y0 y1 y2
                  obtain ⟨Wf, hWf⟩ : ∃ Wf, wr.alloc (.cells #[.int .i64 fx, .int .i64 fy, .int .i64 fz] 54) = Wf := ⟨_, rfl⟩
                  obtain ⟨n0, n1, n2⟩ := box3 hWf rfl
                  have hba : Below wr.heap.size wr Wf := by rw [← hWf]; exact (Below.refl _ _).alloc (Nat.le_refl _) _
                  have hbf : Below wo.heap.size wo Wf := hb2.trans (hba.mono hb2.size)
                  have hbe : Below w.heap.size w Wf := hbw.trans (hbf.mono hbw.size)
                  have hsz := hb2.size
                  by_cases k0 : fx < -2048
                  · have q0 : decide (fx < -2048) = true := decide_eq_true k0
                    have hbad : NotOk (gridOk X Z W D rows) := hno ⟨r, hmem, floor_bad hfk (.inl k0)⟩
                    go_wp2
                    go_quiet (fail)
                    go_wp2
                    go_ret
                    exact ⟨⟨2, rfl, ⟨fun h => by simp at h, fun h => absurd h hbad⟩⟩, below_drewN hbe _⟩
                  have q0 : decide (fx < -2048) = false := decide_eq_false k0
                  by_cases k1 : 2048 < fx
                  · have q1 : decide (2048 < fx) = true := decide_eq_true k1
                    have hbad : NotOk (gridOk X Z W D rows) := hno ⟨r, hmem, floor_bad hfk (.inr (.inl k1))⟩
                    go_wp2
                    go_quiet (fail)
                    go_wp2
                    go_ret
                    exact ⟨⟨2, rfl, ⟨fun h => by simp at h, fun h => absurd h hbad⟩⟩, below_drewN hbe _⟩
                  have q1 : decide (2048 < fx) = false := decide_eq_false k1
                  by_cases k2 : fy ≤ fx
                  · have q2 : decide (fy ≤ fx) = true := decide_eq_true k2
                    have hbad : NotOk (gridOk X Z W D rows) := hno ⟨r, hmem, floor_bad hfk (.inr (.inr (.inl k2)))⟩
                    go_wp2
                    go_quiet (fail)
                    go_wp2
                    go_ret
                    exact ⟨⟨2, rfl, ⟨fun h => by simp at h, fun h => absurd h hbad⟩⟩, below_drewN hbe _⟩
                  have q2 : decide (fy ≤ fx) = false := decide_eq_false k2
                  by_cases k3 : 1048576 < fy
                  · have q3 : decide (1048576 < fy) = true := decide_eq_true k3
                    have hbad : NotOk (gridOk X Z W D rows) := hno ⟨r, hmem, floor_bad hfk (.inr (.inr (.inr (.inl k3))))⟩
                    go_wp2
                    go_quiet (fail)
                    go_wp2
                    go_ret
                    exact ⟨⟨2, rfl, ⟨fun h => by simp at h, fun h => absurd h hbad⟩⟩, below_drewN hbe _⟩
                  have q3 : decide (1048576 < fy) = false := decide_eq_false k3
                  by_cases k4 : fz < 0
                  · have q4 : decide (fz < 0) = true := decide_eq_true k4
                    have hbad : NotOk (gridOk X Z W D rows) := hno ⟨r, hmem, floor_bad hfk (.inr (.inr (.inr (.inr (.inl k4)))))⟩
                    go_wp2
                    go_quiet (fail)
                    go_wp2
                    go_ret
                    exact ⟨⟨2, rfl, ⟨fun h => by simp at h, fun h => absurd h hbad⟩⟩, below_drewN hbe _⟩
                  have q4 : decide (fz < 0) = false := decide_eq_false k4
                  by_cases k5 : 7 < fz
                  · have q5 : decide (7 < fz) = true := decide_eq_true k5
                    have hbad : NotOk (gridOk X Z W D rows) := hno ⟨r, hmem, floor_bad hfk (.inr (.inr (.inr (.inr (.inr (.inl k5))))))⟩
                    go_wp2
                    go_quiet (fail)
                    go_wp2
                    go_ret
                    exact ⟨⟨2, rfl, ⟨fun h => by simp at h, fun h => absurd h hbad⟩⟩, below_drewN hbe _⟩
                  have q5 : decide (7 < fz) = false := decide_eq_false k5
                  cases k with
                  | zero =>
                    have hfo : floorOk (lastOf r 0) ⟨fx, fy, fz⟩ := by unfold floorOk lastOf; simp; omega
                    have hne := Lib.hid (step_floors hall2 hfk hfo)
                    clear hall2
                    go_wp2
                    go_quiet (fail)
                    go_wp2
                    go_roundw
                    case rel => exact ⟨0 + 1, by go_num, by omega, hne.out, below_drewN hbf _⟩
                    case measure => show r.length - ((0 : Int) + 1).toNat < r.length - ((0 : Int)).toNat; omega
                  | succ k =>
                    have hk1 : k < r.length := by omega
                    have hpk : r[k]? = some r[k] := List.getElem?_eq_getElem hk1
                    obtain ⟨ad2, hA2, hbl2, z0, z1, z2⟩ := v3_at hr2 hk1
                    injection hA2 with hA2
                    subst hA2
                    generalize hP2 : ad.add (k * 3) = P2 at hbl2 z0 z1 z2
                    generalize r[k] = p at hpk z0 z1 z2
                    obtain ⟨px, py, pz⟩ := p
                    dsimp only at z0 z1 z2
                    have z1 := (hba.cell (p := ⟨P2.block, P2.off + 1, none⟩) (by show P2.block < _; omega)).trans z1
                    have hk0 : decide ((0 : Int) < ((k + 1 : Nat) : Int)) = true := decide_eq_true (by omega)
                    have hk00 : (0 : Int) < ((k + 1 : Nat) : Int) := by omega
                    have hkk : wrap64 (((k + 1 : Nat) : Int) - 1) = (k : Int) := by unfold wrap64; omega
                    have hkk2 : IntKind.i64.wrap (((k + 1 : Nat) : Int) - 1) = (k : Int) := by rw [IntKind.wrap_i64]; omega
                    have hkr : (k : Int) < (r.length : Int) := by omega
                    by_cases k6 : fx < py
                    · have q6 : decide (fx < py) = true := decide_eq_true k6
                      have hbad : NotOk (gridOk X Z W D rows) := hno ⟨r, hmem, floor_bad hfk (.inr (.inr (.inr (.inr (.inr (.inr ⟨_, hpk, by omega, k6⟩))))))⟩
                      go_wp2
                      go_quiet (fail)
                      go_wp2
                      go_ret
                      exact ⟨⟨2, rfl, ⟨fun h => by simp at h, fun h => absurd h hbad⟩⟩, below_drewN hbe _⟩
                    have q6 : decide (fx < py) = false := decide_eq_false k6
                    have hfo : floorOk (lastOf r (k + 1)) ⟨fx, fy, fz⟩ := by rw [lastOf_succ hpk]; unfold floorOk; dsimp only; omega
                    have hne := Lib.hid (step_floors hall2 hfk hfo)
                    clear hall2
                    go_wp2
                    go_quiet (fail)
                    go_wp2
                    go_roundw
                    case rel => exact ⟨k + 1 + 1, by go_num, by omega, hne.out, below_drewN hbf _⟩
                    case measure => show r.length - (((k + 1 : Nat) : Int) + 1).toNat < r.length - (((k + 1 : Nat) : Int)).toNat; omega
                · have hke : k = r.length := by omega
                  subst hke
                  have hro : rowOk r := ⟨fun j f hj => hall2 j f (List.getElem?_eq_some_iff.1 hj).1 hj, by omega⟩
                  have hne := Lib.hid (hstep.out hro)
                  clear hall2 hstep
                  go_wp2
                  go_roundw
                  case rel => exact ⟨i + 1, by go_num, by omega, hne.out, hb.trans (hb2.mono hb.size)⟩
                  case measure => show rows.length - ((i : Int) + 1).toNat < rows.length - ((i : Int)).toNat; omega
          · have hie : i = rows.length := by omega
            subst hie
            have hgo := hyes hall
            clear hall
            go_wp2
            go_ret
            exact ⟨⟨0, rfl, ⟨fun _ => hgo, fun _ => rfl⟩⟩, hbw⟩
      · have hbad : NotOk (gridOk X Z W D rows) := fun h => hlen h.2.2.2.2.2.2.2.2.1
        have hq : ((rows.length : Int) != W * D) = true := by simp [hlen]
        obtain ⟨x1, x2, z1, z2⟩ := hXZ
        obtain ⟨w1, w2, d1, d2⟩ := hWD
        go_enter Try.func18, Try.ntmps18
        go_wp2
        go_ret
        exact ⟨⟨2, rfl, ⟨fun h => by simp at h, fun h => absurd h hbad⟩⟩, hb0⟩
    · have hbad : NotOk (gridOk X Z W D rows) := fun h => hXZ ⟨h.1, h.2.1, h.2.2.1, h.2.2.2.1⟩
      obtain ⟨w1, w2, d1, d2⟩ := hWD
      have hXZ := Lib.hid hXZ
      go_enter Try.func18, Try.ntmps18
      go_wp2
      all_goals first
        | (go_ret; exact ⟨⟨2, rfl, ⟨fun h => by simp at h, fun h => absurd h hbad⟩⟩, hb0⟩)
        | (exfalso; have := hXZ.out; omega)
  · have hbad : NotOk (gridOk X Z W D rows) := fun h => hWD ⟨h.2.2.2.2.1, h.2.2.2.2.2.1, h.2.2.2.2.2.2.1, h.2.2.2.2.2.2.2.1⟩
    have hWD := Lib.hid hWD
    go_enter Try.func18, Try.ntmps18
    go_wp2
    all_goals first
      | (go_ret; exact ⟨⟨2, rfl, ⟨fun h => by simp at h, fun h => absurd h hbad⟩⟩, hb0⟩)
      | (exfalso; have := hWD.out; omega)
end Go.Proofs.Ytcdfojfafnecdaa
