/- footpathlaw06.goes by a walk: a range over bins.Each that collects, with a break. No conditions but that the row lies where it is said to lie. -/
import Derived.Test.YteneneadfpkahaaEb
namespace Go.Proofs.Yteneneadfpkahaa
open Go Go.RowKit Go.Sx Go.Shelf
attribute [local go_sem] Oper.semAt_some
theorem reads_pre {w : World} {B : Nat} {A : Option Addr} {pre L : List Int} (h : Reads w B 1 A L.length (ics L)) (hp : pre <+: L) : Reads w B 1 A pre.length (ics pre) := by
  obtain ⟨t, rfl⟩ := hp
  refine ⟨by simp [ics], fun h0 => ?_⟩
  obtain ⟨ad, rfl, hb, hc⟩ := h.2 (by simp; omega)
  refine ⟨ad, rfl, hb, fun j u hu => hc j u ?_⟩
  rw [ics_append, List.getElem?_append_left (List.getElem?_eq_some_iff.1 hu).1]
  exact hu
set_option maxRecDepth 100000 in
set_option maxHeartbeats 2000000 in
theorem goes_any (a b c d e f g x0 z0 x1 z1 leave : Int) (T : Int → Bool) (hT : T = fun i => touchF a b c d e f g i x0 z0 x1 z1) (N : Nat) (hN : countF a b c d e f g = N) (hN16 : N ≤ 16)
    (A : Option Addr) (cap : Nat) (w : World) (hcap : (hits T N).length ≤ cap) (hrd : Reads w w.heap.size 1 A (hits T N).length (ics (hits T N))) :
    Calls Try.prog 28 #[cfgv a b c d e f g, .int .i64 x0, .int .i64 z0, .int .i64 x1, .int .i64 z1, .slice A (hits T N).length cap, .int .i64 leave] w fun en w' => en = .returned (.bool true) ∧ Below w.heap.size w w' := by
  have hLN := hits_le T N
  generalize hL : hits T N = L at *
  have hmx : maxLen = 9223372036854775807 := rfl
  have he := fun w => each_any a b c d e f g x0 z0 x1 z1 w
  unfold cfgv at he ⊢
  obtain ⟨i0, hi, hz0, hz1, hz2⟩ := info_parts info3
  have hnf : ∀ (x : Array Value) (w : World), (binOp BinOp.eql 97 (Value.func (Fn.func 108) #[] x) Value.nilFunc).run Try.prog w = .ok (.bool false) w := fun _ _ => by kernel_rfl
  refine (callsIn_wide (n := 6)).1 ?_
  refine callsIn_of_wp_marks Try.func28 rfl trivial ?_ rfl
  simp only [Try.ntmps28, List.size_toArray, List.length_cons, List.length_nil, Nat.reduceAdd, Nat.reduceSub, Array.replicate_succ, Array.replicate_zero, List.push_toArray, List.append_toArray, List.nil_append, List.cons_append]
  gi_wp2_with (refine ⟨trivial, ?_⟩; gi_at_call 84; refine (callsIn_wide.2 (he _)).mono ?_; rintro en w1 ⟨rfl, hE1, hb1⟩)
  have hs8 : w.heap.size + 8 ≤ w1.heap.size := by have := hE1.lt; simp at this; omega
  have hwant : w1.cell? ⟨w.heap.size + 1, 0, none⟩ = some (.slice A L.length cap) := by
    rw [hb1.cell (by simp), World.cell?_alloc_past _ _ _ (by simp), World.cell?_alloc_at _ _ _ _ (by simp)]; rfl
  have hleave : w1.cell? ⟨w.heap.size + 1 + 1, 0, none⟩ = some (.int .i64 leave) := by
    rw [hb1.cell (by simp), World.cell?_alloc_at _ _ _ _ (by simp)]; rfl
  have hb0 : Below w.heap.size w w1 := (((Below.refl _ w).alloc (Nat.le_refl _) _).alloc (by simp) _).alloc (by simp <;> omega) _ |>.trans (hb1.mono (by simp <;> omega))
  have bG := Boxed.new w1 34 (.slice none 0 0)
  have hbW : Below w1.heap.size w1 (w1.alloc (.cells #[.slice none 0 0] 34)) := (Below.refl _ _).alloc (Nat.le_refl _) _
  clear hb1
  refine wpIn_rangeFunc_ownG rfl (by omega) (gf := 108) rfl trivial (enters_of Try.func108 (by kernel_rfl) rfl)
    (each_stops a b c d e f g x0 z0 x1 z1 5 (by omega) (w.heap.size + 1 + 1 + 1) T hT N hN hN16 w1 (by simpa using hE1)) Keep5.trans (Keep5.put (by simp; omega)) hbW (fun _ => rfl)
    (fun pre W => (∃ v, Boxed W w1.heap.size 34 v ∧ W.ownsRow w1.heap.size 3 1 v pre.length (ics pre) ∧ pre.length ≤ L.length) ∧ Below w1.heap.size w1 W)
    (fun cd pre W => (∃ v, Boxed W w1.heap.size 34 v ∧ W.ownsRow w1.heap.size 3 1 v pre.length (ics pre) ∧ cd = .exit 0 ∧ 0 < pre.length ∧ ((pre.length : Int) = leave ∨ L.length < pre.length)) ∧ Below w1.heap.size w1 W)
    (OwnFrom.and (Own.from (holdsRow_own w1.heap.size w1.heap.size 34 3 1 (fun pre : List Int => pre.length) (fun pre => ics pre) (fun pre _ => pre.length ≤ L.length)) _) (ownFrom_below (Nat.le_refl _) (by simp)))
    (fun cd => OwnFrom.and (Own.from (holdsRow_own w1.heap.size w1.heap.size 34 3 1 (fun pre : List Int => pre.length) (fun pre => ics pre) (fun pre _ => cd = .exit 0 ∧ 0 < pre.length ∧ ((pre.length : Int) = leave ∨ L.length < pre.length))) _) (ownFrom_below (Nat.le_refl _) (by simp)))
    ⟨⟨_, bG, World.ownsRow_nil _ _ _ _, Nat.zero_le _⟩, hbW⟩
    ?a₁ ?assign ?body ?done ?stop
  case assign =>
    intro l x W K hK
    gi_wp2
    exact hK
  case body =>
    rintro l pre x W ⟨⟨v, hv, hrow, hple⟩, hB⟩ hlt
    have hc := hv.cell
    have hlt' : pre.length < L.length := by rw [hL] at hlt; exact hlt
    gi_wp2_with (gi_at_builtin; refine wpListIn_append_own _ rfl _ _ 34 rfl w1.heap.size 3 i0 (.int .i64 0) 1 8 Try.underlying34 hi hz0 hz1 hz2 rfl (by decide) _ _ _ rfl (hrow.alloc _) ⟨W.heap.size, 0, none⟩ 1 1 [.int .i64 x] rfl rfl (cell_one_new _ _ _) (by simp [Value.oneCell']) (by omega) (by omega) (by have := hB.size; simp; omega) ?_; intro v' w2 hown' hgrow _; obtain ⟨g', cap', rfl⟩ := ownsRow_succ hown'; obtain ⟨hv1, hv2, hr2, hk2, hb2⟩ := hv.appended (by decide) hrow hB.size (Nat.le_refl _) hown' hgrow; have hc1 := hv1.cell; have hf1 := hv1.frozen; have hc3 := hv2.cell; have hwant2 := (hb2.cell (p := ⟨w.heap.size + 1, 0, none⟩) (by show w.heap.size + 1 < _; omega)).trans ((hB.cell (p := ⟨w.heap.size + 1, 0, none⟩) (by show w.heap.size + 1 < _; omega)).trans hwant); have hleave2 := (hb2.cell (p := ⟨w.heap.size + 1 + 1, 0, none⟩) (by show w.heap.size + 1 + 1 < _; omega)).trans ((hB.cell (p := ⟨w.heap.size + 1 + 1, 0, none⟩) (by show w.heap.size + 1 + 1 < _; omega)).trans hleave))
    all_goals have hrow2 : (w2.setCell ⟨w1.heap.size, 0, none⟩ (.slice (some ⟨g', 0, none⟩) (pre.length + 1) cap')).ownsRow w1.heap.size 3 1 (.slice (some ⟨g', 0, none⟩) (pre.length + 1) cap') (pre ++ [x]).length (ics (pre ++ [x])) := by simpa [ics] using hr2
    · exact ⟨hk2.from _, ⟨_, hv2, hrow2, rfl, by simp, by simp; omega⟩, hB.trans hb2⟩
    · have hor : (↑pre.length + 1 : Int) = leave ∨ (↑L.length : Int) < ↑pre.length + 1 := by simpa using (by assumption : ((↑pre.length + 1 : Int) == leave) = true ∨ (↑L.length : Int) < ↑pre.length + 1)
      exact ⟨hk2.from _, ⟨_, hv2, hrow2, rfl, by simp, by simp; omega⟩, hB.trans hb2⟩
    · exact ⟨hk2.from _, Keep5.below hb2 (by omega), ⟨_, hv2, hrow2, by simp; omega⟩, hB.trans hb2⟩
  case done =>
    rintro D ys W hD rfl ⟨⟨v, hv, hrow, hple⟩, hB⟩ hK
    rw [hL] at hrow
    obtain ⟨A2, cap2, rfl, _, hrd2⟩ := own_row1 hrow
    have hc := hv.cell
    have hw2 := (hB.cell (p := ⟨w.heap.size + 1, 0, none⟩) (by show w.heap.size + 1 < _; omega)).trans hwant
    have hl2 := (hB.cell (p := ⟨w.heap.size + 1 + 1, 0, none⟩) (by show w.heap.size + 1 + 1 < _; omega)).trans hleave
    have hbw : Below w.heap.size w W := hb0.trans (hB.mono hb0.size)
    have hI := fun m => ints6_any L L A2 A cap2 cap (W.drewN m) (by exact hrd2) (by exact (hrd.below hbw).more hbw.size) (by omega)
    rw [decide_eq_true rfl] at hI
    gi_wp2
    refine wpIn_wide.2 ?_
    go_quiet (first | (go_at_call 77; exact Calls.quiet_of (hI _)))
    gi_wp2
    have hK2 : (W.drewN nq).heap[D]? = some (.deferred (some [])) := hK
    refine ⟨by simp, .inl ⟨_, _, rfl, run_takeDeferred hK2, ?_⟩⟩
    refine ⟨_, results_tmp rfl _ _ _, rfl, (hbw.trans (below_drewN (Below.refl _ _) nq)).trans (belowK_b (w := w1) (by omega) _ D _ _ (by simp at hD; omega) hK2 rfl rfl)⟩
  case stop =>
    rintro D cd pre W hD hpre ⟨⟨v, hv, hrow, rfl, hp0, hor⟩, hB⟩ hK
    rw [hL] at hpre
    have hple := hpre.length_le
    obtain rfl : (pre.length : Int) = leave := by omega
    obtain ⟨A2, cap2, rfl, _, hrd2⟩ := own_row1 hrow
    have hc := hv.cell
    have hw2 := (hB.cell (p := ⟨w.heap.size + 1, 0, none⟩) (by show w.heap.size + 1 < _; omega)).trans hwant
    have hl2 := (hB.cell (p := ⟨w.heap.size + 1 + 1, 0, none⟩) (by show w.heap.size + 1 + 1 < _; omega)).trans hleave
    have hbw : Below w.heap.size w W := hb0.trans (hB.mono hb0.size)
    have hrd3 : Reads W W.heap.size 1 A L.length (ics L) := (hrd.below hbw).more hbw.size
    have hI := fun m => ints6_any pre L A2 A cap2 cap (W.drewN m) (by exact hrd2) (by exact hrd3) (by omega)
    by_cases hpl : pre = L
    · subst hpl
      rw [decide_eq_true rfl] at hI
      gi_wp2
      refine wpIn_wide.2 ?_
      go_quiet (first | (go_at_call 77; exact Calls.quiet_of (hI _)))
      gi_wp2
      have hK2 : (W.drewN nq).heap[D]? = some (.deferred (some [])) := hK
      refine ⟨by simp, .inl ⟨_, _, rfl, run_takeDeferred hK2, ?_⟩⟩
      refine ⟨_, results_tmp rfl _ _ _, rfl, (hbw.trans (below_drewN (Below.refl _ _) nq)).trans (belowK_b (w := w1) (by omega) _ D _ _ (by simp at hD; omega) hK2 rfl rfl)⟩
    · rw [decide_eq_false hpl] at hI
      have hI2 := fun m => ints6_any pre pre A2 A cap2 cap (W.drewN m) (by exact hrd2) (by exact reads_pre hrd3 hpre) (by omega)
      rw [decide_eq_true rfl] at hI2
      have hp0' : (0 : Int) < (pre.length : Int) := by omega
      have hple' : (pre.length : Int) ≤ (L.length : Int) := by omega
      have hpc' : (pre.length : Int) ≤ (cap : Int) := by omega
      gi_wp2
      refine wpIn_wide.2 ?_
      go_quiet (first | (go_at_call 77; first | exact Calls.quiet_of (hI _) | exact Calls.quiet_of (hI2 _)))
      gi_wp2
      have hK2 : (W.drewN nq).heap[D]? = some (.deferred (some [])) := hK
      refine ⟨by simp, .inl ⟨_, _, rfl, run_takeDeferred hK2, ?_⟩⟩
      refine ⟨_, results_tmp rfl _ _ _, rfl, (hbw.trans (below_drewN (Below.refl _ _) nq)).trans (belowK_b (w := w1) (by omega) _ D _ _ (by simp at hD; omega) hK2 rfl rfl)⟩
end Go.Proofs.Yteneneadfpkahaa
