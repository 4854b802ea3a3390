/- pool.All's iterator by a walk: it yields each entry, in some order. No conditions but that the pool lies where it is said to lie. -/
import Derived.Test.YtdamcbpjefjolaaRc
import Derived.Test.YtdamcbpjefjolaaRv
import Derived.RangeFuncNested
import Derived.RangeFuncBound
import Derived.RangeFuncCalls
import Derived.RangeFuncLeaves
import Derived.RangeFuncBox
import Derived.Shelf.Abstract
import Derived.Shelf.RegionOpen
import Derived.WalkKit
import Derived.OwnWalkIn
import Derived.TacticsInMore
import Derived.LoopNIn
import Derived.LoopIn
namespace Go.Proofs.Ytdamcbpjefjolaa
open Go Go.RowKit Go.Sx Go.Mp Go.Shelf
attribute [local go_sem] Oper.semAt_some
theorem grown_of_below {w w' : World} (hb : Below w.heap.size w w') : w.grownBy w' none := ⟨hb.os, hb.tape, hb.output, hb.size, fun j hj _ => hb.block j hj⟩
theorem perm_pull {α β : Type} {f : α → β} {l1 l2 : List β} (h : l1.Perm l2) : ∀ E : List α, E.map f = l2 → ∃ ys : List α, ys.Perm E ∧ ys.map f = l1 := by
  induction h with
  | nil => intro E hE; exact ⟨E, .refl _, hE⟩
  | cons x _ ih =>
    intro E hE
    cases E with
    | nil => simp at hE
    | cons e E =>
      simp only [List.map_cons, List.cons.injEq] at hE
      obtain ⟨ys, h1, h2⟩ := ih E hE.2
      exact ⟨e :: ys, h1.cons e, by simp [h2, hE.1]⟩
  | swap x y l =>
    intro E hE
    match E, hE with
    | a :: c :: E, hE =>
      simp only [List.map_cons, List.cons.injEq] at hE
      exact ⟨c :: a :: E, .swap a c E, by simp [hE]⟩
  | trans _ _ ih1 ih2 =>
    intro E hE
    obtain ⟨ys, h1, h2⟩ := ih2 E hE
    obtain ⟨zs, h3, h4⟩ := ih1 ys h2
    exact ⟨zs, h3.trans h1, h4⟩
/-- All blocks below N0 but nb stay, and all blocks of cells but nb, which stays one of cells. -/
structure KeepP (N0 nb : Nat) (w w' : World) : Prop where
  size : w.heap.size ≤ w'.heap.size
  low : ∀ j, j < N0 → j ≠ nb → w'.heap[j]? = w.heap[j]?
  cells : ∀ (j : Nat) (c : Array Value) (T : TypeId) (z : Nat × Nat), j ≠ nb → w.heap[j]? = some (.cells c T z) → w'.heap[j]? = w.heap[j]?
  own : ∀ (c : Array Value) (T : TypeId), w.heap[nb]? = some (.cells c T (0, 0)) → ∃ c', w'.heap[nb]? = some (.cells c' T (0, 0))
theorem KeepP.trans {N0 nb : Nat} {x y z : World} (h : KeepP N0 nb x y) (k : KeepP N0 nb y z) : KeepP N0 nb x z :=
  ⟨Nat.le_trans h.1 k.1, fun j h1 h2 => (k.low j h1 h2).trans (h.low j h1 h2), fun j c T z h1 h2 => (k.cells j c T z h1 ((h.cells j c T z h1 h2).trans h2)).trans (h.cells j c T z h1 h2), fun c T h1 => by
    obtain ⟨c', h2⟩ := h.own c T h1
    exact k.own c' T h2⟩
theorem KeepP.refl (N0 nb : Nat) (x : World) : KeepP N0 nb x x := ⟨Nat.le_refl _, fun _ _ _ => rfl, fun _ _ _ _ _ _ => rfl, fun c _ h => ⟨c, h⟩⟩
theorem KeepP.below {N0 nb N : Nat} {w w' : World} (h : Below N w w') (hN : w.heap.size ≤ N) (h0 : N0 ≤ w.heap.size) : KeepP N0 nb w w' :=
  ⟨h.size, fun j h1 _ => h.block j (by omega), fun j c T z _ h2 => h.block j (by have := lt_of_block h2; omega), fun c T h1 => ⟨c, (h.block nb (by have := lt_of_block h1; omega)).trans h1⟩⟩
theorem KeepP.put {N0 nb n0 : Nat} (hB : N0 ≤ n0) (W : World) (l : Nat) (o o' : Obj) (hl : n0 ≤ l) (h : W.heap[l]? = some o) (hc : o.isCells = false) (_ : o.isWalk = false) : KeepP N0 nb W (W.putObj l o') := by
  have hne : ∀ (j : Nat) (c : Array Value) (T : TypeId) (z : Nat × Nat), W.heap[j]? = some (.cells c T z) → l ≠ j := fun j c T z h2 e => by
    subst e; rw [h] at h2; injection h2 with h2; subst h2; simp [Obj.isCells] at hc
  exact ⟨by simp [World.putObj], fun j h1 _ => World.putObj_heap_other (by omega), fun j c T z _ h2 => World.putObj_heap_other (Ne.symm (hne j c T z h2)), fun c T h2 => ⟨c, (World.putObj_heap_other (Ne.symm (hne nb c T _ h2))).trans h2⟩⟩
theorem KeepP.pool {N0 nb : Nat} {w w' : World} (k : KeepP N0 nb w w') {base b bm : Nat} {v : Value} {room : Int} {E : List En} {h : List V3} (H : PoolIn w base b bm v room E h) (hb : bm < N0) (hn : bm ≠ nb) (hT : ∃ c T, w.heap[nb]? = some (.cells c T (0, 0)) ∧ T ≠ 71 ∧ T ≠ 74 ∧ T ≠ 30) : PoolIn w' base b bm v room E h := by
  obtain ⟨c, T, hT, h1, h2, h3⟩ := hT
  refine ⟨(k.cells _ _ _ _ (fun e => ?_) H.pb).trans H.pb, H.mp.of_block (k.low bm hb hn), fun e he => (k.cells _ _ _ _ (fun e' => ?_) (H.nd e he)).trans (H.nd e he), ?_, H.ps, H.ks, H.b0, H.b1, H.b2⟩
  · have := H.pb
    rw [PB, e, hT] at this
    injection this with this; injection this with _ this; exact h1 this
  · have := H.nd e he
    rw [e', hT, En.obj] at this
    injection this with this; injection this with _ this; exact h2 this
  · refine ⟨H.row.1, ?_⟩
    rcases H.row.2 with h0 | ⟨g, cap, cur, e1, e2, e3, e4⟩
    · exact .inl h0
    · exact .inr ⟨g, cap, cur, e1, e2, (k.cells g _ _ _ (fun e => by rw [e, hT] at e3; injection e3 with e3; injection e3 with _ e3; exact h3 e3) e3).trans e3, e4⟩
theorem KeepP.row {N0 nb : Nat} {w w' : World} (k : KeepP N0 nb w w') {base : Nat} {e : TypeId} {s n : Nat} {v : Value} {xs : List Value} (h : w.ownsRow base e s v n xs) (hn : nb < base) : w'.ownsRow base e s v n xs := by
  refine ⟨h.1, ?_⟩
  rcases h.2 with h0 | ⟨g, cap, cur, e1, e2, e3, e4⟩
  · exact .inl h0
  · exact .inr ⟨g, cap, cur, e1, e2, (k.cells g _ _ _ (by omega) e3).trans e3, e4⟩
/-- What is yielded of an entry. -/
def enY (e : En) : Array Value := #[.int .i64 e.k, .agg #[.int .i64 e.x.x, .int .i64 e.x.y, .int .i64 e.x.z]]
theorem PoolIn.look {w : World} {base b bm : Nat} {v : Value} {room : Int} {E : List En} {h : List V3} (H : PoolIn w base b bm v room E h) {e : En} (he : e ∈ E) : (Instr.lookup 67 (.map (some bm)) (.int .i64 e.k) false).run Try.prog w = .ok (.pointer (some ⟨e.p, 0, none⟩)) w := by
  obtain ⟨E1, E2, rfl⟩ := List.append_of_mem he
  exact look67 H.mp (by rw [look_yes H.ks rfl]; rfl)
set_option maxRecDepth 100000 in
set_option maxHeartbeats 4000000 in
theorem pall1_in (n : Nat) (hn : 1 ≤ n) (l N0 nb B base b bm : Nat) (v : Value) (room : Int) (E : List En) (h : List V3) (hEl : E.length < 1000000) (hEk : ∀ e ∈ E, 0 ≤ e.k ∧ e.k ≤ 1125899906842624) (hbm : bm < N0) (hbn : bm ≠ nb) (hBn : B ≠ nb) (hnb : nb < N0) (hBN : B < N0) (J Jx : List {e // e ∈ E} → World → Prop)
    (hY : ∀ pre x Wd, J pre Wd → pre.length < E.length → YieldAt Fence.wide (n - 1) Try.prog l (enY x.1) Wd fun e W' =>
      (e = .returned (.bool true) ∧ J (pre ++ [x]) W' ∧ KeepP N0 nb Wd W') ∨ (e = .returned (.bool false) ∧ Jx (pre ++ [x]) W'))
    (Wd : World) (hN0 : N0 ≤ Wd.heap.size) (hJ : AbidesFrom Wd.heap.size J) (hE : PoolIn Wd base b bm v room E h) (hB : Wd.heap[B]? = some (.cells #[.pointer (some ⟨b, 0, none⟩)] 25 (0, 0))) (hT : ∃ c T, Wd.heap[nb]? = some (.cells c T (0, 0)) ∧ T ≠ 71 ∧ T ≠ 74 ∧ T ≠ 30) (h0 : J [] Wd) :
    CallsIn Fence.wide n Try.prog 89 #[.func (.yield l) #[] #[], .pointer (some ⟨B, 0, none⟩)] Wd fun e W' => (∃ v, e = .returned v) ∧
      ((∃ ys : List {e // e ∈ E}, ys.Perm E.attach ∧ J ys W') ∨ (∃ pre, True ∧ Jx pre W')) := by
  have hB0 : Wd.cell? ⟨B, 0, none⟩ = some (.pointer (some ⟨b, 0, none⟩)) := cell_of hB rfl
  obtain ⟨p0, p1, p2, p3⟩ := hE.pb.cells
  have hwf : ∀ p ∈ E.map En.kp, (Lit.int .i64 p.1).wf = true := by
    intro p hp
    obtain ⟨e, he, rfl⟩ := List.mem_map.1 hp
    have := hEk e he
    have m1 : IntKind.i64.min = -9223372036854775808 := by decide
    have m2 : IntKind.i64.max = 9223372036854775807 := by decide
    simp only [Lit.wf, En.kp, m1, m2, Bool.and_eq_true, decide_eq_true_eq]
    omega
  have cS : ∀ w, MapAt iv w bm (E.map En.kp) → _ := fun w hm => sorted_any hm hwf (by simpa using hEl)
  have hmpW := hE.mp
  refine callsIn_of_wp Try.func89 rfl trivial ?_ rfl
  simp only [Try.ntmps89, List.size_toArray, List.length_cons, List.length_nil, Nat.reduceAdd, Nat.reduceSub, Array.replicate_succ, Array.replicate_zero, List.push_toArray, List.append_toArray, List.nil_append, List.cons_append]
  gi_wp2_with (first
    | (refine ⟨trivial, ?_⟩; gi_at_call 91; refine (callsIn_wide.2 (keys_any _ _)).mono ?_; rintro e w' ⟨rfl, rfl⟩)
    | (refine ⟨trivial, ?_⟩; gi_at_call 90; refine (callsIn_wide.2 (cS _ hmpW)).mono ?_; rintro e w1 ⟨v1, ss, rfl, hperm, hrow, hb1⟩))
  obtain ⟨ys, hys, hyk⟩ := perm_pull (f := fun e : {e // e ∈ E} => e.1.k) (show ss.Perm (E.map fun e => e.k) by rw [List.map_map] at hperm; exact hperm) E.attach (by rw [show (fun e : {e // e ∈ E} => e.1.k) = (fun e : En => e.k) ∘ Subtype.val from rfl, ← List.map_map, List.attach_map_subtype_val])
  have hyl : ys.length = E.length := by rw [hys.length_eq]; simp
  have hsl : ss.length = ys.length := by rw [← hyk]; simp
  obtain ⟨A, cap, rfl, hcap, hrd⟩ := own_row1 hrow
  have hbw : Below Wd.heap.size Wd w1 := ((Below.refl _ Wd).alloc (Nat.le_refl _) _).trans (hb1.mono (by simp))
  have hE1 := (KeepP.below (N0 := N0) (nb := nb) hbw (Nat.le_refl _) hN0).pool hE hbm hbn hT
  have hT1 : ∃ c T, w1.heap[nb]? = some (.cells c T (0, 0)) ∧ T ≠ 71 ∧ T ≠ 74 ∧ T ≠ 30 := by
    obtain ⟨c, T, h1, h2⟩ := hT
    exact ⟨c, T, (hbw.block nb (by omega)).trans h1, h2⟩
  have hB1 := (hbw.block B (by omega)).trans hB
  have hJ1 : J [] w1 := hJ _ _ _ none h0 (grown_of_below hbw) (by intro r hr; cases hr)
  clear hb1 hB0 p0 p1 p2 p3 hmpW cS hperm
  have hrow0 : w1.ownsRow (Wd.heap.size + 1) 3 1 (.slice A ss.length cap) ss.length (ics ss) := hrow
  have hs1 := hbw.size
  clear hrow hrd hE hT hB h0 hbw
  have hY3 : Hid (ys.map (fun e : {e // e ∈ E} => e.1.k) = ss ∧ ss.length = ys.length ∧ ys.length = E.length) := ⟨hyk, hsl, hyl⟩
  clear hyk hsl hyl
  have hl31 : ∀ (m : Nat) (W : World), (Builtin.len_ #[31] 3 #[.slice A m cap]).run Try.prog W = .ok (.int .i64 m) W := fun _ _ => by kernel_rfl
  gi_wp2
  rw [hl31]
  gi_wp2
  gi_loopw [14] (fun x wr => ∃ k : Nat, x = .int .i64 k ∧ k ≤ ss.length ∧ PoolIn wr base b bm v room E h ∧ J (ys.take k) wr ∧ Wd.heap.size ≤ wr.heap.size ∧ wr.heap[B]? = some (.cells #[.pointer (some ⟨b, 0, none⟩)] 25 (0, 0)) ∧ wr.ownsRow (Wd.heap.size + 1) 3 1 (.slice A ss.length cap) ss.length (ics ss) ∧ (∃ c T, wr.heap[nb]? = some (.cells c T (0, 0)) ∧ T ≠ 71 ∧ T ≠ 74 ∧ T ≠ 30))
    (fun x _ => ss.length - (intOf x).toNat)
  case atStart => exact ⟨0, rfl, Nat.zero_le _, hE1, hJ1, hs1, hB1, hrow0, hT1⟩
  case round =>
    obtain ⟨k, rfl, hk, hE2, hJ2, hs2, hB2, hrow2, hT2⟩ := hrel
    obtain ⟨hyk, hsl, hyl⟩ := hY3
    by_cases hkn : k < ss.length
    · obtain ⟨ad, rfl, hlt, hc⟩ := ics_at (own_reads hrow2) hkn
      have hkn' : (k : Int) < (ss.length : Int) := by omega
      have hky : k < ys.length := by omega
      obtain ⟨e, he⟩ : ∃ e, ys[k] = e := ⟨_, rfl⟩
      have hse : ss[k] = e.1.k := by rw [← he]; simp [← hyk]
      rw [hse] at hc
      have hUs : ys.take (k + 1) = ys.take k ++ [e] := by rw [List.take_succ_eq_append_getElem hky, he]
      have hUl : (ys.take k).length < E.length := by simp; omega
      have hB0 : wr.cell? ⟨B, 0, none⟩ = some (.pointer (some ⟨b, 0, none⟩)) := cell_of hB2 rfl
      obtain ⟨p0, p1, p2, p3⟩ := hE2.pb.cells
      have hlk := hE2.look e.2
      have n0 : wr.cell? ⟨e.1.p, 0, none⟩ = some (.int .i64 e.1.x.x) := cell_of (hE2.nd e.1 e.2) rfl
      have n1 : wr.cell? ⟨e.1.p, 1, none⟩ = some (.int .i64 e.1.x.y) := cell_of (hE2.nd e.1 e.2) rfl
      have n2 : wr.cell? ⟨e.1.p, 2, none⟩ = some (.int .i64 e.1.x.z) := cell_of (hE2.nd e.1 e.2) rfl
      have hpl : (ys.take k).length = k := by simp; omega
      clear hyk hsl hyl hse he hl31
      obtain ⟨fn, tmps, assign, body, hy, hR⟩ := hY (ys.take k) e wr hJ2 hUl
      simp only [enY] at hy
      gi_wp2
      refine hR.mono ?_
      rintro e4 W3 (⟨rfl, hJ4, hk4⟩ | ⟨rfl, hJx4⟩)
      · have hE3 := hk4.pool hE2 hbm hbn hT2
        have hB3 := (hk4.cells _ _ _ _ hBn hB2).trans hB2
        have hrow3 := hk4.row hrow2 (by omega)
        have hT3 : ∃ c T, W3.heap[nb]? = some (.cells c T (0, 0)) ∧ T ≠ 71 ∧ T ≠ 74 ∧ T ≠ 30 := by
          obtain ⟨c, T, t1, t2⟩ := hT2
          obtain ⟨c', t3⟩ := hk4.own c T t1
          exact ⟨c', T, t3, t2⟩
        gi_wp2
        go_roundw
        case rel => exact ⟨k + 1, by go_num, by omega, hE3, by rw [hUs]; exact hJ4, Nat.le_trans hs2 hk4.1, hB3, hrow3, hT3⟩
        case measure => simp [intOf]; omega
      · gi_wp2
        refine bodyPost_ret (results_none rfl _ _ _) rfl ?_
        exact ⟨⟨_, rfl⟩, .inr ⟨_, trivial, hJx4⟩⟩
    · obtain rfl : k = ss.length := by omega
      have hta : ys.take ss.length = ys := by rw [hsl, List.take_length]
      rw [hta] at hJ2
      clear hyk hsl hyl hl31 hta
      gi_wp2
      go_end0
      exact ⟨⟨_, rfl⟩, .inl ⟨ys, hys, hJ2⟩⟩
theorem pall1_stops (n : Nat) (hn : 1 ≤ n) (N0 nb B base b bm : Nat) (v : Value) (room : Int) (E : List En) (h : List V3) (hEl : E.length < 1000000) (hEk : ∀ e ∈ E, 0 ≤ e.k ∧ e.k ≤ 1125899906842624) (hbm : bm < N0) (hbn : bm ≠ nb) (hBn : B ≠ nb) (hnb : nb < N0) (hBN : B < N0)
    (w : World) (hN0 : N0 ≤ w.heap.size) (hE : PoolIn w base b bm v room E h) (hB : w.heap[B]? = some (.cells #[.pointer (some ⟨b, 0, none⟩)] 25 (0, 0))) (hT : ∃ c T, w.heap[nb]? = some (.cells c T (0, 0)) ∧ T ≠ 71 ∧ T ≠ 74 ∧ T ≠ 30) :
    SeqStopsK Fence.wide n Try.prog 89 #[.pointer (some ⟨B, 0, none⟩)] (fun e : {e // e ∈ E} => #[.int .i64 e.1.k, .agg #[.int .i64 e.1.x.x, .int .i64 e.1.x.y, .int .i64 e.1.x.z]]) (KeepP N0 nb) (fun ys => ys.Perm E.attach) (fun _ => True) E.length w := fun l J Jx Wd hW hJ _ hY h0 =>
  pall1_in n hn l N0 nb B base b bm v room E h hEl hEk hbm hbn hBn hnb hBN J Jx hY Wd (Nat.le_trans hN0 hW.size) hJ ((KeepP.below (N0 := N0) (nb := nb) hW (Nat.le_refl _) hN0).pool hE hbm hbn hT) ((hW.block B (by omega)).trans hB) (by
    obtain ⟨c, T, h1, h2⟩ := hT
    exact ⟨c, T, (hW.block nb (by omega)).trans h1, h2⟩) h0
end Go.Proofs.Ytdamcbpjefjolaa
