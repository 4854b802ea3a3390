/- bins.Each by a walk: an iterator over the tiles that a stretch touches. No conditions. -/
import Derived.RangeFuncNested
import Derived.RangeFuncBound
import Derived.RangeFuncCalls
import Derived.RangeFuncLeaves
import Derived.RangeFuncBox
import Derived.Shelf.Abstract
import Derived.Shelf.RegionOpen
import Derived.WalkKit
import Derived.OwnWalkIn
import Derived.TacticsInMore
import Derived.LoopNIn
import Derived.LoopIn
import Derived.Maps.AppendAt
import Derived.Test.YtbjbiimkhpfieaaAb
namespace Go.Proofs.Ytbjbiimkhpfieaa
open Go Go.RowKit Go.Sx Go.Shelf
attribute [local go_sem] Oper.semAt_some
/-- The five boxes of Each's function, from block B on. -/
structure EachAt (B : Nat) (a b c d e f g x0 z0 x1 z1 : Int) (w : World) : Prop where
  cfg : CfgAt B a b c d e f g w
  x0 : w.cell? ⟨B + 1, 0, none⟩ = some (.int .i64 x0)
  z0 : w.cell? ⟨B + 2, 0, none⟩ = some (.int .i64 z0)
  x1 : w.cell? ⟨B + 3, 0, none⟩ = some (.int .i64 x1)
  z1 : w.cell? ⟨B + 4, 0, none⟩ = some (.int .i64 z1)
  lt : B + 5 ≤ w.heap.size
/-- The blocks from B to B + 4 hold what they held. -/
def Keep5 (B : Nat) (w w' : World) : Prop := w.heap.size ≤ w'.heap.size ∧ ∀ j, B ≤ j → j < B + 5 → w'.heap[j]? = w.heap[j]?
theorem Keep5.cell {B : Nat} {w w' : World} (h : Keep5 B w w') {j k : Nat} (h1 : B ≤ j) (h2 : j < B + 5) : w'.cell? ⟨j, k, none⟩ = w.cell? ⟨j, k, none⟩ := World.cell?_of_block (h.2 j h1 h2)
theorem Keep5.trans {B : Nat} {x y z : World} (h : Keep5 B x y) (k : Keep5 B y z) : Keep5 B x z := ⟨Nat.le_trans h.1 k.1, fun j h1 h2 => (k.2 j h1 h2).trans (h.2 j h1 h2)⟩
theorem Keep5.refl (B : Nat) (x : World) : Keep5 B x x := ⟨Nat.le_refl _, fun _ _ _ => rfl⟩
theorem Keep5.below {B N : Nat} {w w' : World} (h : Below N w w') (hN : B + 5 ≤ N) : Keep5 B w w' := ⟨h.size, fun j _ h2 => h.block j (by omega)⟩
theorem Keep5.put {B : Nat} {w : World} (hB : B + 5 ≤ w.heap.size) (W : World) (l : Nat) (o o' : Obj) (hl : w.heap.size ≤ l) (h : W.heap[l]? = some o) (_ : o.isCells = false) (_ : o.isWalk = false) : Keep5 B W (W.putObj l o') :=
  Keep5.below (belowK_b (n₀ := w.heap.size) (w := w) (Nat.le_refl _) W l o o' hl h (by assumption) (by assumption)) hB
theorem EachAt.keep {B : Nat} {a b c d e f g x0 z0 x1 z1 : Int} {w w' : World} (h : EachAt B a b c d e f g x0 z0 x1 z1 w) (k : Keep5 B w w') : EachAt B a b c d e f g x0 z0 x1 z1 w' := by
  obtain ⟨⟨h0, h1, h2, h3, h4, h5, h6, h7⟩, i1, i2, i3, i4, i5⟩ := h
  have e0 : ∀ q, w'.cell? ⟨B, q, none⟩ = w.cell? ⟨B, q, none⟩ := fun q => k.cell (Nat.le_refl _) (by omega)
  refine ⟨⟨(e0 _).trans h0, (e0 _).trans h1, (e0 _).trans h2, (e0 _).trans h3, (e0 _).trans h4, (e0 _).trans h5, (e0 _).trans h6, Nat.lt_of_lt_of_le h7 k.1⟩, (k.cell (by omega) (by omega)).trans i1, (k.cell (by omega) (by omega)).trans i2, (k.cell (by omega) (by omega)).trans i3, (k.cell (by omega) (by omega)).trans i4, Nat.le_trans i5 k.1⟩
theorem hits_pre1 (T : Int → Bool) (k : Nat) : hits T k <+: hits T (k + 1) := by
  by_cases h : T k = true
  · rw [hits_hit h]; exact List.prefix_append _ _
  · rw [hits_miss (by simpa using h)]; exact List.prefix_refl _
theorem hits_pre (T : Int → Bool) (k : Nat) : ∀ n, k ≤ n → hits T k <+: hits T n
  | 0, hk => by
    have : k = 0 := Nat.le_zero.1 hk
    subst this
    exact List.prefix_refl _
  | n + 1, hk => by
    by_cases hkn : k ≤ n
    · exact (hits_pre T k n hkn).trans (hits_pre1 T n)
    · have : k = n + 1 := by omega
      subst this
      exact List.prefix_refl _
theorem hits_lt {T : Int → Bool} {n k : Nat} (hk : k < n) (h : T k = true) : (hits T k).length < (hits T n).length := by
  have := (hits_pre T (k + 1) n (by omega)).length_le
  rw [hits_hit h] at this
  simp at this
  omega
theorem grown_of_below {w w' : World} (hb : Below w.heap.size w w') : w.grownBy w' none := ⟨hb.os, hb.tape, hb.output, hb.size, fun j hj _ => hb.block j hj⟩
set_option maxRecDepth 100000 in
set_option maxHeartbeats 2000000 in
theorem each1_in (n : Nat) (hn : 1 ≤ n) (l B : Nat) (a b c d e f g x0 z0 x1 z1 : Int) (T : Int → Bool) (hT : T = fun i => touchF a b c d e f g i x0 z0 x1 z1) (N : Nat) (hN : countF a b c d e f g = N) (hN16 : N ≤ 16) (J Jx : List Int → World → Prop)
    (hY : ∀ pre x W, J pre W → pre.length < (hits T N).length → YieldAt Fence.wide (n - 1) Try.prog l #[.int .i64 x] W fun e W' =>
      (e = .returned (.bool true) ∧ J (pre ++ [x]) W' ∧ Keep5 B W W') ∨ (e = .returned (.bool false) ∧ Jx (pre ++ [x]) W'))
    (W : World) (hJ : AbidesFrom W.heap.size J) (hE : EachAt B a b c d e f g x0 z0 x1 z1 W) (h0 : J [] W) :
    CallsIn Fence.wide n Try.prog 52 #[.func (.yield l) #[] #[], .pointer (some ⟨B, 0, none⟩), .pointer (some ⟨B + 1, 0, none⟩), .pointer (some ⟨B + 2, 0, none⟩), .pointer (some ⟨B + 3, 0, none⟩), .pointer (some ⟨B + 4, 0, none⟩)] W fun e W' => (∃ v, e = .returned v) ∧
      ((∃ ys, ys = hits T N ∧ J ys W') ∨ (∃ pre, pre <+: hits T N ∧ Jx pre W')) := by
  have hc := fun w => count_any a b c d e f g w
  rw [hN] at hc
  unfold cfgv at hc
  obtain ⟨⟨h0', h1, h2, h3, h4, h5, h6, h7⟩, i1, i2, i3, i4, i5⟩ := id hE
  refine callsIn_of_wp Try.func52 rfl trivial ?_ rfl
  simp only [Try.ntmps52, List.size_toArray, List.length_cons, List.length_nil, Nat.reduceAdd, Nat.reduceSub, Array.replicate_succ, Array.replicate_zero, List.push_toArray, List.append_toArray, List.nil_append, List.cons_append]
  gi_wp2_with (refine ⟨trivial, ?_⟩; gi_at_call 53; refine (callsIn_wide.2 (hc _)).mono ?_; rintro en w1 ⟨rfl, hb1⟩)
  have hE1 := hE.keep (Keep5.below hb1 i5)
  have hJ1 := hJ _ _ _ none h0 (grown_of_below hb1) (by intro r hr; cases hr)
  gi_loopw [10] (fun x wr => ∃ k : Nat, x = .int .i64 k ∧ k ≤ N ∧ EachAt B a b c d e f g x0 z0 x1 z1 wr ∧ J (hits T k) wr)
    (fun x _ => N - (intOf x).toNat)
  case atStart => exact ⟨0, rfl, Nat.zero_le _, hE1, hJ1⟩
  case round =>
    obtain ⟨k, rfl, hk, hE2, hJ2⟩ := hrel
    obtain ⟨⟨g0, g1, g2, g3, g4, g5, g6, g7⟩, j1, j2, j3, j4, j5⟩ := id hE2
    have ht := fun w => touch_any a b c d e f g k x0 z0 x1 z1 w
    unfold cfgv at ht
    by_cases hkn : k < N
    · by_cases hTk : T k = true
      · have hTk' : touchF a b c d e f g k x0 z0 x1 z1 = true := by rw [hT] at hTk; exact hTk
        rw [hTk'] at ht
        gi_wp2_with (refine ⟨trivial, ?_⟩; gi_at_call 54; refine (callsIn_wide.2 (ht _)).mono ?_; rintro en w2 ⟨rfl, hb2⟩; obtain ⟨fn, tmps, assign, body, hy, hR⟩ := hY (hits T k) k w2 (hJ _ _ _ none hJ2 (grown_of_below hb2) (by intro r hr; cases hr)) (hits_lt hkn hTk))
        have hE3 := hE2.keep (Keep5.below hb2 j5)
        refine hR.mono ?_
        rintro e W3 (⟨rfl, hJ3, hk3⟩ | ⟨rfl, hJx3⟩)
        · gi_wp2
          go_roundw
          case rel => exact ⟨k + 1, by go_num, by omega, hE3.keep hk3, by rw [hits_hit hTk]; exact hJ3⟩
          case measure => simp [intOf]; omega
        · gi_wp2
          refine bodyPost_ret (results_none rfl _ _ _) rfl ?_
          exact ⟨⟨_, rfl⟩, .inr ⟨_, (hits_hit hTk) ▸ hits_pre T (k + 1) N (by omega), hJx3⟩⟩
      · have hTk' : touchF a b c d e f g k x0 z0 x1 z1 = false := by rw [hT] at hTk; simpa using hTk
        rw [hTk'] at ht
        gi_wp2_with (refine ⟨trivial, ?_⟩; gi_at_call 54; refine (callsIn_wide.2 (ht _)).mono ?_; rintro en w2 ⟨rfl, hb2⟩)
        have hE3 := hE2.keep (Keep5.below hb2 j5)
        have hJ3 := hJ _ _ _ none hJ2 (grown_of_below hb2) (by intro r hr; cases hr)
        refine ⟨fun _ h => (by cases h), ?_⟩
        gi_wp2
        go_roundw
        case rel => exact ⟨k + 1, by go_num, by omega, hE3, by rw [hits_miss (by simpa using hTk)]; exact hJ3⟩
        case measure => simp [intOf]; omega
    · obtain rfl : k = N := by omega
      gi_wp2
      go_end0
      exact ⟨⟨_, rfl⟩, .inl ⟨_, rfl, hJ2⟩⟩
end Go.Proofs.Ytbjbiimkhpfieaa
