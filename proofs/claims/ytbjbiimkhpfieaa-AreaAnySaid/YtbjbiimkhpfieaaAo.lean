/- open.All's iterator by a walk: it yields each floor of a grid with its spot. No conditions but that the grid lies where it is said to lie. -/
import Derived.Test.YtbjbiimkhpfieaaAk
import Derived.Test.YtbjbiimkhpfieaaAm
import Derived.Test.YtbjbiimkhpfieaaAf
import Derived.RangeFuncNested
import Derived.RangeFuncBound
import Derived.RangeFuncCalls
import Derived.RangeFuncLeaves
import Derived.RangeFuncBox
import Derived.Shelf.Abstract
import Derived.Shelf.RegionOpen
import Derived.WalkKit
import Derived.OwnWalkIn
import Derived.TacticsInMore
import Derived.LoopNIn
import Derived.LoopIn
namespace Go.Proofs.Ytbjbiimkhpfieaa
open Go Go.RowKit Go.Sx Go.Shelf
attribute [local go_sem] Oper.semAt_some
/-- The floors of the first k rows, each with its row's number. -/
def flatTo (rows : List (List V3)) : Nat → List (Fin rows.length × V3)
  | 0 => []
  | k + 1 => flatTo rows k ++ (if h : k < rows.length then rows[k].map (fun v => (⟨k, h⟩, v)) else [])
def flat (rows : List (List V3)) : List (Fin rows.length × V3) := flatTo rows rows.length
theorem flatTo_succ {rows : List (List V3)} {k : Nat} (h : k < rows.length) : flatTo rows (k + 1) = flatTo rows k ++ rows[k].map (fun v => (⟨k, h⟩, v)) := by
  rw [flatTo, dif_pos h]
theorem flatTo_pre (rows : List (List V3)) (k : Nat) : ∀ n, k ≤ n → flatTo rows k <+: flatTo rows n
  | 0, h => by obtain rfl : k = 0 := by omega
               exact List.prefix_refl _
  | n + 1, h => by
    by_cases hk : k = n + 1
    · subst hk; exact List.prefix_refl _
    · exact (flatTo_pre rows k n (by omega)).trans (List.prefix_append _ _)
def upTo (rows : List (List V3)) (k : Nat) (h : k < rows.length) (j : Nat) : List (Fin rows.length × V3) := flatTo rows k ++ (rows[k].take j).map (fun v => (⟨k, h⟩, v))
theorem upTo_zero {rows : List (List V3)} {k : Nat} (h : k < rows.length) : upTo rows k h 0 = flatTo rows k := by simp [upTo]
theorem upTo_end {rows : List (List V3)} {k : Nat} (h : k < rows.length) : upTo rows k h rows[k].length = flatTo rows (k + 1) := by rw [upTo, List.take_length, flatTo_succ h]
theorem upTo_succ {rows : List (List V3)} {k : Nat} (h : k < rows.length) {j : Nat} (hj : j < rows[k].length) : upTo rows k h (j + 1) = upTo rows k h j ++ [(⟨k, h⟩, rows[k][j])] := by
  rw [upTo, upTo, List.take_succ_eq_append_getElem hj, List.map_append, List.append_assoc]; rfl
theorem upTo_pre {rows : List (List V3)} {k : Nat} (h : k < rows.length) (j : Nat) : upTo rows k h j <+: flat rows := by
  refine List.IsPrefix.trans ?_ (flatTo_pre rows (k + 1) rows.length h)
  rw [flatTo_succ h]
  exact (List.prefix_append_right_inj _).2 ((List.take_prefix j rows[k]).map _)
theorem upTo_lt {rows : List (List V3)} {k : Nat} (h : k < rows.length) {j : Nat} (hj : j < rows[k].length) : (upTo rows k h j).length < (flat rows).length := by
  have := (upTo_pre h (j + 1)).length_le
  rw [upTo_succ h hj] at this
  simp at this
  omega
/-- What lies in the blocks from N1 to N0 stays. -/
def Keep2 (N1 N0 : Nat) (w w' : World) : Prop := w.heap.size ≤ w'.heap.size ∧ ∀ j, N1 ≤ j → j < N0 → w'.heap[j]? = w.heap[j]?
theorem Keep2.cell {N1 N0 : Nat} {w w' : World} (h : Keep2 N1 N0 w w') {j k : Nat} (h1 : N1 ≤ j) (h2 : j < N0) : w'.cell? ⟨j, k, none⟩ = w.cell? ⟨j, k, none⟩ := World.cell?_of_block (h.2 j h1 h2)
theorem Keep2.trans {N1 N0 : Nat} {x y z : World} (h : Keep2 N1 N0 x y) (k : Keep2 N1 N0 y z) : Keep2 N1 N0 x z := ⟨Nat.le_trans h.1 k.1, fun j h1 h2 => (k.2 j h1 h2).trans (h.2 j h1 h2)⟩
theorem Keep2.refl (N1 N0 : Nat) (x : World) : Keep2 N1 N0 x x := ⟨Nat.le_refl _, fun _ _ _ => rfl⟩
theorem Keep2.below {N1 N0 N : Nat} {w w' : World} (h : Below N w w') (hN : N0 ≤ N) : Keep2 N1 N0 w w' := ⟨h.size, fun j _ h2 => h.block j (by omega)⟩
theorem Keep2.put {N1 N0 : Nat} {w : World} (hB : N0 ≤ w.heap.size) (W : World) (l : Nat) (o o' : Obj) (hl : w.heap.size ≤ l) (h : W.heap[l]? = some o) (_ : o.isCells = false) (_ : o.isWalk = false) : Keep2 N1 N0 W (W.putObj l o') :=
  Keep2.below (belowK_b (n₀ := w.heap.size) (w := w) (Nat.le_refl _) W l o o' hl h (by assumption) (by assumption)) hB
def ReadsIn (w : World) (N1 N0 size : Nat) (A : Option Addr) (n : Nat) (xs : List Value) : Prop :=
  xs.length = n * size ∧ (0 < n → ∃ ad, A = some ad ∧ N1 ≤ ad.block ∧ ad.block < N0 ∧ ∀ j u, xs[j]? = some u → w.cell? (ad.add j) = some u)
theorem cell_add {w w' : World} {ad : Addr} (h : w'.heap[ad.block]? = w.heap[ad.block]?) (j : Nat) : w'.cell? (ad.add j) = w.cell? (ad.add j) :=
  World.cell?_of_block (by rw [block_of_add]; exact h)
theorem ReadsIn.keep {w w' : World} {N1 N0 size : Nat} {A : Option Addr} {n : Nat} {xs : List Value} (h : ReadsIn w N1 N0 size A n xs) (k : Keep2 N1 N0 w w') : ReadsIn w' N1 N0 size A n xs :=
  ⟨h.1, fun hn => by
    obtain ⟨ad, e, h1, h2, h3⟩ := h.2 hn
    exact ⟨ad, e, h1, h2, fun j u hj => (cell_add (k.2 _ h1 h2) j).trans (h3 j u hj)⟩⟩
theorem ReadsIn.to {w : World} {N1 N0 size : Nat} {A : Option Addr} {n : Nat} {xs : List Value} (h : ReadsIn w N1 N0 size A n xs) : Reads w N0 size A n xs :=
  ⟨h.1, fun hn => by
    obtain ⟨ad, e, h1, h2, h3⟩ := h.2 hn
    exact ⟨ad, e, h2, h3⟩⟩
theorem ReadsIn.of_own {w : World} {N1 : Nat} {e : TypeId} {size n : Nat} {v : Value} {xs : List Value} (h : w.ownsRow N1 e size v n xs) : ∃ A c, v = .slice A n c ∧ ReadsIn w N1 w.heap.size size A n xs := by
  have h' := h
  have hl := h.1
  rcases h.2 with ⟨rfl, rfl⟩ | ⟨g, cap, cur, rfl, hb, _⟩
  · exact ⟨none, 0, rfl, hl, fun h => by omega⟩
  · refine ⟨_, cap, rfl, hl, fun hn => ?_⟩
    obtain ⟨ad, e, h1, h2⟩ := (Reads.of_own h').2 hn
    injection e with e
    subst e
    exact ⟨_, rfl, hb, h1, h2⟩
/-- A grid in a box, with its rows, all in the blocks from N1 to N0. -/
structure AllAt (N1 N0 B : Nat) (X Z W D : Int) (A : Option Addr) (n c : Nat) (rows : List (List V3)) (w : World) : Prop where
  hx : w.cell? ⟨B, 0, none⟩ = some (.int .i64 X)
  hz : w.cell? ⟨B, 1, none⟩ = some (.int .i64 Z)
  hw : w.cell? ⟨B, 2, none⟩ = some (.int .i64 W)
  hd : w.cell? ⟨B, 3, none⟩ = some (.int .i64 D)
  hf : w.cell? ⟨B, 4, none⟩ = some (.slice A n c)
  hB : N1 ≤ B
  lB : B < N0
  lt : N0 ≤ w.heap.size
  len : n = rows.length
  rows : ∃ hd : List Value, ReadsIn w N1 N0 1 A n hd ∧ ∀ (i : Nat) (r : List V3), rows[i]? = some r → ∃ (Ai : Option Addr) (ci : Nat), hd[i]? = some (Value.slice Ai r.length ci) ∧ ReadsIn w N1 N0 3 Ai r.length (vcs r)
theorem AllAt.keep {N1 N0 B : Nat} {X Z W D : Int} {A : Option Addr} {n c : Nat} {rows : List (List V3)} {w w' : World} (h : AllAt N1 N0 B X Z W D A n c rows w) (k : Keep2 N1 N0 w w') : AllAt N1 N0 B X Z W D A n c rows w' := by
  obtain ⟨h0, h1, h2, h3, h4, h5, h6, h7, h8, hd, h9, h10⟩ := h
  refine ⟨(k.cell h5 h6).trans h0, (k.cell h5 h6).trans h1, (k.cell h5 h6).trans h2, (k.cell h5 h6).trans h3, (k.cell h5 h6).trans h4, h5, h6, Nat.le_trans h7 k.1, h8, hd, h9.keep k, fun i r hr => ?_⟩
  obtain ⟨Ai, ci, a, b⟩ := h10 i r hr
  exact ⟨Ai, ci, a, b.keep k⟩
theorem AllAt.of {N1 B : Nat} {X Z W D : Int} {v : Value} {rows : List (List V3)} {w : World} (hB : N1 ≤ B) (h : GB B X Z W D v w) (ho : OwnRows w N1 v rows) : ∃ A c, AllAt N1 w.heap.size B X Z W D A rows.length c rows w := by
  obtain ⟨hd, h1, h2⟩ := ho
  obtain ⟨A, c, rfl, h3⟩ := ReadsIn.of_own h1
  obtain ⟨v0, v1, v2, v3, v4, _⟩ := h.cells
  refine ⟨A, c, v0, v1, v2, v3, v4, hB, h.lt, Nat.le_refl _, rfl, hd, h3, fun i r hr => ?_⟩
  obtain ⟨u, a, b⟩ := h2 i r hr
  obtain ⟨Ai, ci, rfl, d⟩ := ReadsIn.of_own b
  exact ⟨Ai, ci, a, d⟩
theorem AllAt.row {N1 N0 B : Nat} {X Z W D : Int} {A : Option Addr} {n c : Nat} {rows : List (List V3)} {w : World} (h : AllAt N1 N0 B X Z W D A n c rows w) {i : Nat} {r : List V3} (hi : rows[i]? = some r) :
    ∃ ad Ai ci, A = some ad ∧ w.cell? (ad.add i) = some (.slice Ai r.length ci) ∧ ReadsIn w N1 N0 3 Ai r.length (vcs r) := by
  obtain ⟨hd, h1, h2⟩ := h.rows
  obtain ⟨Ai, ci, a, b⟩ := h2 i r hi
  have hlt := (List.getElem?_eq_some_iff.1 hi).1
  have hl := h.len
  obtain ⟨ad, e, _, _, hc⟩ := h1.2 (by omega)
  exact ⟨ad, Ai, ci, e, hc _ _ a, b⟩
/-- What is yielded of a floor. -/
def spotOf {n : Nat} (X Z W : Int) (x : Fin n × V3) : Array Value := #[.agg #[.int .i64 (X + ((x.1 : Nat) : Int) % W), .int .i64 (Z + ((x.1 : Nat) : Int) / W), .int .i64 x.2.x], .agg #[.int .i64 x.2.x, .int .i64 x.2.y, .int .i64 x.2.z]]
theorem spot_bd {X Z W D : Int} {rows : List (List V3)} (ho : gridOk X Z W D rows) {k : Nat} (hk : k < rows.length) : 0 < W ∧ 0 ≤ (k : Int) % W ∧ (k : Int) % W < 64 ∧ 0 ≤ (k : Int) / W ∧ (k : Int) / W < 64 := by
  obtain ⟨_, _, _, _, o5, o6, o7, o8, o9, _⟩ := ho
  have hW : 0 < W := by
    rcases Int.lt_or_le 0 W with h | h
    · exact h
    · obtain rfl : W = 0 := by omega
      rw [Int.zero_mul] at o9
      omega
  have h1 := Int.emod_nonneg (k : Int) (by omega : W ≠ 0)
  have h2 := Int.emod_lt_of_pos (k : Int) hW
  have h3 := Int.ediv_nonneg (a := (k : Int)) (b := W) (by omega) (by omega)
  have h4 : (k : Int) / W < D := Int.ediv_lt_of_lt_mul hW (by rw [Int.mul_comm]; omega)
  omega
set_option maxRecDepth 100000 in
set_option maxHeartbeats 4000000 in
theorem all1_in (n : Nat) (hn : 1 ≤ n) (l N1 N0 B : Nat) (X Z W D : Int) (A : Option Addr) (c : Nat) (rows : List (List V3)) (ho : gridOk X Z W D rows) (J Jx : List (Fin rows.length × V3) → World → Prop)
    (hY : ∀ pre x Wd, J pre Wd → pre.length < (flat rows).length → YieldAt Fence.wide (n - 1) Try.prog l (spotOf X Z W x) Wd fun e W' =>
      (e = .returned (.bool true) ∧ J (pre ++ [x]) W' ∧ Keep2 N1 N0 Wd W') ∨ (e = .returned (.bool false) ∧ Jx (pre ++ [x]) W'))
    (Wd : World) (hJ : AbidesFrom Wd.heap.size J) (hE : AllAt N1 N0 B X Z W D A rows.length c rows Wd) (h0 : J [] Wd) :
    CallsIn Fence.wide n Try.prog 47 #[.func (.yield l) #[] #[], .pointer (some ⟨B, 0, none⟩)] Wd fun e W' => (∃ v, e = .returned v) ∧
      ((∃ ys, ys = flat rows ∧ J ys W') ∨ (∃ pre, pre <+: flat rows ∧ Jx pre W')) := by
  have h8 : ∀ r ∈ rows, r.length ≤ 8 := fun r hm => (ho.2.2.2.2.2.2.2.2.2 r hm).2
  have hrl : rows.length ≤ 4096 := by
    obtain ⟨_, _, _, _, o5, o6, o7, o8, o9, _⟩ := ho
    have := Int.mul_le_mul o6 o8 o7 (by omega : (0 : Int) ≤ 64)
    omega
  obtain ⟨i1, i2, i3, i4, i5, i6, i7, i8, i9, i10⟩ := id hE
  refine callsIn_of_wp Try.func47 rfl trivial ?_ rfl
  simp only [Try.ntmps47, List.size_toArray, List.length_cons, List.length_nil, Nat.reduceAdd, Nat.reduceSub, Array.replicate_succ, Array.replicate_zero, List.push_toArray, List.append_toArray, List.nil_append, List.cons_append]
  gi_wp2
  clear i1 i2 i3 i4 i5 i9 i10
  gi_loopw [10] (fun x wr => ∃ k : Nat, x = .int .i64 k ∧ k ≤ rows.length ∧ AllAt N1 N0 B X Z W D A rows.length c rows wr ∧ J (flatTo rows k) wr ∧ Wd.heap.size ≤ wr.heap.size)
    (fun x _ => rows.length - (intOf x).toNat)
  case atStart => exact ⟨0, rfl, Nat.zero_le _, hE, h0, Nat.le_refl _⟩
  case round =>
    obtain ⟨k, rfl, hk, hE2, hJ2, hs2⟩ := hrel
    by_cases hkn : k < rows.length
    · obtain ⟨ad, Ai, ci, rfl, hc, hrd⟩ := hE2.row (List.getElem?_eq_getElem hkn)
      have hr8 := h8 _ (List.getElem_mem hkn)
      have hkn' : (k : Int) < (rows.length : Int) := by omega
      have hbd := spot_bd ho hkn
      have hJ0 : J (upTo rows k hkn 0) wr := by rw [upTo_zero hkn]; exact hJ2
      gi_wp2
      clear hc
      gi_loopw [17] (fun x wt => ∃ j : Nat, x = .int .i64 j ∧ j ≤ rows[k].length ∧ AllAt N1 N0 B X Z W D (some ad) rows.length c rows wt ∧ J (upTo rows k hkn j) wt ∧ Wd.heap.size ≤ wt.heap.size ∧ ReadsIn wt N1 N0 3 Ai rows[k].length (vcs rows[k]))
        (fun x _ => rows[k].length - (intOf x).toNat)
      case atStart => exact ⟨0, rfl, Nat.zero_le _, hE2, hJ0, hs2, hrd⟩
      case round =>
        obtain ⟨j, rfl, hj, hE3, hJ3, hs3, hrd3⟩ := hrel
        by_cases hjn : j < rows[k].length
        · have hjn' : (j : Int) < (rows[k].length : Int) := by omega
          obtain ⟨ad', rfl, hlt, hc0, hc1, hc2⟩ := v3_at hrd3.to hjn
          have hUs := upTo_succ hkn hjn
          have hUl := upTo_lt hkn hjn
          have hW0 : W ≠ 0 := by omega
          have hk0 : (0 : Int) ≤ (k : Int) := by omega
          have hbl : B < wr.heap.size := Nat.lt_of_lt_of_le hE3.lB hE3.lt
          gi_wp2
          obtain ⟨W1, hW1⟩ : ∃ W1, (wr.alloc (Obj.cells #[Value.int IntKind.i64 rows[k][j].x, Value.int IntKind.i64 rows[k][j].y, Value.int IntKind.i64 rows[k][j].z] 39)) = W1 := ⟨_, rfl⟩
          have hE4 : AllAt N1 N0 B X Z W D (some ad) rows.length c rows W1 := by rw [← hW1]; exact hE3.keep (Keep2.below ((Below.refl wr.heap.size wr).alloc (Nat.le_refl _) _) hE3.lt)
          have hf : W1.cell? ⟨wr.heap.size, 0, none⟩ = some (.int .i64 rows[k][j].x) ∧ W1.cell? ⟨wr.heap.size, 1, none⟩ = some (.int .i64 rows[k][j].y) ∧ W1.cell? ⟨wr.heap.size, 2, none⟩ = some (.int .i64 rows[k][j].z) := by
            rw [← hW1]; exact ⟨World.cell?_alloc_at _ _ _ _ rfl, World.cell?_alloc_at _ _ _ _ rfl, World.cell?_alloc_at _ _ _ _ rfl⟩
          rw [hW1]
          refine wpIn_region_tail2 (List.replicate 19 true) (fun w' => w'.cell? ⟨B, 0, none⟩ = some (.int .i64 X) ∧ w'.cell? ⟨B, 1, none⟩ = some (.int .i64 Z) ∧ w'.cell? ⟨B, 2, none⟩ = some (.int .i64 W) ∧
            w'.cell? ⟨wr.heap.size, 0, none⟩ = some (.int .i64 rows[k][j].x) ∧ w'.cell? ⟨wr.heap.size, 1, none⟩ = some (.int .i64 rows[k][j].y) ∧ w'.cell? ⟨wr.heap.size, 2, none⟩ = some (.int .i64 rows[k][j].z)) (fun _ => trivial) rfl (by intro c d v a w h; cases d <;> exact h) (by kernel_rfl) ?_
          have hS : (fun w' : World => w'.cell? ⟨B, 0, none⟩ = some (.int .i64 X) ∧ w'.cell? ⟨B, 1, none⟩ = some (.int .i64 Z) ∧ w'.cell? ⟨B, 2, none⟩ = some (.int .i64 W) ∧
            w'.cell? ⟨wr.heap.size, 0, none⟩ = some (.int .i64 rows[k][j].x) ∧ w'.cell? ⟨wr.heap.size, 1, none⟩ = some (.int .i64 rows[k][j].y) ∧ w'.cell? ⟨wr.heap.size, 2, none⟩ = some (.int .i64 rows[k][j].z)) W1.drew := ⟨hE4.hx, hE4.hz, hE4.hw, hf.1, hf.2.1, hf.2.2⟩
          simp only [List.replicate, List.length_cons, List.length_nil, Nat.reduceAdd, List.take_succ_cons, List.take_zero, List.drop_succ_cons, List.drop_zero]
          iterate 19 (apply wpHd_quiet rfl hS; (intro w' hw'; obtain ⟨q0, q1, q2, q3, q4, q5⟩ := hw'; go_simp; first | exact rfl | (rw [if_neg hW0, Int.tmod_eq_emod_of_nonneg hk0]; exact rfl) | (rw [if_neg hW0, Int.tdiv_eq_ediv_of_nonneg hk0]; exact rfl)); go_simp)
          refine wpHd_nil ?_
          have hx1 := ho.1
          have hx2 := ho.2.1
          have hz1 := ho.2.2.1
          have hz2 := ho.2.2.2.1
          have e1 : IntKind.i64.wrap (X + (k : Int).tmod W) = X + (k : Int) % W := by rw [Int.tmod_eq_emod_of_nonneg hk0, IntKind.wrap_i64]; omega
          have e2 : IntKind.i64.wrap ((k : Int) / W) = (k : Int) / W := by rw [IntKind.wrap_i64]; omega
          have e3 : IntKind.i64.wrap (Z + (k : Int) / W) = Z + (k : Int) / W := by rw [IntKind.wrap_i64]; omega
          rw [e1, e2, e3]
          have hbW : Below wr.heap.size wr W1.drew := by rw [← hW1]; exact ((Below.refl wr.heap.size wr).alloc (Nat.le_refl _) _).drew
          clear e1 e2 e3 hx1 hx2 hz1 hz2 hS hf hW1 hc0 hc1 hc2
          obtain ⟨fn, tmps, assign, body, hy, hR⟩ := hY (upTo rows k hkn j) (⟨k, hkn⟩, rows[k][j]) W1.drew (hJ _ _ _ none hJ3 (grown_of_below hbW) (by intro r hr; cases hr)) hUl
          simp only [spotOf] at hy
          gi_wp2
          refine hR.mono ?_
          rintro e W3 (⟨rfl, hJ4, hk4⟩ | ⟨rfl, hJx4⟩)
          · have hk5 : Keep2 N1 N0 wr W3 := (Keep2.below hbW hE3.lt).trans hk4
            gi_wp2
            go_roundw
            case rel => exact ⟨j + 1, by go_num, by omega, hE3.keep hk5, by rw [hUs]; exact hJ4, Nat.le_trans hs3 hk5.1, hrd3.keep hk5⟩
            case measure => simp [intOf]; omega
          · gi_wp2
            refine bodyPost_ret (results_none rfl _ _ _) rfl ?_
            exact ⟨⟨_, rfl⟩, .inr ⟨_, hUs ▸ upTo_pre hkn (j + 1), hJx4⟩⟩
        · obtain rfl : j = rows[k].length := by omega
          have hUe := upTo_end hkn
          gi_wp2
          go_roundw
          case rel => exact ⟨k + 1, by go_num, by omega, hE3, by rw [← hUe]; exact hJ3, hs3⟩
          case measure => simp [intOf]; omega
    · obtain rfl : k = rows.length := by omega
      gi_wp2
      go_end0
      exact ⟨⟨_, rfl⟩, .inl ⟨_, rfl, hJ2⟩⟩
theorem all1_stops (n : Nat) (hn : 1 ≤ n) (N1 N0 B : Nat) (X Z W D : Int) (A : Option Addr) (c : Nat) (rows : List (List V3)) (ho : gridOk X Z W D rows) (w : World) (hE : AllAt N1 N0 B X Z W D A rows.length c rows w) :
    SeqStopsK Fence.wide n Try.prog 47 #[.pointer (some ⟨B, 0, none⟩)] (spotOf X Z W) (Keep2 N1 N0) (fun ys => ys = flat rows) (fun pre => pre <+: flat rows) (flat rows).length w := fun l J Jx Wd hW hJ _ hY h0 =>
  all1_in n hn l N1 N0 B X Z W D A c rows ho J Jx hY Wd hJ (hE.keep (Keep2.below hW hE.lt)) h0
end Go.Proofs.Ytbjbiimkhpfieaa
