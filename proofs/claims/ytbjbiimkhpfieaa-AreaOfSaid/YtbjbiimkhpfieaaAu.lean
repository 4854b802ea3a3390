/- footpathref12.Of by a walk: it tells what area.Of tells. No conditions but that the boxes lie where they are said to lie. -/
import Derived.Test.YtbjbiimkhpfieaaAi
import Derived.Test.YtbjbiimkhpfieaaAv
import Derived.WalkKit
import Derived.TacticsInMore
import Derived.LoopNIn
import Derived.LoopIn
import Derived.Maps.OwnIn
namespace Go.Proofs.Ytbjbiimkhpfieaa
open Go Go.RowKit Go.Sx
attribute [local go_sem] Oper.semAt_some
theorem lastF_succ {l : List B8} {k : Nat} (hk : k < l.length) (x z y : Int) : lastF (l.take (k + 1)) x z y = lastStep x z y (lastF (l.take k) x z y) l[k] := by
  rw [List.take_succ_eq_append_getElem hk, lastF_snoc]
/-- Where the best is. -/
def BestAt (l : List B8) (x z y : Int) (k : Nat) (b : Int) : Prop := (b = -1 ∧ lastF (l.take k) x z y = none) ∨ (∃ j : Nat, j < k ∧ b = j ∧ lastF (l.take k) x z y = l[j]?)
set_option maxHeartbeats 4000000 in
set_option maxRecDepth 100000 in
theorem rof_any (l : List B8) (A : Option Addr) (cap : Nat) (x z y : Int) (w : World) (hr : Reads w w.heap.size 8 A l.length (bcs l)) (hl : l.length ≤ 9223372036854775807) :
    Calls Try.prog 20 #[.slice A l.length cap, .agg #[.int .i64 x, .int .i64 z, .int .i64 y]] w fun en w' => en = .returned (.int .i64 (ofF l x z y)) ∧ Below w.heap.size w w' := by
  obtain ⟨W0, hW0⟩ : ∃ W0, w.alloc (.cells #[.int .i64 x, .int .i64 z, .int .i64 y] 47) = W0 := ⟨_, rfl⟩
  have hb0 : Below w.heap.size w W0 := by rw [← hW0]; exact (Below.refl _ _).alloc (Nat.le_refl _) _
  have hs0 : SpotAt w.heap.size x z y W0 := by
    rw [← hW0]
    exact ⟨World.cell?_alloc_at _ _ _ _ rfl, World.cell?_alloc_at _ _ _ _ rfl, World.cell?_alloc_at _ _ _ _ rfl, by simp⟩
  refine (callsIn_wide (n := 6)).1 ?_
  refine callsIn_of_wp Try.func20 rfl trivial ?_ rfl
  simp only [Try.ntmps20, List.size_toArray, List.length_cons, List.length_nil, Nat.reduceAdd, Nat.reduceSub, Array.replicate_succ, Array.replicate_zero, List.push_toArray, List.append_toArray, List.nil_append, List.cons_append]
  gi_wp2
  try rw [hW0]
  clear hW0
  gi_loopw [6, 5] (fun i b wr => ∃ (k : Nat) (bb : Int), i = .int .i64 k ∧ b = .int .i64 bb ∧ k ≤ l.length ∧ BestAt l x z y k bb ∧ Below W0.heap.size W0 wr)
    (fun i _ _ => l.length - (intOf i).toNat)
  case atStart => exact ⟨0, -1, rfl, rfl, Nat.zero_le _, .inl ⟨rfl, rfl⟩, Below.refl _ _⟩
  case round =>
    obtain ⟨k, bb, rfl, rfl, hk, hbest, hbr⟩ := hrel
    obtain ⟨s0, s1, s2, slt⟩ := hs0.below hbr hs0.lt
    have hbrw := hb0.trans (hbr.mono hb0.size)
    have hrr := (hr.below hbrw).more hbrw.size
    by_cases hkn : k < l.length
    · have hkn' : (k : Int) < (l.length : Int) := by omega
      obtain ⟨ad, rfl, hlt, x0, x1, x2, x3, x4, x5, x6, x7⟩ := b8_at hrr hkn
      have hin := fun w => rIn_any l[k] x z y w
      unfold B8.cs at hin
      have hsucc := lastF_succ hkn x z y
      cases hi : inB l[k] x z y
      · have hst : BestAt l x z y (k + 1) bb := by
          unfold BestAt at hbest ⊢
          rw [hsucc, lastStep, if_neg (by rw [hi]; simp)]
          rcases hbest with h | ⟨j, h1, h2, h3⟩
          · exact .inl h
          · exact .inr ⟨j, by omega, h2, h3⟩
        rw [hi] at hin
        clear hbest hsucc
        gi_wp2
        refine wpIn_region_ord [(0, true), (1, true), (2, true), (3, true), (4, true), (5, false), (6, true), (7, true), (8, true), (9, true), (10, true), (11, true), (12, true), (13, true), (14, true), (15, true), (16, true), (17, true), (18, true), (19, true), (20, true), (21, true)] (fun w' => w'.cell? (ad.add (k * 8)) = some (.int .i64 l[k].id) ∧ w'.cell? ⟨(ad.add (k * 8)).block, (ad.add (k * 8)).off + 1, none⟩ = some (.int .i64 l[k].x0) ∧ w'.cell? ⟨(ad.add (k * 8)).block, (ad.add (k * 8)).off + 2, none⟩ = some (.int .i64 l[k].z0) ∧ w'.cell? ⟨(ad.add (k * 8)).block, (ad.add (k * 8)).off + 3, none⟩ = some (.int .i64 l[k].x1) ∧ w'.cell? ⟨(ad.add (k * 8)).block, (ad.add (k * 8)).off + 4, none⟩ = some (.int .i64 l[k].z1) ∧ w'.cell? ⟨(ad.add (k * 8)).block, (ad.add (k * 8)).off + 5, none⟩ = some (.int .i64 l[k].y0) ∧ w'.cell? ⟨(ad.add (k * 8)).block, (ad.add (k * 8)).off + 6, none⟩ = some (.int .i64 l[k].y1) ∧ w'.cell? ⟨(ad.add (k * 8)).block, (ad.add (k * 8)).off + 7, none⟩ = some (.int .i64 l[k].ar) ∧ w'.cell? ⟨w.heap.size, 0, none⟩ = some (.int .i64 x) ∧ w'.cell? ⟨w.heap.size, 1, none⟩ = some (.int .i64 z) ∧ w'.cell? ⟨w.heap.size, 2, none⟩ = some (.int .i64 y)) (fun _ => trivial) rfl (by intro c d v a w h; cases d <;> exact h) (by kernel_rfl) ?_
        have hS : (fun w' : World => w'.cell? (ad.add (k * 8)) = some (.int .i64 l[k].id) ∧ w'.cell? ⟨(ad.add (k * 8)).block, (ad.add (k * 8)).off + 1, none⟩ = some (.int .i64 l[k].x0) ∧ w'.cell? ⟨(ad.add (k * 8)).block, (ad.add (k * 8)).off + 2, none⟩ = some (.int .i64 l[k].z0) ∧ w'.cell? ⟨(ad.add (k * 8)).block, (ad.add (k * 8)).off + 3, none⟩ = some (.int .i64 l[k].x1) ∧ w'.cell? ⟨(ad.add (k * 8)).block, (ad.add (k * 8)).off + 4, none⟩ = some (.int .i64 l[k].z1) ∧ w'.cell? ⟨(ad.add (k * 8)).block, (ad.add (k * 8)).off + 5, none⟩ = some (.int .i64 l[k].y0) ∧ w'.cell? ⟨(ad.add (k * 8)).block, (ad.add (k * 8)).off + 6, none⟩ = some (.int .i64 l[k].y1) ∧ w'.cell? ⟨(ad.add (k * 8)).block, (ad.add (k * 8)).off + 7, none⟩ = some (.int .i64 l[k].ar) ∧ w'.cell? ⟨w.heap.size, 0, none⟩ = some (.int .i64 x) ∧ w'.cell? ⟨w.heap.size, 1, none⟩ = some (.int .i64 z) ∧ w'.cell? ⟨w.heap.size, 2, none⟩ = some (.int .i64 y)) wr.drew := ⟨x0, x1, x2, x3, x4, x5, x6, x7, s0, s1, s2⟩
        simp only [List.length_cons, List.length_nil, Nat.reduceAdd, List.drop_succ_cons, List.drop_zero]
        iterate 5 (apply wpOrd_quiet rfl hS rfl; (intro w' hw'; obtain ⟨q0, q1, q2, q3, q4, q5, q6, q7, q8, q9, q10⟩ := hw'; go_simp; exact rfl); go_simp)
        refine wpOrd_move rfl rfl ?_
        go_simp
        refine ⟨trivial, (callsIn_wide.2 (hin _)).mono ?_⟩
        rintro en w5 ⟨rfl, hb5⟩
        have hb5w : Below wr.heap.size wr w5 := ((Below.refl _ _).drew).trans hb5
        have c5 : ∀ b q, b < wr.heap.size → w5.cell? ⟨b, q, none⟩ = wr.cell? ⟨b, q, none⟩ := fun b q hq => hb5w.cell (by exact hq)
        have hS5 : (fun w' : World => w'.cell? (ad.add (k * 8)) = some (.int .i64 l[k].id) ∧ w'.cell? ⟨(ad.add (k * 8)).block, (ad.add (k * 8)).off + 1, none⟩ = some (.int .i64 l[k].x0) ∧ w'.cell? ⟨(ad.add (k * 8)).block, (ad.add (k * 8)).off + 2, none⟩ = some (.int .i64 l[k].z0) ∧ w'.cell? ⟨(ad.add (k * 8)).block, (ad.add (k * 8)).off + 3, none⟩ = some (.int .i64 l[k].x1) ∧ w'.cell? ⟨(ad.add (k * 8)).block, (ad.add (k * 8)).off + 4, none⟩ = some (.int .i64 l[k].z1) ∧ w'.cell? ⟨(ad.add (k * 8)).block, (ad.add (k * 8)).off + 5, none⟩ = some (.int .i64 l[k].y0) ∧ w'.cell? ⟨(ad.add (k * 8)).block, (ad.add (k * 8)).off + 6, none⟩ = some (.int .i64 l[k].y1) ∧ w'.cell? ⟨(ad.add (k * 8)).block, (ad.add (k * 8)).off + 7, none⟩ = some (.int .i64 l[k].ar) ∧ w'.cell? ⟨w.heap.size, 0, none⟩ = some (.int .i64 x) ∧ w'.cell? ⟨w.heap.size, 1, none⟩ = some (.int .i64 z) ∧ w'.cell? ⟨w.heap.size, 2, none⟩ = some (.int .i64 y)) w5 := by
          refine ⟨(hb5w.cell hlt).trans x0, (c5 _ _ hlt).trans x1, (c5 _ _ hlt).trans x2, (c5 _ _ hlt).trans x3, (c5 _ _ hlt).trans x4, (c5 _ _ hlt).trans x5, (c5 _ _ hlt).trans x6, (c5 _ _ hlt).trans x7, (c5 _ _ slt).trans s0, (c5 _ _ slt).trans s1, (c5 _ _ slt).trans s2⟩
        refine ⟨hS5, ?_⟩
        go_simp
        iterate 1 (apply wpOrd_quiet rfl hS5 rfl; (intro w' hw'; obtain ⟨q0, q1, q2, q3, q4, q5, q6, q7, q8, q9, q10⟩ := hw'; go_simp; exact rfl); go_simp)
        iterate 15 (refine wpOrd_off rfl hS5 rfl ?_; go_simp)
        refine wpOrd_nil ?_
        have hbn : Below W0.heap.size W0 w5 := hbr.trans (hb5w.mono hbr.size)
        clear hS hS5 c5 hb5 hb5w x0 x1 x2 x3 x4 x5 x6 x7 s0 s1 s2 hin
        gi_wp2
        go_roundw
        case rel => exact ⟨k + 1, _, by go_num, rfl, by omega, hst, hbn⟩
        case measure => show l.length - ((k : Int) + 1).toNat < l.length - ((k : Int)).toNat; omega
      · rw [hi] at hin
        rcases hbest with ⟨rfl, hn⟩ | ⟨j, hj, rfl, hn⟩
        · have hst : BestAt l x z y (k + 1) (k : Int) := by
            refine .inr ⟨k, by omega, rfl, ?_⟩
            rw [hsucc, lastStep, hn, if_pos ⟨hi, fun p h => by cases h⟩, List.getElem?_eq_getElem hkn]
          clear hsucc
          gi_wp2
          refine wpIn_region_ord [(0, true), (1, true), (2, true), (3, true), (4, true), (5, false), (6, true), (7, true), (8, true), (9, true), (10, true), (11, true), (12, true), (13, true), (14, true), (15, true), (16, true), (17, true), (18, true), (19, true), (20, true), (21, true)] (fun w' => w'.cell? (ad.add (k * 8)) = some (.int .i64 l[k].id) ∧ w'.cell? ⟨(ad.add (k * 8)).block, (ad.add (k * 8)).off + 1, none⟩ = some (.int .i64 l[k].x0) ∧ w'.cell? ⟨(ad.add (k * 8)).block, (ad.add (k * 8)).off + 2, none⟩ = some (.int .i64 l[k].z0) ∧ w'.cell? ⟨(ad.add (k * 8)).block, (ad.add (k * 8)).off + 3, none⟩ = some (.int .i64 l[k].x1) ∧ w'.cell? ⟨(ad.add (k * 8)).block, (ad.add (k * 8)).off + 4, none⟩ = some (.int .i64 l[k].z1) ∧ w'.cell? ⟨(ad.add (k * 8)).block, (ad.add (k * 8)).off + 5, none⟩ = some (.int .i64 l[k].y0) ∧ w'.cell? ⟨(ad.add (k * 8)).block, (ad.add (k * 8)).off + 6, none⟩ = some (.int .i64 l[k].y1) ∧ w'.cell? ⟨(ad.add (k * 8)).block, (ad.add (k * 8)).off + 7, none⟩ = some (.int .i64 l[k].ar) ∧ w'.cell? ⟨w.heap.size, 0, none⟩ = some (.int .i64 x) ∧ w'.cell? ⟨w.heap.size, 1, none⟩ = some (.int .i64 z) ∧ w'.cell? ⟨w.heap.size, 2, none⟩ = some (.int .i64 y)) (fun _ => trivial) rfl (by intro c d v a w h; cases d <;> exact h) (by kernel_rfl) ?_
          have hS : (fun w' : World => w'.cell? (ad.add (k * 8)) = some (.int .i64 l[k].id) ∧ w'.cell? ⟨(ad.add (k * 8)).block, (ad.add (k * 8)).off + 1, none⟩ = some (.int .i64 l[k].x0) ∧ w'.cell? ⟨(ad.add (k * 8)).block, (ad.add (k * 8)).off + 2, none⟩ = some (.int .i64 l[k].z0) ∧ w'.cell? ⟨(ad.add (k * 8)).block, (ad.add (k * 8)).off + 3, none⟩ = some (.int .i64 l[k].x1) ∧ w'.cell? ⟨(ad.add (k * 8)).block, (ad.add (k * 8)).off + 4, none⟩ = some (.int .i64 l[k].z1) ∧ w'.cell? ⟨(ad.add (k * 8)).block, (ad.add (k * 8)).off + 5, none⟩ = some (.int .i64 l[k].y0) ∧ w'.cell? ⟨(ad.add (k * 8)).block, (ad.add (k * 8)).off + 6, none⟩ = some (.int .i64 l[k].y1) ∧ w'.cell? ⟨(ad.add (k * 8)).block, (ad.add (k * 8)).off + 7, none⟩ = some (.int .i64 l[k].ar) ∧ w'.cell? ⟨w.heap.size, 0, none⟩ = some (.int .i64 x) ∧ w'.cell? ⟨w.heap.size, 1, none⟩ = some (.int .i64 z) ∧ w'.cell? ⟨w.heap.size, 2, none⟩ = some (.int .i64 y)) wr.drew := ⟨x0, x1, x2, x3, x4, x5, x6, x7, s0, s1, s2⟩
          simp only [List.length_cons, List.length_nil, Nat.reduceAdd, List.drop_succ_cons, List.drop_zero]
          iterate 5 (apply wpOrd_quiet rfl hS rfl; (intro w' hw'; obtain ⟨q0, q1, q2, q3, q4, q5, q6, q7, q8, q9, q10⟩ := hw'; go_simp; exact rfl); go_simp)
          refine wpOrd_move rfl rfl ?_
          go_simp
          refine ⟨trivial, (callsIn_wide.2 (hin _)).mono ?_⟩
          rintro en w5 ⟨rfl, hb5⟩
          have hb5w : Below wr.heap.size wr w5 := ((Below.refl _ _).drew).trans hb5
          have c5 : ∀ b q, b < wr.heap.size → w5.cell? ⟨b, q, none⟩ = wr.cell? ⟨b, q, none⟩ := fun b q hq => hb5w.cell (by exact hq)
          have hS5 : (fun w' : World => w'.cell? (ad.add (k * 8)) = some (.int .i64 l[k].id) ∧ w'.cell? ⟨(ad.add (k * 8)).block, (ad.add (k * 8)).off + 1, none⟩ = some (.int .i64 l[k].x0) ∧ w'.cell? ⟨(ad.add (k * 8)).block, (ad.add (k * 8)).off + 2, none⟩ = some (.int .i64 l[k].z0) ∧ w'.cell? ⟨(ad.add (k * 8)).block, (ad.add (k * 8)).off + 3, none⟩ = some (.int .i64 l[k].x1) ∧ w'.cell? ⟨(ad.add (k * 8)).block, (ad.add (k * 8)).off + 4, none⟩ = some (.int .i64 l[k].z1) ∧ w'.cell? ⟨(ad.add (k * 8)).block, (ad.add (k * 8)).off + 5, none⟩ = some (.int .i64 l[k].y0) ∧ w'.cell? ⟨(ad.add (k * 8)).block, (ad.add (k * 8)).off + 6, none⟩ = some (.int .i64 l[k].y1) ∧ w'.cell? ⟨(ad.add (k * 8)).block, (ad.add (k * 8)).off + 7, none⟩ = some (.int .i64 l[k].ar) ∧ w'.cell? ⟨w.heap.size, 0, none⟩ = some (.int .i64 x) ∧ w'.cell? ⟨w.heap.size, 1, none⟩ = some (.int .i64 z) ∧ w'.cell? ⟨w.heap.size, 2, none⟩ = some (.int .i64 y)) w5 := by
            refine ⟨(hb5w.cell hlt).trans x0, (c5 _ _ hlt).trans x1, (c5 _ _ hlt).trans x2, (c5 _ _ hlt).trans x3, (c5 _ _ hlt).trans x4, (c5 _ _ hlt).trans x5, (c5 _ _ hlt).trans x6, (c5 _ _ hlt).trans x7, (c5 _ _ slt).trans s0, (c5 _ _ slt).trans s1, (c5 _ _ slt).trans s2⟩
          refine ⟨hS5, ?_⟩
          go_simp
          iterate 4 (apply wpOrd_quiet rfl hS5 rfl; (intro w' hw'; obtain ⟨q0, q1, q2, q3, q4, q5, q6, q7, q8, q9, q10⟩ := hw'; go_simp; exact rfl); go_simp)
          iterate 11 (refine wpOrd_off rfl hS5 rfl ?_; go_simp)
          iterate 1 (apply wpOrd_quiet rfl hS5 rfl; (intro w' hw'; obtain ⟨q0, q1, q2, q3, q4, q5, q6, q7, q8, q9, q10⟩ := hw'; go_simp; exact rfl); go_simp)
          refine wpOrd_nil ?_
          have hbn : Below W0.heap.size W0 w5 := hbr.trans (hb5w.mono hbr.size)
          clear hS hS5 c5 hb5 hb5w x0 x1 x2 x3 x4 x5 x6 x7 s0 s1 s2 hin
          gi_wp2
          go_roundw
          case rel => exact ⟨k + 1, _, by go_num, rfl, by omega, hst, hbn⟩
          case measure => show l.length - ((k : Int) + 1).toNat < l.length - ((k : Int)).toNat; omega
        · have hjn : j < l.length := by omega
          have hj0 : ¬ ((j : Int) < 0) := by omega
          have hjn' : (j : Int) < (l.length : Int) := by omega
          have hsel : BestAt l x z y (k + 1) (if l[j].id ≤ l[k].id then (k : Int) else (j : Int)) := by
            rw [List.getElem?_eq_getElem hjn] at hn
            by_cases hid : l[j].id ≤ l[k].id
            · rw [if_pos hid]
              refine .inr ⟨k, by omega, rfl, ?_⟩
              rw [hsucc, lastStep, hn, if_pos ⟨hi, fun p h => by injection h with h; subst h; exact hid⟩, List.getElem?_eq_getElem hkn]
            · rw [if_neg hid]
              refine .inr ⟨j, by omega, rfl, ?_⟩
              rw [hsucc, lastStep, hn, if_neg (fun h => hid (h.2 _ rfl)), List.getElem?_eq_getElem hjn]
          clear hsucc hn
          obtain ⟨ad2, e2, hlt2, y0, _⟩ := b8_at hrr hjn
          injection e2 with e2
          subst e2
          by_cases hid : l[j].id ≤ l[k].id
          · rw [if_pos hid] at hsel
            gi_wp2
            refine wpIn_region_ord [(0, true), (1, true), (2, true), (3, true), (4, true), (5, false), (6, true), (7, true), (8, true), (9, true), (10, true), (11, true), (12, true), (13, true), (14, true), (15, true), (16, true), (17, true), (18, true), (19, true), (20, true), (21, true)] (fun w' => w'.cell? (ad.add (k * 8)) = some (.int .i64 l[k].id) ∧ w'.cell? ⟨(ad.add (k * 8)).block, (ad.add (k * 8)).off + 1, none⟩ = some (.int .i64 l[k].x0) ∧ w'.cell? ⟨(ad.add (k * 8)).block, (ad.add (k * 8)).off + 2, none⟩ = some (.int .i64 l[k].z0) ∧ w'.cell? ⟨(ad.add (k * 8)).block, (ad.add (k * 8)).off + 3, none⟩ = some (.int .i64 l[k].x1) ∧ w'.cell? ⟨(ad.add (k * 8)).block, (ad.add (k * 8)).off + 4, none⟩ = some (.int .i64 l[k].z1) ∧ w'.cell? ⟨(ad.add (k * 8)).block, (ad.add (k * 8)).off + 5, none⟩ = some (.int .i64 l[k].y0) ∧ w'.cell? ⟨(ad.add (k * 8)).block, (ad.add (k * 8)).off + 6, none⟩ = some (.int .i64 l[k].y1) ∧ w'.cell? ⟨(ad.add (k * 8)).block, (ad.add (k * 8)).off + 7, none⟩ = some (.int .i64 l[k].ar) ∧ w'.cell? ⟨w.heap.size, 0, none⟩ = some (.int .i64 x) ∧ w'.cell? ⟨w.heap.size, 1, none⟩ = some (.int .i64 z) ∧ w'.cell? ⟨w.heap.size, 2, none⟩ = some (.int .i64 y) ∧ w'.cell? (ad.add (j * 8)) = some (.int .i64 l[j].id)) (fun _ => trivial) rfl (by intro c d v a w h; cases d <;> exact h) (by kernel_rfl) ?_
            have hS : (fun w' : World => w'.cell? (ad.add (k * 8)) = some (.int .i64 l[k].id) ∧ w'.cell? ⟨(ad.add (k * 8)).block, (ad.add (k * 8)).off + 1, none⟩ = some (.int .i64 l[k].x0) ∧ w'.cell? ⟨(ad.add (k * 8)).block, (ad.add (k * 8)).off + 2, none⟩ = some (.int .i64 l[k].z0) ∧ w'.cell? ⟨(ad.add (k * 8)).block, (ad.add (k * 8)).off + 3, none⟩ = some (.int .i64 l[k].x1) ∧ w'.cell? ⟨(ad.add (k * 8)).block, (ad.add (k * 8)).off + 4, none⟩ = some (.int .i64 l[k].z1) ∧ w'.cell? ⟨(ad.add (k * 8)).block, (ad.add (k * 8)).off + 5, none⟩ = some (.int .i64 l[k].y0) ∧ w'.cell? ⟨(ad.add (k * 8)).block, (ad.add (k * 8)).off + 6, none⟩ = some (.int .i64 l[k].y1) ∧ w'.cell? ⟨(ad.add (k * 8)).block, (ad.add (k * 8)).off + 7, none⟩ = some (.int .i64 l[k].ar) ∧ w'.cell? ⟨w.heap.size, 0, none⟩ = some (.int .i64 x) ∧ w'.cell? ⟨w.heap.size, 1, none⟩ = some (.int .i64 z) ∧ w'.cell? ⟨w.heap.size, 2, none⟩ = some (.int .i64 y) ∧ w'.cell? (ad.add (j * 8)) = some (.int .i64 l[j].id)) wr.drew := ⟨x0, x1, x2, x3, x4, x5, x6, x7, s0, s1, s2, y0⟩
            simp only [List.length_cons, List.length_nil, Nat.reduceAdd, List.drop_succ_cons, List.drop_zero]
            iterate 5 (apply wpOrd_quiet rfl hS rfl; (intro w' hw'; obtain ⟨q0, q1, q2, q3, q4, q5, q6, q7, q8, q9, q10, q11⟩ := hw'; go_simp; exact rfl); go_simp)
            refine wpOrd_move rfl rfl ?_
            go_simp
            refine ⟨trivial, (callsIn_wide.2 (hin _)).mono ?_⟩
            rintro en w5 ⟨rfl, hb5⟩
            have hb5w : Below wr.heap.size wr w5 := ((Below.refl _ _).drew).trans hb5
            have c5 : ∀ b q, b < wr.heap.size → w5.cell? ⟨b, q, none⟩ = wr.cell? ⟨b, q, none⟩ := fun b q hq => hb5w.cell (by exact hq)
            have hS5 : (fun w' : World => w'.cell? (ad.add (k * 8)) = some (.int .i64 l[k].id) ∧ w'.cell? ⟨(ad.add (k * 8)).block, (ad.add (k * 8)).off + 1, none⟩ = some (.int .i64 l[k].x0) ∧ w'.cell? ⟨(ad.add (k * 8)).block, (ad.add (k * 8)).off + 2, none⟩ = some (.int .i64 l[k].z0) ∧ w'.cell? ⟨(ad.add (k * 8)).block, (ad.add (k * 8)).off + 3, none⟩ = some (.int .i64 l[k].x1) ∧ w'.cell? ⟨(ad.add (k * 8)).block, (ad.add (k * 8)).off + 4, none⟩ = some (.int .i64 l[k].z1) ∧ w'.cell? ⟨(ad.add (k * 8)).block, (ad.add (k * 8)).off + 5, none⟩ = some (.int .i64 l[k].y0) ∧ w'.cell? ⟨(ad.add (k * 8)).block, (ad.add (k * 8)).off + 6, none⟩ = some (.int .i64 l[k].y1) ∧ w'.cell? ⟨(ad.add (k * 8)).block, (ad.add (k * 8)).off + 7, none⟩ = some (.int .i64 l[k].ar) ∧ w'.cell? ⟨w.heap.size, 0, none⟩ = some (.int .i64 x) ∧ w'.cell? ⟨w.heap.size, 1, none⟩ = some (.int .i64 z) ∧ w'.cell? ⟨w.heap.size, 2, none⟩ = some (.int .i64 y) ∧ w'.cell? (ad.add (j * 8)) = some (.int .i64 l[j].id)) w5 := by
              refine ⟨(hb5w.cell hlt).trans x0, (c5 _ _ hlt).trans x1, (c5 _ _ hlt).trans x2, (c5 _ _ hlt).trans x3, (c5 _ _ hlt).trans x4, (c5 _ _ hlt).trans x5, (c5 _ _ hlt).trans x6, (c5 _ _ hlt).trans x7, (c5 _ _ slt).trans s0, (c5 _ _ slt).trans s1, (c5 _ _ slt).trans s2, (hb5w.cell hlt2).trans y0⟩
            refine ⟨hS5, ?_⟩
            go_simp
            iterate 16 (apply wpOrd_quiet rfl hS5 rfl; (intro w' hw'; obtain ⟨q0, q1, q2, q3, q4, q5, q6, q7, q8, q9, q10, q11⟩ := hw'; go_simp; exact rfl); go_simp)
            refine wpOrd_nil ?_
            have hbn : Below W0.heap.size W0 w5 := hbr.trans (hb5w.mono hbr.size)
            clear hS hS5 c5 hb5 hb5w x0 x1 x2 x3 x4 x5 x6 x7 s0 s1 s2 hin
            gi_wp2
            go_roundw
            case rel => exact ⟨k + 1, _, by go_num, rfl, by omega, hsel, hbn⟩
            case measure => show l.length - ((k : Int) + 1).toNat < l.length - ((k : Int)).toNat; omega
          · rw [if_neg hid] at hsel
            gi_wp2
            refine wpIn_region_ord [(0, true), (1, true), (2, true), (3, true), (4, true), (5, false), (6, true), (7, true), (8, true), (9, true), (10, true), (11, true), (12, true), (13, true), (14, true), (15, true), (16, true), (17, true), (18, true), (19, true), (20, true), (21, true)] (fun w' => w'.cell? (ad.add (k * 8)) = some (.int .i64 l[k].id) ∧ w'.cell? ⟨(ad.add (k * 8)).block, (ad.add (k * 8)).off + 1, none⟩ = some (.int .i64 l[k].x0) ∧ w'.cell? ⟨(ad.add (k * 8)).block, (ad.add (k * 8)).off + 2, none⟩ = some (.int .i64 l[k].z0) ∧ w'.cell? ⟨(ad.add (k * 8)).block, (ad.add (k * 8)).off + 3, none⟩ = some (.int .i64 l[k].x1) ∧ w'.cell? ⟨(ad.add (k * 8)).block, (ad.add (k * 8)).off + 4, none⟩ = some (.int .i64 l[k].z1) ∧ w'.cell? ⟨(ad.add (k * 8)).block, (ad.add (k * 8)).off + 5, none⟩ = some (.int .i64 l[k].y0) ∧ w'.cell? ⟨(ad.add (k * 8)).block, (ad.add (k * 8)).off + 6, none⟩ = some (.int .i64 l[k].y1) ∧ w'.cell? ⟨(ad.add (k * 8)).block, (ad.add (k * 8)).off + 7, none⟩ = some (.int .i64 l[k].ar) ∧ w'.cell? ⟨w.heap.size, 0, none⟩ = some (.int .i64 x) ∧ w'.cell? ⟨w.heap.size, 1, none⟩ = some (.int .i64 z) ∧ w'.cell? ⟨w.heap.size, 2, none⟩ = some (.int .i64 y) ∧ w'.cell? (ad.add (j * 8)) = some (.int .i64 l[j].id)) (fun _ => trivial) rfl (by intro c d v a w h; cases d <;> exact h) (by kernel_rfl) ?_
            have hS : (fun w' : World => w'.cell? (ad.add (k * 8)) = some (.int .i64 l[k].id) ∧ w'.cell? ⟨(ad.add (k * 8)).block, (ad.add (k * 8)).off + 1, none⟩ = some (.int .i64 l[k].x0) ∧ w'.cell? ⟨(ad.add (k * 8)).block, (ad.add (k * 8)).off + 2, none⟩ = some (.int .i64 l[k].z0) ∧ w'.cell? ⟨(ad.add (k * 8)).block, (ad.add (k * 8)).off + 3, none⟩ = some (.int .i64 l[k].x1) ∧ w'.cell? ⟨(ad.add (k * 8)).block, (ad.add (k * 8)).off + 4, none⟩ = some (.int .i64 l[k].z1) ∧ w'.cell? ⟨(ad.add (k * 8)).block, (ad.add (k * 8)).off + 5, none⟩ = some (.int .i64 l[k].y0) ∧ w'.cell? ⟨(ad.add (k * 8)).block, (ad.add (k * 8)).off + 6, none⟩ = some (.int .i64 l[k].y1) ∧ w'.cell? ⟨(ad.add (k * 8)).block, (ad.add (k * 8)).off + 7, none⟩ = some (.int .i64 l[k].ar) ∧ w'.cell? ⟨w.heap.size, 0, none⟩ = some (.int .i64 x) ∧ w'.cell? ⟨w.heap.size, 1, none⟩ = some (.int .i64 z) ∧ w'.cell? ⟨w.heap.size, 2, none⟩ = some (.int .i64 y) ∧ w'.cell? (ad.add (j * 8)) = some (.int .i64 l[j].id)) wr.drew := ⟨x0, x1, x2, x3, x4, x5, x6, x7, s0, s1, s2, y0⟩
            simp only [List.length_cons, List.length_nil, Nat.reduceAdd, List.drop_succ_cons, List.drop_zero]
            iterate 5 (apply wpOrd_quiet rfl hS rfl; (intro w' hw'; obtain ⟨q0, q1, q2, q3, q4, q5, q6, q7, q8, q9, q10, q11⟩ := hw'; go_simp; exact rfl); go_simp)
            refine wpOrd_move rfl rfl ?_
            go_simp
            refine ⟨trivial, (callsIn_wide.2 (hin _)).mono ?_⟩
            rintro en w5 ⟨rfl, hb5⟩
            have hb5w : Below wr.heap.size wr w5 := ((Below.refl _ _).drew).trans hb5
            have c5 : ∀ b q, b < wr.heap.size → w5.cell? ⟨b, q, none⟩ = wr.cell? ⟨b, q, none⟩ := fun b q hq => hb5w.cell (by exact hq)
            have hS5 : (fun w' : World => w'.cell? (ad.add (k * 8)) = some (.int .i64 l[k].id) ∧ w'.cell? ⟨(ad.add (k * 8)).block, (ad.add (k * 8)).off + 1, none⟩ = some (.int .i64 l[k].x0) ∧ w'.cell? ⟨(ad.add (k * 8)).block, (ad.add (k * 8)).off + 2, none⟩ = some (.int .i64 l[k].z0) ∧ w'.cell? ⟨(ad.add (k * 8)).block, (ad.add (k * 8)).off + 3, none⟩ = some (.int .i64 l[k].x1) ∧ w'.cell? ⟨(ad.add (k * 8)).block, (ad.add (k * 8)).off + 4, none⟩ = some (.int .i64 l[k].z1) ∧ w'.cell? ⟨(ad.add (k * 8)).block, (ad.add (k * 8)).off + 5, none⟩ = some (.int .i64 l[k].y0) ∧ w'.cell? ⟨(ad.add (k * 8)).block, (ad.add (k * 8)).off + 6, none⟩ = some (.int .i64 l[k].y1) ∧ w'.cell? ⟨(ad.add (k * 8)).block, (ad.add (k * 8)).off + 7, none⟩ = some (.int .i64 l[k].ar) ∧ w'.cell? ⟨w.heap.size, 0, none⟩ = some (.int .i64 x) ∧ w'.cell? ⟨w.heap.size, 1, none⟩ = some (.int .i64 z) ∧ w'.cell? ⟨w.heap.size, 2, none⟩ = some (.int .i64 y) ∧ w'.cell? (ad.add (j * 8)) = some (.int .i64 l[j].id)) w5 := by
              refine ⟨(hb5w.cell hlt).trans x0, (c5 _ _ hlt).trans x1, (c5 _ _ hlt).trans x2, (c5 _ _ hlt).trans x3, (c5 _ _ hlt).trans x4, (c5 _ _ hlt).trans x5, (c5 _ _ hlt).trans x6, (c5 _ _ hlt).trans x7, (c5 _ _ slt).trans s0, (c5 _ _ slt).trans s1, (c5 _ _ slt).trans s2, (hb5w.cell hlt2).trans y0⟩
            refine ⟨hS5, ?_⟩
            go_simp
            iterate 16 (apply wpOrd_quiet rfl hS5 rfl; (intro w' hw'; obtain ⟨q0, q1, q2, q3, q4, q5, q6, q7, q8, q9, q10, q11⟩ := hw'; go_simp; exact rfl); go_simp)
            refine wpOrd_nil ?_
            have hbn : Below W0.heap.size W0 w5 := hbr.trans (hb5w.mono hbr.size)
            clear hS hS5 c5 hb5 hb5w x0 x1 x2 x3 x4 x5 x6 x7 s0 s1 s2 hin
            gi_wp2
            go_roundw
            case rel => exact ⟨k + 1, _, by go_num, rfl, by omega, hsel, hbn⟩
            case measure => show l.length - ((k : Int) + 1).toNat < l.length - ((k : Int)).toNat; omega
    · obtain rfl : k = l.length := by omega
      unfold BestAt at hbest
      rw [List.take_length] at hbest
      rcases hbest with ⟨rfl, hn⟩ | ⟨j, hj, rfl, hn⟩
      · have ho : ofF l x z y = 1 := by unfold ofF; rw [hn]
        gi_wp2
        refine bodyPost_ret (results_tmp rfl _ _ _) rfl ?_
        exact ⟨by first | rfl | (rw [ho]; rfl), hbrw⟩
      · have hj0 : ¬ ((j : Int) < 0) := by omega
        have hjn' : (j : Int) < (l.length : Int) := by omega
        obtain ⟨ad, rfl, hlt, _, _, _, _, _, _, _, x7⟩ := b8_at hrr hj
        have ho : ofF l x z y = l[j].ar := by unfold ofF; rw [hn, List.getElem?_eq_getElem hj]
        gi_wp2
        refine bodyPost_ret (results_tmp rfl _ _ _) rfl ?_
        exact ⟨by first | rfl | (rw [ho]; rfl), hbrw⟩
end Go.Proofs.Ytbjbiimkhpfieaa
