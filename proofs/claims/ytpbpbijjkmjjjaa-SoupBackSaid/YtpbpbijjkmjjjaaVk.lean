/- Several texts in one: Vg Vd Ve Vf Vh. -/
import Derived.Test.YtpbpbijjkmjjjaaVa
import Derived.Laws.StructEq
import Derived.ChangeKeysEq
import Derived.Sort.CutIn
/- What SoupBack leans on: a row with one more may be; a triangle is not unequal to itself. No conditions. -/
set_option linter.unusedSimpArgs false
set_option linter.unusedVariables false
namespace Go.Proofs.Ytpbpbijjkmjjjaa
open Go Go.RowKit Go.Sx
attribute [local go_sem] Oper.semAt_some
theorem ins_ok {W D : Int} {r : List T10} {t : T10} {k : Nat} (h : chk (oneF T10.id (triMay W D)) T10.id 0 r = true) (h1 : oneF T10.id (triMay W D) t = true) (h2 : ¬ ∃ x ∈ r, x.id = t.id) (h3 : PlaceAt r t.id k) : chk (oneF T10.id (triMay W D)) T10.id 0 (insAt r k t) = true := by
  refine insAt_chk h h3.1 h1 ?_ (fun m hm hk => h3.2.1 m hm hk) (fun m hm hk => ?_)
  · simp only [oneF, Bool.and_eq_true, decide_eq_true_eq] at h1
    omega
  · have a := h3.2.2 m hm hk
    have b : r[m].id ≠ t.id := fun e => h2 ⟨r[m], List.getElem_mem hm, e⟩
    omega
theorem infoV : (Try.prog.info? 30).map (fun i => (i.zero, i.size, i.bytes)) = some (some (.agg #[.int .i64 0, .int .i64 0, .int .i64 0]), 3, 24) := by kernel_rfl
set_option maxRecDepth 100000 in
theorem neq_tri (a b c d e f g h i j : Int) (w : World) : (binOp .neq 33 (.agg #[.int .i64 a, .int .i64 b, .int .i64 c, .int .i64 d, .int .i64 e, .int .i64 f, .int .i64 g, .int .i64 h, .int .i64 i, .int .i64 j]) (.agg #[.int .i64 a, .int .i64 b, .int .i64 c, .int .i64 d, .int .i64 e, .int .i64 f, .int .i64 g, .int .i64 h, .int .i64 i, .int .i64 j])).run Try.prog w = .ok (.bool false) w := by
  obtain ⟨i0, hi, _, hz, _⟩ := info_parts infoV
  have hcell : Try.prog.cellsOf 30 = 3 := by kernel_rfl
  have hr : List.range 3 = [0, 1, 2] := rfl
  have harr : (Op.equalIn 9999 31 (.agg #[.int .i64 b, .int .i64 c, .int .i64 d, .int .i64 e, .int .i64 f, .int .i64 g, .int .i64 h, .int .i64 i, .int .i64 j]) (.agg #[.int .i64 b, .int .i64 c, .int .i64 d, .int .i64 e, .int .i64 f, .int .i64 g, .int .i64 h, .int .i64 i, .int .i64 j])).run Try.prog w = .ok true w := by
    rw [show (9999 : Nat) = 9998 + 1 from rfl, run_equalIn_array w 9998 (t := 31) (e := 30) (n := 3) (i := i0) _ _ (by kernel_rfl) hi, hcell, hr]
    simp only [Op.eqItems]
    go_simp
  go_simp
end Go.Proofs.Ytpbpbijjkmjjjaa

/- slices.Equal of equal rows, soup.Same of equal soups; by walks. No conditions but that the rows lie where they are said to lie. -/
set_option linter.unusedSimpArgs false
set_option linter.unusedVariables false
namespace Go.Proofs.Ytpbpbijjkmjjjaa
open Go Go.RowKit Go.Sx
attribute [local go_sem] Oper.semAt_some
set_option maxRecDepth 100000 in
theorem neq_Tri (t : T10) (w : World) : (binOp .neq 33 t.v t.v).run Try.prog w = .ok (.bool false) w := neq_tri _ _ _ _ _ _ _ _ _ _ w
set_option maxRecDepth 100000 in
theorem neq_Box (t : B8) (w : World) : (binOp .neq 64 t.v t.v).run Try.prog w = .ok (.bool false) w := by
  unfold B8.v
  go_simp
set_option maxRecDepth 100000 in
theorem neq_Hop (t : H10) (w : World) : (binOp .neq 78 t.v t.v).run Try.prog w = .ok (.bool false) w := by
  unfold H10.v
  go_simp
set_option maxHeartbeats 4000000 in
set_option maxRecDepth 100000 in
theorem equalTri_any (r : List T10) (A B : Option Addr) (ca cb : Nat) (w : World) (hA : Reads w w.heap.size 10 A r.length (fl T10.cs r)) (hB : Reads w w.heap.size 10 B r.length (fl T10.cs r)) (hl : r.length ≤ 1000) :
    Calls Try.prog 34 #[.slice A r.length ca, .slice B r.length cb] w fun en w' => en = .returned (.bool true) ∧ Below w.heap.size w w' := by
  refine (callsIn_wide (n := 6)).1 ?_
  refine callsIn_of_wp Try.func34 rfl trivial ?_
  simp only [Try.ntmps34, List.size_toArray, List.length_cons, List.length_nil, Nat.reduceAdd, Nat.reduceSub, Array.replicate_succ, Array.replicate_zero, List.push_toArray, List.append_toArray, List.nil_append, List.cons_append]
  gi_wp2
  gi_loopw [13] (fun x wr => ∃ k : Nat, x = .int .i64 k ∧ k ≤ r.length ∧ Below w.heap.size w wr) (fun x _ => r.length - (intOf x).toNat)
  case atStart => exact ⟨0, rfl, Nat.zero_le _, Below.refl _ _⟩
  case round =>
    obtain ⟨k, rfl, hk, hlow⟩ := hrel
    by_cases hkn : k < r.length
    · have hkn' : (k : Int) < (r.length : Int) := by omega
      have hwk : IntKind.i64.wrap ((k : Int) + 1) = (k : Int) + 1 := by rw [IntKind.wrap_i64]; omega
      obtain ⟨ad, rfl, hba, c0, c1, c2, c3, c4, c5, c6, c7, c8, c9⟩ := T10.at_ (hA.below hlow) rfl hkn
      obtain ⟨bd, rfl, hbb, d0, d1, d2, d3, d4, d5, d6, d7, d8, d9⟩ := T10.at_ (hB.below hlow) rfl hkn
      generalize hPa : ad.add (k * 10) = Pa at hba c0 c1 c2 c3 c4 c5 c6 c7 c8 c9
      generalize hPb : bd.add (k * 10) = Pb at hbb d0 d1 d2 d3 d4 d5 d6 d7 d8 d9
      generalize r[k] = t at c0 c1 c2 c3 c4 c5 c6 c7 c8 c9 d0 d1 d2 d3 d4 d5 d6 d7 d8 d9
      have hnq := fun w => neq_Tri t w
      obtain ⟨id, x0, y0, z0, x1, y1, z1, x2, y2, z2⟩ := t
      simp only at c0 c1 c2 c3 c4 c5 c6 c7 c8 c9 d0 d1 d2 d3 d4 d5 d6 d7 d8 d9
      simp only [T10.v] at hnq
      gi_wp2
      have hS : (CellsL [(Pa, .int .i64 id), (⟨Pa.block, Pa.off + 1, none⟩, .int .i64 x0), (⟨Pa.block, Pa.off + 2, none⟩, .int .i64 y0), (⟨Pa.block, Pa.off + 3, none⟩, .int .i64 z0), (⟨Pa.block, Pa.off + 4, none⟩, .int .i64 x1), (⟨Pa.block, Pa.off + 5, none⟩, .int .i64 y1), (⟨Pa.block, Pa.off + 6, none⟩, .int .i64 z1), (⟨Pa.block, Pa.off + 7, none⟩, .int .i64 x2), (⟨Pa.block, Pa.off + 8, none⟩, .int .i64 y2), (⟨Pa.block, Pa.off + 9, none⟩, .int .i64 z2), (Pb, .int .i64 id), (⟨Pb.block, Pb.off + 1, none⟩, .int .i64 x0), (⟨Pb.block, Pb.off + 2, none⟩, .int .i64 y0), (⟨Pb.block, Pb.off + 3, none⟩, .int .i64 z0), (⟨Pb.block, Pb.off + 4, none⟩, .int .i64 x1), (⟨Pb.block, Pb.off + 5, none⟩, .int .i64 y1), (⟨Pb.block, Pb.off + 6, none⟩, .int .i64 z1), (⟨Pb.block, Pb.off + 7, none⟩, .int .i64 x2), (⟨Pb.block, Pb.off + 8, none⟩, .int .i64 y2), (⟨Pb.block, Pb.off + 9, none⟩, .int .i64 z2)]) (wr.drew) := ⟨c0, c1, c2, c3, c4, c5, c6, c7, c8, c9, d0, d1, d2, d3, d4, d5, d6, d7, d8, d9, trivial⟩
      refine wpIn_region_ord [(0, true), (1, true), (2, true), (3, true), (4, true), (5, true), (6, true), (7, true)] (CellsL [(Pa, .int .i64 id), (⟨Pa.block, Pa.off + 1, none⟩, .int .i64 x0), (⟨Pa.block, Pa.off + 2, none⟩, .int .i64 y0), (⟨Pa.block, Pa.off + 3, none⟩, .int .i64 z0), (⟨Pa.block, Pa.off + 4, none⟩, .int .i64 x1), (⟨Pa.block, Pa.off + 5, none⟩, .int .i64 y1), (⟨Pa.block, Pa.off + 6, none⟩, .int .i64 z1), (⟨Pa.block, Pa.off + 7, none⟩, .int .i64 x2), (⟨Pa.block, Pa.off + 8, none⟩, .int .i64 y2), (⟨Pa.block, Pa.off + 9, none⟩, .int .i64 z2), (Pb, .int .i64 id), (⟨Pb.block, Pb.off + 1, none⟩, .int .i64 x0), (⟨Pb.block, Pb.off + 2, none⟩, .int .i64 y0), (⟨Pb.block, Pb.off + 3, none⟩, .int .i64 z0), (⟨Pb.block, Pb.off + 4, none⟩, .int .i64 x1), (⟨Pb.block, Pb.off + 5, none⟩, .int .i64 y1), (⟨Pb.block, Pb.off + 6, none⟩, .int .i64 z1), (⟨Pb.block, Pb.off + 7, none⟩, .int .i64 x2), (⟨Pb.block, Pb.off + 8, none⟩, .int .i64 y2), (⟨Pb.block, Pb.off + 9, none⟩, .int .i64 z2)]) (fun _ => trivial) rfl (by first | exact then_put rfl | (intro c d v a w h; cases d <;> exact h)) (by kernel_rfl) ?_
      simp only [List.length_cons, List.length_nil, Nat.reduceAdd, List.drop_succ_cons, List.drop_zero]
      iterate 8 (apply wpOrd_quiet rfl hS rfl; (intro w' hw'; obtain ⟨q0, q1, q2, q3, q4, q5, q6, q7, q8, q9, q10, q11, q12, q13, q14, q15, q16, q17, q18, q19, _⟩ := hw'; go_simp; exact rfl); go_simp)
      refine wpOrd_nil ?_
      clear hS c0 c1 c2 c3 c4 c5 c6 c7 c8 c9 d0 d1 d2 d3 d4 d5 d6 d7 d8 d9
      gi_wp2
      go_roundw
      case rel => exact ⟨k + 1, by go_num, by omega, hlow.drew⟩
      case measure => simp [intOf]; omega
    · obtain rfl : k = r.length := by omega
      gi_wp2
      go_ret
      exact ⟨rfl, hlow⟩
set_option maxHeartbeats 4000000 in
set_option maxRecDepth 100000 in
theorem equalBox_any (r : List B8) (A B : Option Addr) (ca cb : Nat) (w : World) (hA : Reads w w.heap.size 8 A r.length (fl B8.cs r)) (hB : Reads w w.heap.size 8 B r.length (fl B8.cs r)) (hl : r.length ≤ 1000) :
    Calls Try.prog 35 #[.slice A r.length ca, .slice B r.length cb] w fun en w' => en = .returned (.bool true) ∧ Below w.heap.size w w' := by
  refine (callsIn_wide (n := 6)).1 ?_
  refine callsIn_of_wp Try.func35 rfl trivial ?_
  simp only [Try.ntmps35, List.size_toArray, List.length_cons, List.length_nil, Nat.reduceAdd, Nat.reduceSub, Array.replicate_succ, Array.replicate_zero, List.push_toArray, List.append_toArray, List.nil_append, List.cons_append]
  gi_wp2
  gi_loopw [13] (fun x wr => ∃ k : Nat, x = .int .i64 k ∧ k ≤ r.length ∧ Below w.heap.size w wr) (fun x _ => r.length - (intOf x).toNat)
  case atStart => exact ⟨0, rfl, Nat.zero_le _, Below.refl _ _⟩
  case round =>
    obtain ⟨k, rfl, hk, hlow⟩ := hrel
    by_cases hkn : k < r.length
    · have hkn' : (k : Int) < (r.length : Int) := by omega
      have hwk : IntKind.i64.wrap ((k : Int) + 1) = (k : Int) + 1 := by rw [IntKind.wrap_i64]; omega
      obtain ⟨ad, rfl, hba, c0, c1, c2, c3, c4, c5, c6, c7⟩ := B8.at_ (hA.below hlow) rfl hkn
      obtain ⟨bd, rfl, hbb, d0, d1, d2, d3, d4, d5, d6, d7⟩ := B8.at_ (hB.below hlow) rfl hkn
      generalize hPa : ad.add (k * 8) = Pa at hba c0 c1 c2 c3 c4 c5 c6 c7
      generalize hPb : bd.add (k * 8) = Pb at hbb d0 d1 d2 d3 d4 d5 d6 d7
      generalize r[k] = t at c0 c1 c2 c3 c4 c5 c6 c7 d0 d1 d2 d3 d4 d5 d6 d7
      have hnq := fun w => neq_Box t w
      obtain ⟨id, x0, z0, x1, z1, y0, y1, ar⟩ := t
      simp only at c0 c1 c2 c3 c4 c5 c6 c7 d0 d1 d2 d3 d4 d5 d6 d7
      simp only [B8.v] at hnq
      gi_wp2
      have hS : (CellsL [(Pa, .int .i64 id), (⟨Pa.block, Pa.off + 1, none⟩, .int .i64 x0), (⟨Pa.block, Pa.off + 2, none⟩, .int .i64 z0), (⟨Pa.block, Pa.off + 3, none⟩, .int .i64 x1), (⟨Pa.block, Pa.off + 4, none⟩, .int .i64 z1), (⟨Pa.block, Pa.off + 5, none⟩, .int .i64 y0), (⟨Pa.block, Pa.off + 6, none⟩, .int .i64 y1), (⟨Pa.block, Pa.off + 7, none⟩, .int .i64 ar), (Pb, .int .i64 id), (⟨Pb.block, Pb.off + 1, none⟩, .int .i64 x0), (⟨Pb.block, Pb.off + 2, none⟩, .int .i64 z0), (⟨Pb.block, Pb.off + 3, none⟩, .int .i64 x1), (⟨Pb.block, Pb.off + 4, none⟩, .int .i64 z1), (⟨Pb.block, Pb.off + 5, none⟩, .int .i64 y0), (⟨Pb.block, Pb.off + 6, none⟩, .int .i64 y1), (⟨Pb.block, Pb.off + 7, none⟩, .int .i64 ar)]) (wr.drew) := ⟨c0, c1, c2, c3, c4, c5, c6, c7, d0, d1, d2, d3, d4, d5, d6, d7, trivial⟩
      refine wpIn_region_ord [(0, true), (1, true), (2, true), (3, true), (4, true), (5, true), (6, true), (7, true)] (CellsL [(Pa, .int .i64 id), (⟨Pa.block, Pa.off + 1, none⟩, .int .i64 x0), (⟨Pa.block, Pa.off + 2, none⟩, .int .i64 z0), (⟨Pa.block, Pa.off + 3, none⟩, .int .i64 x1), (⟨Pa.block, Pa.off + 4, none⟩, .int .i64 z1), (⟨Pa.block, Pa.off + 5, none⟩, .int .i64 y0), (⟨Pa.block, Pa.off + 6, none⟩, .int .i64 y1), (⟨Pa.block, Pa.off + 7, none⟩, .int .i64 ar), (Pb, .int .i64 id), (⟨Pb.block, Pb.off + 1, none⟩, .int .i64 x0), (⟨Pb.block, Pb.off + 2, none⟩, .int .i64 z0), (⟨Pb.block, Pb.off + 3, none⟩, .int .i64 x1), (⟨Pb.block, Pb.off + 4, none⟩, .int .i64 z1), (⟨Pb.block, Pb.off + 5, none⟩, .int .i64 y0), (⟨Pb.block, Pb.off + 6, none⟩, .int .i64 y1), (⟨Pb.block, Pb.off + 7, none⟩, .int .i64 ar)]) (fun _ => trivial) rfl (by first | exact then_put rfl | (intro c d v a w h; cases d <;> exact h)) (by kernel_rfl) ?_
      simp only [List.length_cons, List.length_nil, Nat.reduceAdd, List.drop_succ_cons, List.drop_zero]
      iterate 8 (apply wpOrd_quiet rfl hS rfl; (intro w' hw'; obtain ⟨q0, q1, q2, q3, q4, q5, q6, q7, q8, q9, q10, q11, q12, q13, q14, q15, _⟩ := hw'; go_simp; exact rfl); go_simp)
      refine wpOrd_nil ?_
      clear hS c0 c1 c2 c3 c4 c5 c6 c7 d0 d1 d2 d3 d4 d5 d6 d7
      gi_wp2
      go_roundw
      case rel => exact ⟨k + 1, by go_num, by omega, hlow.drew⟩
      case measure => simp [intOf]; omega
    · obtain rfl : k = r.length := by omega
      gi_wp2
      go_ret
      exact ⟨rfl, hlow⟩
set_option maxHeartbeats 4000000 in
set_option maxRecDepth 100000 in
theorem equalHop_any (r : List H10) (A B : Option Addr) (ca cb : Nat) (w : World) (hA : Reads w w.heap.size 10 A r.length (fl H10.cs r)) (hB : Reads w w.heap.size 10 B r.length (fl H10.cs r)) (hl : r.length ≤ 1000) :
    Calls Try.prog 36 #[.slice A r.length ca, .slice B r.length cb] w fun en w' => en = .returned (.bool true) ∧ Below w.heap.size w w' := by
  refine (callsIn_wide (n := 6)).1 ?_
  refine callsIn_of_wp Try.func36 rfl trivial ?_
  simp only [Try.ntmps36, List.size_toArray, List.length_cons, List.length_nil, Nat.reduceAdd, Nat.reduceSub, Array.replicate_succ, Array.replicate_zero, List.push_toArray, List.append_toArray, List.nil_append, List.cons_append]
  gi_wp2
  gi_loopw [13] (fun x wr => ∃ k : Nat, x = .int .i64 k ∧ k ≤ r.length ∧ Below w.heap.size w wr) (fun x _ => r.length - (intOf x).toNat)
  case atStart => exact ⟨0, rfl, Nat.zero_le _, Below.refl _ _⟩
  case round =>
    obtain ⟨k, rfl, hk, hlow⟩ := hrel
    by_cases hkn : k < r.length
    · have hkn' : (k : Int) < (r.length : Int) := by omega
      have hwk : IntKind.i64.wrap ((k : Int) + 1) = (k : Int) + 1 := by rw [IntKind.wrap_i64]; omega
      obtain ⟨ad, rfl, hba, c0, c1, c2, c3, c4, c5, c6, c7, c8, c9⟩ := H10.at_ (hA.below hlow) rfl hkn
      obtain ⟨bd, rfl, hbb, d0, d1, d2, d3, d4, d5, d6, d7, d8, d9⟩ := H10.at_ (hB.below hlow) rfl hkn
      generalize hPa : ad.add (k * 10) = Pa at hba c0 c1 c2 c3 c4 c5 c6 c7 c8 c9
      generalize hPb : bd.add (k * 10) = Pb at hbb d0 d1 d2 d3 d4 d5 d6 d7 d8 d9
      generalize r[k] = t at c0 c1 c2 c3 c4 c5 c6 c7 c8 c9 d0 d1 d2 d3 d4 d5 d6 d7 d8 d9
      have hnq := fun w => neq_Hop t w
      obtain ⟨id, fx, fz, fy, tx, tz, ty, both, ar, co⟩ := t
      simp only at c0 c1 c2 c3 c4 c5 c6 c7 c8 c9 d0 d1 d2 d3 d4 d5 d6 d7 d8 d9
      simp only [H10.v] at hnq
      gi_wp2
      have hS : (CellsL [(Pa, .int .i64 id), (⟨Pa.block, Pa.off + 1, none⟩, .int .i64 fx), (⟨Pa.block, Pa.off + 2, none⟩, .int .i64 fz), (⟨Pa.block, Pa.off + 3, none⟩, .int .i64 fy), (⟨Pa.block, Pa.off + 4, none⟩, .int .i64 tx), (⟨Pa.block, Pa.off + 5, none⟩, .int .i64 tz), (⟨Pa.block, Pa.off + 6, none⟩, .int .i64 ty), (⟨Pa.block, Pa.off + 7, none⟩, .bool both), (⟨Pa.block, Pa.off + 8, none⟩, .int .i64 ar), (⟨Pa.block, Pa.off + 9, none⟩, .int .i64 co), (Pb, .int .i64 id), (⟨Pb.block, Pb.off + 1, none⟩, .int .i64 fx), (⟨Pb.block, Pb.off + 2, none⟩, .int .i64 fz), (⟨Pb.block, Pb.off + 3, none⟩, .int .i64 fy), (⟨Pb.block, Pb.off + 4, none⟩, .int .i64 tx), (⟨Pb.block, Pb.off + 5, none⟩, .int .i64 tz), (⟨Pb.block, Pb.off + 6, none⟩, .int .i64 ty), (⟨Pb.block, Pb.off + 7, none⟩, .bool both), (⟨Pb.block, Pb.off + 8, none⟩, .int .i64 ar), (⟨Pb.block, Pb.off + 9, none⟩, .int .i64 co)]) (wr.drew) := ⟨c0, c1, c2, c3, c4, c5, c6, c7, c8, c9, d0, d1, d2, d3, d4, d5, d6, d7, d8, d9, trivial⟩
      refine wpIn_region_ord [(0, true), (1, true), (2, true), (3, true), (4, true), (5, true), (6, true), (7, true)] (CellsL [(Pa, .int .i64 id), (⟨Pa.block, Pa.off + 1, none⟩, .int .i64 fx), (⟨Pa.block, Pa.off + 2, none⟩, .int .i64 fz), (⟨Pa.block, Pa.off + 3, none⟩, .int .i64 fy), (⟨Pa.block, Pa.off + 4, none⟩, .int .i64 tx), (⟨Pa.block, Pa.off + 5, none⟩, .int .i64 tz), (⟨Pa.block, Pa.off + 6, none⟩, .int .i64 ty), (⟨Pa.block, Pa.off + 7, none⟩, .bool both), (⟨Pa.block, Pa.off + 8, none⟩, .int .i64 ar), (⟨Pa.block, Pa.off + 9, none⟩, .int .i64 co), (Pb, .int .i64 id), (⟨Pb.block, Pb.off + 1, none⟩, .int .i64 fx), (⟨Pb.block, Pb.off + 2, none⟩, .int .i64 fz), (⟨Pb.block, Pb.off + 3, none⟩, .int .i64 fy), (⟨Pb.block, Pb.off + 4, none⟩, .int .i64 tx), (⟨Pb.block, Pb.off + 5, none⟩, .int .i64 tz), (⟨Pb.block, Pb.off + 6, none⟩, .int .i64 ty), (⟨Pb.block, Pb.off + 7, none⟩, .bool both), (⟨Pb.block, Pb.off + 8, none⟩, .int .i64 ar), (⟨Pb.block, Pb.off + 9, none⟩, .int .i64 co)]) (fun _ => trivial) rfl (by first | exact then_put rfl | (intro c d v a w h; cases d <;> exact h)) (by kernel_rfl) ?_
      simp only [List.length_cons, List.length_nil, Nat.reduceAdd, List.drop_succ_cons, List.drop_zero]
      iterate 8 (apply wpOrd_quiet rfl hS rfl; (intro w' hw'; obtain ⟨q0, q1, q2, q3, q4, q5, q6, q7, q8, q9, q10, q11, q12, q13, q14, q15, q16, q17, q18, q19, _⟩ := hw'; go_simp; exact rfl); go_simp)
      refine wpOrd_nil ?_
      clear hS c0 c1 c2 c3 c4 c5 c6 c7 c8 c9 d0 d1 d2 d3 d4 d5 d6 d7 d8 d9
      gi_wp2
      go_roundw
      case rel => exact ⟨k + 1, by go_num, by omega, hlow.drew⟩
      case measure => simp [intOf]; omega
    · obtain rfl : k = r.length := by omega
      gi_wp2
      go_ret
      exact ⟨rfl, hlow⟩
end Go.Proofs.Ytpbpbijjkmjjjaa

/- What SoupBack leans on: plain. No conditions. -/
set_option linter.unusedSimpArgs false
set_option linter.unusedVariables false
namespace Go.Proofs.Ytpbpbijjkmjjjaa
open Go Go.RowKit Go.Sx
section
variable {W D : Int} {r : List T10} {t u : T10}
/-- The row with one more may be, if there is room. -/
theorem ins_rows {s : Soup} {k : Nat} (h : rowsOk W D s = true) (h1 : oneF T10.id (triMay W D) t = true) (h2 : ¬ ∃ x ∈ s.ts, x.id = t.id) (h3 : s.ts.length < 200) (h4 : PlaceAt s.ts t.id k) : rowsOk W D { s with ts := insAt s.ts k t } = true := by
  simp only [rowsOk, rowOk, Bool.and_eq_true, decide_eq_true_eq] at h ⊢
  exact ⟨⟨⟨by rw [insAt_len h4]; omega, ins_ok h.1.1.2 h1 h2 h4⟩, h.1.2⟩, h.2⟩
theorem soupC_ins {a b c d e : Int} {s : Soup} {k : Nat} (h : soupC a b c d e W D s = 0) (h1 : oneF T10.id (triMay W D) t = true) (h2 : ¬ ∃ x ∈ s.ts, x.id = t.id) (h3 : s.ts.length < 200) (h4 : PlaceAt s.ts t.id k) : soupC a b c d e W D { s with ts := insAt s.ts k t } = 0 := by
  obtain ⟨g1, g2⟩ := soupC_zero h
  unfold soupC
  rw [if_pos g1, if_pos (ins_rows g2 h1 h2 h3 h4)]
/-- What is added is what is dropped. -/
theorem drop_ins {k : Nat} {l' : List T10} (hc : chk (oneF T10.id (triMay W D)) T10.id 0 (insAt r k t) = true) (hk : k ≤ r.length) (h : dropR1 T10.id t.id (insAt r k t) l') : l' = r := by
  obtain ⟨j, hj, e, _, rfl⟩ := h
  obtain ⟨hk', ek⟩ := insAt_get (x := t) hk
  have : j = k := chk_uniq hc hj hk' (by rw [e, ek])
  subst this
  exact insAt_drop hk
/-- Why the one is not added to the row, it is not added to the row with one more. -/
theorem add_no {k : Nat} {e : Int} {l' : List T10} (ht : r.length < 200) (h0 : addR0 W D r u e) (h1 : addR1 W D (insAt r k t) u l') : False := by
  obtain ⟨g1, g2, g3, _⟩ := h1
  rcases h0 with ⟨_, h⟩ | ⟨_, _, x, hx, h⟩ | ⟨_, _, _, h⟩
  · rw [g1] at h; cases h
  · exact g2 ⟨x, insAt_mem.2 (.inr hx), h⟩
  · omega
/-- Either order: the one goes just if the other does. -/
theorem add_swap {k k2 : Nat} {e : Int} {l' : List T10} (ht : addR1 W D r t (insAt r k t)) (hu : addR1 W D r u (insAt r k2 u)) (hk : PlaceAt r t.id k) (hk2 : PlaceAt r u.id k2) (h0 : addR0 W D (insAt r k2 u) t e) (h1 : addR1 W D (insAt r k t) u l') : False := by
  obtain ⟨t1, t2, t3, _⟩ := ht
  obtain ⟨u1, u2, u3, _⟩ := hu
  obtain ⟨g1, g2, g3, _⟩ := h1
  rw [insAt_len hk] at g3
  rcases h0 with ⟨_, h⟩ | ⟨_, _, x, hx, h⟩ | ⟨_, _, _, h⟩
  · rw [t1] at h; cases h
  · rcases insAt_mem.1 hx with rfl | hx
    · exact g2 ⟨t, insAt_mem.2 (.inl rfl), h.symm⟩
    · exact t2 ⟨x, hx, h⟩
  · rw [insAt_len hk2] at h; omega
/-- Either order comes to the same row. -/
theorem swap_same {l l' : List T10} {k k2 : Nat} (hl : addR1 W D (insAt r k t) u l) (hl' : addR1 W D (insAt r k2 u) t l') (hc : chk (oneF T10.id (triMay W D)) T10.id 0 (insAt r k t) = true) (hc2 : chk (oneF T10.id (triMay W D)) T10.id 0 (insAt r k2 u) = true) : l = l' := by
  obtain ⟨a1, a2, a3, m, am, rfl⟩ := hl
  obtain ⟨b1, b2, b3, n, bn, rfl⟩ := hl'
  refine chk_ext (ins_ok hc a1 a2 am) (ins_ok hc2 b1 b2 bn) (fun x => ?_)
  rw [insAt_mem, insAt_mem, insAt_mem, insAt_mem]
  constructor
  · rintro (h | h | h)
    · exact .inr (.inl h)
    · exact .inl h
    · exact .inr (.inr h)
  · rintro (h | h | h)
    · exact .inr (.inl h)
    · exact .inl h
    · exact .inr (.inr h)
end
end Go.Proofs.Ytpbpbijjkmjjjaa

/- soup.Same of equal soups, soup.AddTri of a soup that may be, soup.Drop of what was added; by walks. No conditions but that the rows lie where they are said to lie. -/
set_option linter.unusedSimpArgs false
set_option linter.unusedVariables false
namespace Go.Proofs.Ytpbpbijjkmjjjaa
open Go Go.RowKit Go.Sx
attribute [local go_sem] Oper.semAt_some
set_option maxHeartbeats 4000000 in
set_option maxRecDepth 100000 in
theorem sameS_any (s : Soup) (A1 A2 A3 B1 B2 B3 : Option Addr) (c1 c2 c3 d1 d2 d3 : Nat) (w : World) (hA : SoupAt w w.heap.size A1 A2 A3 s) (hB : SoupAt w w.heap.size B1 B2 B3 s) (hl : s.lens) :
    Calls Try.prog 11 #[.agg #[.slice A1 s.ts.length c1, .slice A2 s.bs.length c2, .slice A3 s.hs.length c3], .agg #[.slice B1 s.ts.length d1, .slice B2 s.bs.length d2, .slice B3 s.hs.length d3]] w fun en w' => en = .returned (.bool true) ∧ Below w.heap.size w w' := by
  obtain ⟨l1, l2, l3⟩ := hl
  obtain ⟨u1, eu1, bu1, ku1⟩ := alloc_step w (.cells #[.slice A1 s.ts.length c1, .slice A2 s.bs.length c2, .slice A3 s.hs.length c3] 28)
  obtain ⟨u2, eu2, bu2, ku2⟩ := alloc_step u1 (.cells #[.slice B1 s.ts.length d1, .slice B2 s.bs.length d2, .slice B3 s.hs.length d3] 28)
  have hb2 := bu1.trans (bu2.mono bu1.size)
  have k1 := (bu2.block _ (lt_of_block ku1)).trans ku1
  have hA2 := (hA.below hb2).more hb2.size
  have hB2 := (hB.below hb2).more hb2.size
  obtain ⟨p0, p1, p2⟩ := box3 k1
  obtain ⟨q0, q1, q2⟩ := box3 ku2
  have h1 := equalTri_any s.ts A1 B1 c1 d1 u2 hA2.t hB2.t l1
  refine (callsIn_wide (n := 6)).1 ?_
  refine callsIn_of_wp Try.func11 rfl trivial ?_
  simp only [Try.ntmps11, List.size_toArray, List.length_cons, List.length_nil, Nat.reduceAdd, Nat.reduceSub, Array.replicate_succ, Array.replicate_zero, List.push_toArray, List.append_toArray, List.nil_append, List.cons_append]
  gi_wp2
  refine ⟨trivial, (callsIn_wide.2 h1).mono ?_⟩
  rintro en w3 ⟨rfl, hb3⟩
  clear p0 p1 p2 q0 q1 q2 h1
  have k13 := (hb3.block _ (lt_of_block k1)).trans k1
  have k23 := (hb3.block _ (lt_of_block ku2)).trans ku2
  obtain ⟨p0, p1, p2⟩ := box3 k13
  obtain ⟨q0, q1, q2⟩ := box3 k23
  have h2 := equalBox_any s.bs A2 B2 c2 d2 w3 ((hA2.below hb3).more hb3.size).b ((hB2.below hb3).more hb3.size).b l2
  gi_wp2
  refine ⟨trivial, (callsIn_wide.2 h2).mono ?_⟩
  rintro en w4 ⟨rfl, hb4⟩
  have hb24 := hb3.trans (hb4.mono hb3.size)
  clear p0 p1 p2 q0 q1 q2 h2
  have k14 := (hb4.block _ (lt_of_block k13)).trans k13
  have k24 := (hb4.block _ (lt_of_block k23)).trans k23
  obtain ⟨p0, p1, p2⟩ := box3 k14
  obtain ⟨q0, q1, q2⟩ := box3 k24
  have h3 := equalHop_any s.hs A3 B3 c3 d3 w4 ((hA2.below hb24).more hb24.size).h ((hB2.below hb24).more hb24.size).h l3
  gi_wp2
  refine ⟨trivial, (callsIn_wide.2 h3).mono ?_⟩
  rintro en w5 ⟨rfl, hb5⟩
  gi_wp2
  go_ret
  exact ⟨rfl, hb2.trans ((hb24.trans (hb5.mono hb24.size)).mono hb2.size)⟩
/-- A soup with one triangle more. -/
def insS (s : Soup) (k : Nat) (t : T10) : Soup := { s with ts := insAt s.ts k t }
/-- soup.AddTri of any soup. -/
theorem addB0_any (a b c d e f g : Int) (s : Soup) (t : T10) (A1 A2 A3 : Option Addr) (c1 c2 c3 : Nat) (w : World) (hs : SoupAt w w.heap.size A1 A2 A3 s) (hl : s.lens) :
    Calls Try.prog 7 #[.agg #[.int .i64 a, .int .i64 b, .int .i64 c, .int .i64 d, .int .i64 e, .int .i64 f, .int .i64 g], .agg #[.slice A1 s.ts.length c1, .slice A2 s.bs.length c2, .slice A3 s.hs.length c3], .agg #[.int .i64 t.id, .int .i64 t.x0, .int .i64 t.y0, .int .i64 t.z0, .int .i64 t.x1, .int .i64 t.y1, .int .i64 t.z1, .int .i64 t.x2, .int .i64 t.y2, .int .i64 t.z2]] w fun en w' =>
      ((∃ er, er ≠ 0 ∧ en = .returned (.tuple #[.agg #[.slice none 0 0, .slice none 0 0, .slice none 0 0], .int .i64 er])) ∨ ∃ k X B1 B2 B3 d1 d2 d3, soupC a b c d e f g s = 0 ∧ X = insS s k t ∧ PlaceAt s.ts t.id k ∧ addR1 f g s.ts t X.ts ∧ en = .returned (.tuple #[.agg #[.slice B1 X.ts.length d1, .slice B2 X.bs.length d2, .slice B3 X.hs.length d3], .int .i64 0]) ∧ SoupAt w' w'.heap.size B1 B2 B3 X) ∧ Below w.heap.size w w' := by
  refine (addS_any a b c d e f g s t A1 A2 A3 c1 c2 c3 w hs hl).mono ?_
  rintro en w' ⟨h, hb⟩
  refine ⟨?_, hb⟩
  rcases h with ⟨h, rfl⟩ | ⟨h0, ⟨er, hne, hr, rfl⟩ | ⟨l', B1, B2, B3, d1, d2, d3, ⟨r1, r2, r3, k, hk, rfl⟩, rfl, hs'⟩⟩
  · exact .inl ⟨_, h, rfl⟩
  · exact .inl ⟨er, hne, rfl⟩
  · exact .inr ⟨k, insS s k t, B1, B2, B3, d1, d2, d3, h0, rfl, hk, ⟨r1, r2, r3, k, hk, rfl⟩, rfl, hs'⟩
/-- What is known of a soup with one triangle more. -/
theorem insS_facts {a b c d e f g : Int} {s : Soup} {t : T10} {k : Nat} (h0 : soupC a b c d e f g s = 0) (hk : PlaceAt s.ts t.id k) (h1 : addR1 f g s.ts t (insS s k t).ts) (hl : s.ts.length ≤ 220 ∧ s.bs.length ≤ 20 ∧ s.hs.length ≤ 20) : soupC a b c d e f g (insS s k t) = 0 ∧ (insS s k t).lens :=
  ⟨soupC_ins h0 h1.1 h1.2.1 h1.2.2.1 hk, by show (insAt s.ts k t).length ≤ 1000; rw [insAt_len hk]; omega, by show s.bs.length ≤ 1000; omega, by show s.hs.length ≤ 1000; omega⟩
/-- soup.AddTri of a soup that may be. -/
theorem addB_any (a b c d e f g : Int) (s : Soup) (t : T10) (A1 A2 A3 : Option Addr) (c1 c2 c3 : Nat) (w : World) (hs : SoupAt w w.heap.size A1 A2 A3 s) (hl : s.lens) (h0 : soupC a b c d e f g s = 0) :
    Calls Try.prog 7 #[.agg #[.int .i64 a, .int .i64 b, .int .i64 c, .int .i64 d, .int .i64 e, .int .i64 f, .int .i64 g], .agg #[.slice A1 s.ts.length c1, .slice A2 s.bs.length c2, .slice A3 s.hs.length c3], .agg #[.int .i64 t.id, .int .i64 t.x0, .int .i64 t.y0, .int .i64 t.z0, .int .i64 t.x1, .int .i64 t.y1, .int .i64 t.z1, .int .i64 t.x2, .int .i64 t.y2, .int .i64 t.z2]] w fun en w' =>
      ((∃ er, er ≠ 0 ∧ addR0 f g s.ts t er ∧ en = .returned (.tuple #[.agg #[.slice none 0 0, .slice none 0 0, .slice none 0 0], .int .i64 er])) ∨ ∃ k X B1 B2 B3 d1 d2 d3, X = insS s k t ∧ PlaceAt s.ts t.id k ∧ addR1 f g s.ts t X.ts ∧ en = .returned (.tuple #[.agg #[.slice B1 X.ts.length d1, .slice B2 X.bs.length d2, .slice B3 X.hs.length d3], .int .i64 0]) ∧ SoupAt w' w'.heap.size B1 B2 B3 X) ∧ Below w.heap.size w w' := by
  refine (addS_any a b c d e f g s t A1 A2 A3 c1 c2 c3 w hs hl).mono ?_
  rintro en w' ⟨h, hb⟩
  refine ⟨?_, hb⟩
  rcases h with ⟨h, _⟩ | ⟨_, ⟨er, hne, hr, rfl⟩ | ⟨l', B1, B2, B3, d1, d2, d3, ⟨r1, r2, r3, k, hk, rfl⟩, rfl, hs'⟩⟩
  · exact absurd h0 h
  · exact .inl ⟨er, hne, hr, rfl⟩
  · exact .inr ⟨k, insS s k t, B1, B2, B3, d1, d2, d3, rfl, hk, ⟨r1, r2, r3, k, hk, rfl⟩, rfl, hs'⟩
/-- soup.Drop of what was added. -/
theorem dropB_any {a b c d e f g : Int} (s : Soup) (t : T10) (k : Nat) (A1 A2 A3 : Option Addr) (c1 c2 c3 : Nat) (w : World) (hs : SoupAt w w.heap.size A1 A2 A3 (insS s k t)) (hl : (insS s k t).lens) (hk : PlaceAt s.ts t.id k) (h0 : soupC a b c d e f g (insS s k t) = 0) :
    Calls Try.prog 9 #[.agg #[.slice A1 (insS s k t).ts.length c1, .slice A2 (insS s k t).bs.length c2, .slice A3 (insS s k t).hs.length c3], .int .i64 0, .int .i64 t.id] w fun en w' =>
      (∃ B1 B2 B3 d1 d2 d3, en = .returned (.tuple #[.agg #[.slice B1 s.ts.length d1, .slice B2 s.bs.length d2, .slice B3 s.hs.length d3], .int .i64 0]) ∧ SoupAt w' w'.heap.size B1 B2 B3 s) ∧ Below w.heap.size w w' := by
  refine (sdrop_any (insS s k t) 0 t.id A1 A2 A3 c1 c2 c3 w hs hl).mono ?_
  rintro en w' ⟨h, hb⟩
  refine ⟨?_, hb⟩
  rcases h with ⟨er, _, h, _⟩ | ⟨_, l', B1, B2, B3, d1, d2, d3, hd, rfl, hs'⟩ | ⟨h, _⟩ | ⟨h, _⟩
  · exact absurd rfl (h rfl t (insAt_mem.2 (.inl rfl)))
  · have hl' : l' = s.ts := drop_ins (rows_t (soupC_zero h0).2).2 hk.1 hd
    subst hl'
    exact ⟨B1, B2, B3, d1, d2, d3, rfl, hs'⟩
  · cases h
  · cases h
theorem insS_facts2 {a b c d e f g : Int} {s : Soup} {t : T10} {k : Nat} (h0 : soupC a b c d e f g s = 0) (hk : PlaceAt s.ts t.id k) (h1 : addR1 f g s.ts t (insS s k t).ts) (hl : s.lens) : soupC a b c d e f g (insS s k t) = 0 ∧ (insS s k t).lens :=
  ⟨soupC_ins h0 h1.1 h1.2.1 h1.2.2.1 hk, by show (insAt s.ts k t).length ≤ 1000; have := h1.2.2.1; rw [insAt_len hk]; omega, hl.2.1, hl.2.2⟩
/-- Either order comes to the same soup. -/
theorem same_soup {W D : Int} {s X Z Y R : Soup} {t u : T10} {k k2 k3 k4 : Nat} (hX : X = insS s k t) (hZ : Z = insS s k3 u) (hY : Y = insS X k2 u) (hR : R = insS Z k4 t) (h2 : addR1 W D X.ts u Y.ts) (h4 : addR1 W D Z.ts t R.ts) (hc : chk (oneF T10.id (triMay W D)) T10.id 0 X.ts = true) (hc2 : chk (oneF T10.id (triMay W D)) T10.id 0 Z.ts = true) : R = Y := by
  have hb : R.ts = Y.ts := by subst hX hZ; exact (swap_same h2 h4 hc hc2).symm
  subst hX hZ hY hR
  unfold insS at hb ⊢
  simp only at hb ⊢
  rw [hb]
theorem rchk5_any (a b c d e f g : Int) (w : World) : Calls Try.prog 10 #[.agg #[.int .i64 a, .int .i64 b, .int .i64 c, .int .i64 d, .int .i64 e, .int .i64 f, .int .i64 g]] w fun en w' => en = .returned (.int .i64 (checkRF a b c d e f g)) ∧ Below w.heap.size w w' :=
  checkRC_holds [.int .i64 a, .int .i64 b, .int .i64 c, .int .i64 d, .int .i64 e, .int .i64 f, .int .i64 g] ⟨a, _, rfl, b, _, rfl, c, _, rfl, d, _, rfl, e, _, rfl, f, _, rfl, g, _, rfl, rfl⟩ w
end Go.Proofs.Ytpbpbijjkmjjjaa

/- footpathlaw05.SoupBack by a walk: it is true. No conditions but that the rows lie where they are said to lie. -/
set_option linter.unusedSimpArgs false
set_option linter.unusedVariables false
namespace Go.Proofs.Ytpbpbijjkmjjjaa
open Go Go.RowKit Go.Sx
attribute [local go_sem] Oper.semAt_some
set_option maxHeartbeats 8000000 in
set_option maxRecDepth 100000 in
theorem back_any (a b c d e f g : Int) (s : Soup) (t u : T10) (A1 A2 A3 : Option Addr) (c1 c2 c3 : Nat) (w : World) (hs : SoupAt w w.heap.size A1 A2 A3 s) :
    Calls Try.prog 4 #[cfgv a b c d e f g, soupv A1 A2 A3 c1 c2 c3 s, t.v, u.v] w fun en w' => en = .returned (.bool true) ∧ Below w.heap.size w w' := by
  obtain ⟨u1, eu1, bu1, kC⟩ := alloc_step w (.cells #[.int .i64 a, .int .i64 b, .int .i64 c, .int .i64 d, .int .i64 e, .int .i64 f, .int .i64 g] 23)
  obtain ⟨u2, eu2, bu2, kS⟩ := alloc_step u1 (.cells #[.slice A1 s.ts.length c1, .slice A2 s.bs.length c2, .slice A3 s.hs.length c3] 28)
  obtain ⟨u3, eu3, bu3, kT⟩ := alloc_step u2 (.cells #[.int .i64 t.id, .int .i64 t.x0, .int .i64 t.y0, .int .i64 t.z0, .int .i64 t.x1, .int .i64 t.y1, .int .i64 t.z1, .int .i64 t.x2, .int .i64 t.y2, .int .i64 t.z2] 33)
  obtain ⟨u4, eu4, bu4, kU⟩ := alloc_step u3 (.cells #[.int .i64 u.id, .int .i64 u.x0, .int .i64 u.y0, .int .i64 u.z0, .int .i64 u.x1, .int .i64 u.y1, .int .i64 u.z1, .int .i64 u.x2, .int .i64 u.y2, .int .i64 u.z2] 33)
  have hbw := bu1
  replace kC := (bu2.block _ (lt_of_block kC)).trans kC
  replace hbw := hbw.trans (bu2.mono hbw.size)
  replace kC := (bu3.block _ (lt_of_block kC)).trans kC
  replace kS := (bu3.block _ (lt_of_block kS)).trans kS
  replace hbw := hbw.trans (bu3.mono hbw.size)
  replace kC := (bu4.block _ (lt_of_block kC)).trans kC
  replace kS := (bu4.block _ (lt_of_block kS)).trans kS
  replace kT := (bu4.block _ (lt_of_block kT)).trans kT
  replace hbw := hbw.trans (bu4.mono hbw.size)
  replace hs := (hs.below hbw).more hbw.size
  have hgr := fun w => great_any s A1 A2 A3 c1 c2 c3 w
  have hwk := fun w => wakes_any w
  have hrc := fun w => rchk5_any a b c d e f g w
  generalize checkRF a b c d e f g = vc at hrc
  obtain ⟨iT, hiT, hzT0, hzT1, hzT2⟩ := info_parts infoSoup
  unfold soupv at hgr
  unfold cfgv soupv T10.v
  obtain ⟨s0, s1, s2⟩ := box3 kS
  refine (callsIn_wide (n := 6)).1 ?_
  refine callsIn_of_wp Try.func4 rfl trivial ?_
  simp only [Try.ntmps4, List.size_toArray, List.length_cons, List.length_nil, Nat.reduceAdd, Nat.reduceSub, Array.replicate_succ, Array.replicate_zero, List.push_toArray, List.append_toArray, List.nil_append, List.cons_append]
  gi_wp2
  refine ⟨trivial, (callsIn_wide.2 (hgr _)).mono ?_⟩
  rintro en w5 ⟨rfl, hb5⟩
  clear s0 s1 s2 hgr
  replace kC := (hb5.block _ (lt_of_block kC)).trans kC
  replace kS := (hb5.block _ (lt_of_block kS)).trans kS
  replace kT := (hb5.block _ (lt_of_block kT)).trans kT
  replace kU := (hb5.block _ (lt_of_block kU)).trans kU
  replace hs := (hs.below hb5).more hb5.size
  replace hbw := hbw.trans (hb5.mono hbw.size)
  cases hg : greatB s with
  | true =>
    gi_wp2_with (refine wpListIn_off rfl ?_)
    refine ⟨trivial, (callsIn_wide.2 (hwk _)).mono ?_⟩
    rintro en wz ⟨rfl, hz⟩
    gi_wp2
    go_ret
    exact ⟨rfl, hbw.trans (hz.mono hbw.size)⟩
  | false =>
    have hln := greatB_no hg
    have hl3 := Lib.hid (greatB_no3 hg)
    replace hg := Lib.hid hg
    obtain ⟨q0, q1, q2, q3, q4, q5, q6⟩ := box7 kC
    gi_wp2
    refine ⟨trivial, (callsIn_wide.2 (hrc _)).mono ?_⟩
    rintro en w6 ⟨rfl, hb6⟩
    clear q0 q1 q2 q3 q4 q5 q6 hrc
    replace kC := (hb6.block _ (lt_of_block kC)).trans kC
    replace kS := (hb6.block _ (lt_of_block kS)).trans kS
    replace kT := (hb6.block _ (lt_of_block kT)).trans kT
    replace kU := (hb6.block _ (lt_of_block kU)).trans kU
    replace hs := (hs.below hb6).more hb6.size
    replace hbw := hbw.trans (hb6.mono hbw.size)
    by_cases hv : vc = 0
    rotate_left
    · have hv2 : (vc != 0) = true := by simpa using hv
      clear hv
      gi_wp2
      refine ⟨trivial, (callsIn_wide.2 (hwk _)).mono ?_⟩
      rintro en wz ⟨rfl, hz⟩
      gi_wp2
      go_ret
      exact ⟨rfl, hbw.trans (hz.mono hbw.size)⟩
    subst hv
    obtain ⟨q0, q1, q2, q3, q4, q5, q6⟩ := box7 kC
    obtain ⟨s0, s1, s2⟩ := box3 kS
    obtain ⟨p0, p1, p2, p3, p4, p5, p6, p7, p8, p9⟩ := box10 kT
    have had := addB0_any a b c d e f g s t A1 A2 A3 c1 c2 c3 w6 hs hln
    gi_wp2
    refine ⟨trivial, (callsIn_wide.2 had).mono ?_⟩
    rintro en w7 ⟨hout, hb7⟩
    clear q0 q1 q2 q3 q4 q5 q6 s0 s1 s2 p0 p1 p2 p3 p4 p5 p6 p7 p8 p9 had
    replace kC := (hb7.block _ (lt_of_block kC)).trans kC
    replace kS := (hb7.block _ (lt_of_block kS)).trans kS
    replace kT := (hb7.block _ (lt_of_block kT)).trans kT
    replace kU := (hb7.block _ (lt_of_block kU)).trans kU
    replace hs := (hs.below hb7).more hb7.size
    replace hbw := hbw.trans (hb7.mono hbw.size)
    rcases hout with ⟨er, hne, rfl⟩ | ⟨k, X, B1, B2, B3, d1, d2, d3, h0, hX, hk, h1, rfl, hx⟩
    · have hne2 : (er != 0) = true := by simpa using hne
      clear hne
      obtain ⟨v1, ev1, bv1, kv1⟩ := alloc_step w7 (.cells #[.slice none 0 0, .slice none 0 0, .slice none 0 0] 28)
      gi_wp2_with (refine wpListIn_plain rfl fun K' hK' => ?_; refine wpIn_store_boxg (.tmp 9) (.tmp 32) rfl hiT rfl rfl [.slice none 0 0, .slice none 0 0, .slice none 0 0] rfl hzT1.symm (by simp [Value.oneCell']) kv1 rfl ?_; intro w11 hk11 hg11; obtain ⟨y0, y1, y2⟩ := box3 hk11; refine hK' _ _ ?_)
      replace hbw : Below w.heap.size w w11 := below_own (hbw.trans (bv1.mono hbw.size)) (Nat.le_trans hbw.size bv1.size) hg11 hbw.size
      refine ⟨trivial, (callsIn_wide.2 (hwk _)).mono ?_⟩
      rintro en wz ⟨rfl, hz⟩
      gi_wp2
      go_ret
      exact ⟨rfl, hbw.trans (hz.mono hbw.size)⟩
    obtain ⟨hX0, hXl⟩ : soupC a b c d e f g X = 0 ∧ X.lens := by subst hX; exact insS_facts h0 hk h1 hl3.out
    have hdr : ∀ W : World, SoupAt W W.heap.size B1 B2 B3 X → Calls Try.prog 9 #[.agg #[.slice B1 X.ts.length d1, .slice B2 X.bs.length d2, .slice B3 X.hs.length d3], .int .i64 0, .int .i64 t.id] W fun en w' => (∃ B1 B2 B3 d1 d2 d3, en = .returned (.tuple #[.agg #[.slice B1 s.ts.length d1, .slice B2 s.bs.length d2, .slice B3 s.hs.length d3], .int .i64 0]) ∧ SoupAt w' w'.heap.size B1 B2 B3 s) ∧ Below W.heap.size W w' := fun W hW => by subst hX; exact dropB_any s t k B1 B2 B3 d1 d2 d3 W hW hXl hk hX0
    replace h0 := Lib.hid h0
    replace hX := Lib.hid hX
    replace hk := Lib.hid hk
    replace h1 := Lib.hid h1
    replace hX0 := Lib.hid hX0
    obtain ⟨w8, ew8, hb8, kX⟩ := alloc_step w7 (.cells #[.slice B1 X.ts.length d1, .slice B2 X.bs.length d2, .slice B3 X.hs.length d3] 28)
    replace kC := (hb8.block _ (lt_of_block kC)).trans kC
    replace kS := (hb8.block _ (lt_of_block kS)).trans kS
    replace kT := (hb8.block _ (lt_of_block kT)).trans kT
    replace kU := (hb8.block _ (lt_of_block kU)).trans kU
    replace hs := (hs.below hb8).more hb8.size
    replace hx := (hx.below hb8).more hb8.size
    replace hbw := hbw.trans (hb8.mono hbw.size)
    obtain ⟨x0, x1, x2⟩ := box3 kX
    obtain ⟨p0, p1, p2, p3, p4, p5, p6, p7, p8, p9⟩ := box10 kT
    gi_wp2
    refine ⟨trivial, (callsIn_wide.2 (hdr _ hx)).mono ?_⟩
    rintro en w9 ⟨⟨C1, C2, C3, e1, e2, e3, rfl, hy⟩, hb9⟩
    clear x0 x1 x2 p0 p1 p2 p3 p4 p5 p6 p7 p8 p9 hdr
    replace kC := (hb9.block _ (lt_of_block kC)).trans kC
    replace kS := (hb9.block _ (lt_of_block kS)).trans kS
    replace kT := (hb9.block _ (lt_of_block kT)).trans kT
    replace kU := (hb9.block _ (lt_of_block kU)).trans kU
    replace kX := (hb9.block _ (lt_of_block kX)).trans kX
    replace hs := (hs.below hb9).more hb9.size
    replace hx := (hx.below hb9).more hb9.size
    replace hbw := hbw.trans (hb9.mono hbw.size)
    obtain ⟨w10, ew10, hb10, kY⟩ := alloc_step w9 (.cells #[.slice C1 s.ts.length e1, .slice C2 s.bs.length e2, .slice C3 s.hs.length e3] 28)
    replace kC := (hb10.block _ (lt_of_block kC)).trans kC
    replace kS := (hb10.block _ (lt_of_block kS)).trans kS
    replace kT := (hb10.block _ (lt_of_block kT)).trans kT
    replace kU := (hb10.block _ (lt_of_block kU)).trans kU
    replace kX := (hb10.block _ (lt_of_block kX)).trans kX
    replace hs := (hs.below hb10).more hb10.size
    replace hx := (hx.below hb10).more hb10.size
    replace hy := (hy.below hb10).more hb10.size
    replace hbw := hbw.trans (hb10.mono hbw.size)
    have hsm := sameS_any s C1 C2 C3 A1 A2 A3 e1 e2 e3 c1 c2 c3 w10 hy hs hln
    obtain ⟨y0, y1, y2⟩ := box3 kY
    obtain ⟨s0, s1, s2⟩ := box3 kS
    gi_wp2
    refine ⟨trivial, (callsIn_wide.2 hsm).mono ?_⟩
    rintro en w11 ⟨rfl, hb11⟩
    clear y0 y1 y2 s0 s1 s2 hsm
    clear hy kY
    replace kC := (hb11.block _ (lt_of_block kC)).trans kC
    replace kS := (hb11.block _ (lt_of_block kS)).trans kS
    replace kT := (hb11.block _ (lt_of_block kT)).trans kT
    replace kU := (hb11.block _ (lt_of_block kU)).trans kU
    replace kX := (hb11.block _ (lt_of_block kX)).trans kX
    replace hs := (hs.below hb11).more hb11.size
    replace hx := (hx.below hb11).more hb11.size
    replace hbw := hbw.trans (hb11.mono hbw.size)
    have hck := scheck_any a b c d e f g X B1 B2 B3 d1 d2 d3 w11 hx hXl
    rw [hX0.out] at hck
    unfold cfgv soupv at hck
    obtain ⟨q0, q1, q2, q3, q4, q5, q6⟩ := box7 kC
    obtain ⟨x0, x1, x2⟩ := box3 kX
    gi_wp2
    refine ⟨trivial, (callsIn_wide.2 hck).mono ?_⟩
    rintro en w12 ⟨rfl, hb12⟩
    clear q0 q1 q2 q3 q4 q5 q6 x0 x1 x2 hck
    replace kC := (hb12.block _ (lt_of_block kC)).trans kC
    replace kS := (hb12.block _ (lt_of_block kS)).trans kS
    replace kT := (hb12.block _ (lt_of_block kT)).trans kT
    replace kU := (hb12.block _ (lt_of_block kU)).trans kU
    replace kX := (hb12.block _ (lt_of_block kX)).trans kX
    replace hs := (hs.below hb12).more hb12.size
    replace hx := (hx.below hb12).more hb12.size
    replace hbw := hbw.trans (hb12.mono hbw.size)
    have had := addB_any a b c d e f g X u B1 B2 B3 d1 d2 d3 w12 hx hXl hX0.out
    obtain ⟨q0, q1, q2, q3, q4, q5, q6⟩ := box7 kC
    obtain ⟨x0, x1, x2⟩ := box3 kX
    obtain ⟨r0, r1, r2, r3, r4, r5, r6, r7, r8, r9⟩ := box10 kU
    gi_wp2
    refine ⟨trivial, (callsIn_wide.2 had).mono ?_⟩
    rintro en w13 ⟨hout, hb13⟩
    clear q0 q1 q2 q3 q4 q5 q6 x0 x1 x2 r0 r1 r2 r3 r4 r5 r6 r7 r8 r9 had
    replace kC := (hb13.block _ (lt_of_block kC)).trans kC
    replace kS := (hb13.block _ (lt_of_block kS)).trans kS
    replace kT := (hb13.block _ (lt_of_block kT)).trans kT
    replace kU := (hb13.block _ (lt_of_block kU)).trans kU
    replace kX := (hb13.block _ (lt_of_block kX)).trans kX
    replace hs := (hs.below hb13).more hb13.size
    replace hx := (hx.below hb13).more hb13.size
    replace hbw := hbw.trans (hb13.mono hbw.size)
    have had := fun (W : World) (hW : SoupAt W W.heap.size A1 A2 A3 s) => addB_any a b c d e f g s u A1 A2 A3 c1 c2 c3 W hW hln h0.out
    rcases hout with ⟨er, hne, hr, rfl⟩ | ⟨k2, Y, C1, C2, C3, e1, e2, e3, hY, hk2, h2, rfl, hy⟩
    · have hne2 : (er != 0) = true := by simpa using hne
      have hne3 : (er == 0) = false := by simpa using hne
      clear hne
      replace hr := Lib.hid hr
      obtain ⟨v1, ev1, bv1, kv1⟩ := alloc_step w13 (.cells #[.slice none 0 0, .slice none 0 0, .slice none 0 0] 28)
      gi_wp2_with (refine wpListIn_plain rfl fun K' hK' => ?_; refine wpIn_store_boxg (.tmp 13) (.tmp 77) rfl hiT rfl rfl [.slice none 0 0, .slice none 0 0, .slice none 0 0] rfl hzT1.symm (by simp [Value.oneCell']) kv1 rfl ?_; intro w14 kP hg; have hbx : Below w13.heap.size w13 w14 := below_own bv1 bv1.size hg (Nat.le_refl _); replace kC := (hbx.block _ (lt_of_block kC)).trans kC; replace kS := (hbx.block _ (lt_of_block kS)).trans kS; replace kT := (hbx.block _ (lt_of_block kT)).trans kT; replace kU := (hbx.block _ (lt_of_block kU)).trans kU; replace kX := (hbx.block _ (lt_of_block kX)).trans kX; replace hs := (hs.below hbx).more hbx.size; replace hx := (hx.below hbx).more hbx.size; replace hbw := hbw.trans (hbx.mono hbw.size); clear hg hbx bv1 ev1 kv1; obtain ⟨q0, q1, q2, q3, q4, q5, q6⟩ := box7 kC; obtain ⟨s0, s1, s2⟩ := box3 kS; obtain ⟨r0, r1, r2, r3, r4, r5, r6, r7, r8, r9⟩ := box10 kU; refine hK' _ _ ?_)
      refine ⟨trivial, (callsIn_wide.2 (had w14 hs)).mono ?_⟩
      rintro en w15 ⟨hout, hb15⟩
      clear q0 q1 q2 q3 q4 q5 q6 s0 s1 s2 r0 r1 r2 r3 r4 r5 r6 r7 r8 r9 had
      replace kC := (hb15.block _ (lt_of_block kC)).trans kC
      replace kS := (hb15.block _ (lt_of_block kS)).trans kS
      replace kT := (hb15.block _ (lt_of_block kT)).trans kT
      replace kU := (hb15.block _ (lt_of_block kU)).trans kU
      replace kX := (hb15.block _ (lt_of_block kX)).trans kX
      replace kP := (hb15.block _ (lt_of_block kP)).trans kP
      replace hs := (hs.below hb15).more hb15.size
      replace hx := (hx.below hb15).more hb15.size
      replace hbw := hbw.trans (hb15.mono hbw.size)
      rcases hout with ⟨er2, hnz, hr2, rfl⟩ | ⟨k3, Z, D1, D2, D3, f1, f2, f3, hZ, hk3, h3, rfl, hz⟩
      · have hnz2 : (er2 != 0) = true := by simpa using hnz
        clear hnz hr2
        obtain ⟨v1, ev1, bv1, kv1⟩ := alloc_step w15 (.cells #[.slice none 0 0, .slice none 0 0, .slice none 0 0] 28)
        gi_wp2_with (refine wpListIn_plain rfl fun K' hK' => ?_; refine wpIn_store_boxg (.tmp 15) (.tmp 84) rfl hiT rfl rfl [.slice none 0 0, .slice none 0 0, .slice none 0 0] rfl hzT1.symm (by simp [Value.oneCell']) kv1 rfl ?_; intro w16 kQ hg; have hbx : Below w15.heap.size w15 w16 := below_own bv1 bv1.size hg (Nat.le_refl _); replace kC := (hbx.block _ (lt_of_block kC)).trans kC; replace kS := (hbx.block _ (lt_of_block kS)).trans kS; replace kT := (hbx.block _ (lt_of_block kT)).trans kT; replace kU := (hbx.block _ (lt_of_block kU)).trans kU; replace kX := (hbx.block _ (lt_of_block kX)).trans kX; replace kP := (hbx.block _ (lt_of_block kP)).trans kP; replace hs := (hs.below hbx).more hbx.size; replace hx := (hx.below hbx).more hbx.size; replace hbw := hbw.trans (hbx.mono hbw.size); clear hg hbx bv1 ev1 kv1; refine hK' _ _ ?_)
        refine ⟨trivial, (callsIn_wide.2 (hwk _)).mono ?_⟩
        rintro en wz ⟨rfl, hz⟩
        gi_wp2
        go_ret
        exact ⟨rfl, hbw.trans (hz.mono hbw.size)⟩
      · obtain ⟨hZ0, hZl⟩ : soupC a b c d e f g Z = 0 ∧ Z.lens := by subst hZ; exact insS_facts h0.out hk3 h3 hl3.out
        replace hk3 := Lib.hid hk3
        replace h3 := Lib.hid h3
        replace hZ := Lib.hid hZ
        have had := fun (W : World) (hW : SoupAt W W.heap.size D1 D2 D3 Z) => addB_any a b c d e f g Z t D1 D2 D3 f1 f2 f3 W hW hZl hZ0
        replace hZ0 := Lib.hid hZ0
        obtain ⟨w16, ew16, hbx, kQ⟩ := alloc_step w15 (.cells #[.slice D1 Z.ts.length f1, .slice D2 Z.bs.length f2, .slice D3 Z.hs.length f3] 28)
        replace kC := (hbx.block _ (lt_of_block kC)).trans kC
        replace kS := (hbx.block _ (lt_of_block kS)).trans kS
        replace kT := (hbx.block _ (lt_of_block kT)).trans kT
        replace kU := (hbx.block _ (lt_of_block kU)).trans kU
        replace kX := (hbx.block _ (lt_of_block kX)).trans kX
        replace kP := (hbx.block _ (lt_of_block kP)).trans kP
        replace hs := (hs.below hbx).more hbx.size
        replace hx := (hx.below hbx).more hbx.size
        replace hz := (hz.below hbx).more hbx.size
        replace hbw := hbw.trans (hbx.mono hbw.size)
        clear hbx
        obtain ⟨q0, q1, q2, q3, q4, q5, q6⟩ := box7 kC
        obtain ⟨qq0, qq1, qq2⟩ := box3 kQ
        obtain ⟨p0, p1, p2, p3, p4, p5, p6, p7, p8, p9⟩ := box10 kT
        gi_wp2
        refine ⟨trivial, (callsIn_wide.2 (had w16 hz)).mono ?_⟩
        rintro en w17 ⟨hout, hb17⟩
        clear q0 q1 q2 q3 q4 q5 q6 qq0 qq1 qq2 p0 p1 p2 p3 p4 p5 p6 p7 p8 p9 had
        replace kC := (hb17.block _ (lt_of_block kC)).trans kC
        replace kS := (hb17.block _ (lt_of_block kS)).trans kS
        replace kT := (hb17.block _ (lt_of_block kT)).trans kT
        replace kU := (hb17.block _ (lt_of_block kU)).trans kU
        replace kX := (hb17.block _ (lt_of_block kX)).trans kX
        replace kP := (hb17.block _ (lt_of_block kP)).trans kP
        replace kQ := (hb17.block _ (lt_of_block kQ)).trans kQ
        replace hs := (hs.below hb17).more hb17.size
        replace hx := (hx.below hb17).more hb17.size
        replace hz := (hz.below hb17).more hb17.size
        replace hbw := hbw.trans (hb17.mono hbw.size)
        rcases hout with ⟨er3, hn3, hr3, rfl⟩ | ⟨k4, R, E1, E2, E3, g1, g2, g3, hR, hk4, h4, rfl, hrr⟩
        · have hn4 : (er3 == 0) = false := by simpa using hn3
          clear hn3 hr3
          obtain ⟨v1, ev1, bv1, kv1⟩ := alloc_step w17 (.cells #[.slice none 0 0, .slice none 0 0, .slice none 0 0] 28)
          gi_wp2_with (first | (refine wpListIn_off rfl ?_) | (refine wpListIn_plain rfl fun K' hK' => ?_; refine wpIn_store_boxg (.tmp 17) (.tmp 98) rfl hiT rfl rfl [.slice none 0 0, .slice none 0 0, .slice none 0 0] rfl hzT1.symm (by simp [Value.oneCell']) kv1 rfl ?_; intro w18 kR hg; have hbx : Below w17.heap.size w17 w18 := below_own bv1 bv1.size hg (Nat.le_refl _); replace kC := (hbx.block _ (lt_of_block kC)).trans kC; replace kS := (hbx.block _ (lt_of_block kS)).trans kS; replace kT := (hbx.block _ (lt_of_block kT)).trans kT; replace kU := (hbx.block _ (lt_of_block kU)).trans kU; replace kX := (hbx.block _ (lt_of_block kX)).trans kX; replace kP := (hbx.block _ (lt_of_block kP)).trans kP; replace kQ := (hbx.block _ (lt_of_block kQ)).trans kQ; replace hs := (hs.below hbx).more hbx.size; replace hx := (hx.below hbx).more hbx.size; replace hz := (hz.below hbx).more hbx.size; replace hbw := hbw.trans (hbx.mono hbw.size); clear hg hbx bv1 ev1 kv1; refine hK' _ _ ?_))
          refine ⟨trivial, (callsIn_wide.2 (hwk _)).mono ?_⟩
          rintro en wz ⟨rfl, hz⟩
          gi_wp2
          go_ret
          exact ⟨rfl, hbw.trans (hz.mono hbw.size)⟩
        · exact (add_swap (by have := h3.out; rwa [hZ.out] at this) (by have := h1.out; rwa [hX.out] at this) hk3.out hk.out (by have := hr.out; rwa [hX.out] at this) (by have := h4; rwa [hZ.out] at this)).elim
    · replace hk2 := Lib.hid hk2
      replace h2 := Lib.hid h2
      replace hY := Lib.hid hY
      obtain ⟨w14, ew14, hbx, kP⟩ := alloc_step w13 (.cells #[.slice C1 Y.ts.length e1, .slice C2 Y.bs.length e2, .slice C3 Y.hs.length e3] 28)
      replace kC := (hbx.block _ (lt_of_block kC)).trans kC
      replace kS := (hbx.block _ (lt_of_block kS)).trans kS
      replace kT := (hbx.block _ (lt_of_block kT)).trans kT
      replace kU := (hbx.block _ (lt_of_block kU)).trans kU
      replace kX := (hbx.block _ (lt_of_block kX)).trans kX
      replace hs := (hs.below hbx).more hbx.size
      replace hx := (hx.below hbx).more hbx.size
      replace hy := (hy.below hbx).more hbx.size
      replace hbw := hbw.trans (hbx.mono hbw.size)
      clear hbx
      obtain ⟨q0, q1, q2, q3, q4, q5, q6⟩ := box7 kC
      obtain ⟨s0, s1, s2⟩ := box3 kS
      obtain ⟨r0, r1, r2, r3, r4, r5, r6, r7, r8, r9⟩ := box10 kU
      gi_wp2
      refine ⟨trivial, (callsIn_wide.2 (had w14 hs)).mono ?_⟩
      rintro en w15 ⟨hout, hb15⟩
      clear q0 q1 q2 q3 q4 q5 q6 s0 s1 s2 r0 r1 r2 r3 r4 r5 r6 r7 r8 r9 had
      replace kC := (hb15.block _ (lt_of_block kC)).trans kC
      replace kS := (hb15.block _ (lt_of_block kS)).trans kS
      replace kT := (hb15.block _ (lt_of_block kT)).trans kT
      replace kU := (hb15.block _ (lt_of_block kU)).trans kU
      replace kX := (hb15.block _ (lt_of_block kX)).trans kX
      replace kP := (hb15.block _ (lt_of_block kP)).trans kP
      replace hs := (hs.below hb15).more hb15.size
      replace hx := (hx.below hb15).more hb15.size
      replace hy := (hy.below hb15).more hb15.size
      replace hbw := hbw.trans (hb15.mono hbw.size)
      rcases hout with ⟨er2, hnz, hr2, rfl⟩ | ⟨k3, Z, D1, D2, D3, f1, f2, f3, hZ, hk3, h3, rfl, hz⟩
      · exact (add_no h1.out.2.2.1 hr2 (by have := h2.out; rwa [hX.out] at this)).elim
      · obtain ⟨hZ0, hZl⟩ : soupC a b c d e f g Z = 0 ∧ Z.lens := by subst hZ; exact insS_facts h0.out hk3 h3 hl3.out
        replace hk3 := Lib.hid hk3
        replace h3 := Lib.hid h3
        replace hZ := Lib.hid hZ
        have had := fun (W : World) (hW : SoupAt W W.heap.size D1 D2 D3 Z) => addB_any a b c d e f g Z t D1 D2 D3 f1 f2 f3 W hW hZl hZ0
        replace hZ0 := Lib.hid hZ0
        obtain ⟨w16, ew16, hbx, kQ⟩ := alloc_step w15 (.cells #[.slice D1 Z.ts.length f1, .slice D2 Z.bs.length f2, .slice D3 Z.hs.length f3] 28)
        replace kC := (hbx.block _ (lt_of_block kC)).trans kC
        replace kS := (hbx.block _ (lt_of_block kS)).trans kS
        replace kT := (hbx.block _ (lt_of_block kT)).trans kT
        replace kU := (hbx.block _ (lt_of_block kU)).trans kU
        replace kX := (hbx.block _ (lt_of_block kX)).trans kX
        replace kP := (hbx.block _ (lt_of_block kP)).trans kP
        replace hs := (hs.below hbx).more hbx.size
        replace hx := (hx.below hbx).more hbx.size
        replace hy := (hy.below hbx).more hbx.size
        replace hz := (hz.below hbx).more hbx.size
        replace hbw := hbw.trans (hbx.mono hbw.size)
        clear hbx
        obtain ⟨q0, q1, q2, q3, q4, q5, q6⟩ := box7 kC
        obtain ⟨qq0, qq1, qq2⟩ := box3 kQ
        obtain ⟨p0, p1, p2, p3, p4, p5, p6, p7, p8, p9⟩ := box10 kT
        gi_wp2
        refine ⟨trivial, (callsIn_wide.2 (had w16 hz)).mono ?_⟩
        rintro en w17 ⟨hout, hb17⟩
        clear q0 q1 q2 q3 q4 q5 q6 qq0 qq1 qq2 p0 p1 p2 p3 p4 p5 p6 p7 p8 p9 had
        replace kC := (hb17.block _ (lt_of_block kC)).trans kC
        replace kS := (hb17.block _ (lt_of_block kS)).trans kS
        replace kT := (hb17.block _ (lt_of_block kT)).trans kT
        replace kU := (hb17.block _ (lt_of_block kU)).trans kU
        replace kX := (hb17.block _ (lt_of_block kX)).trans kX
        replace kP := (hb17.block _ (lt_of_block kP)).trans kP
        replace kQ := (hb17.block _ (lt_of_block kQ)).trans kQ
        replace hs := (hs.below hb17).more hb17.size
        replace hx := (hx.below hb17).more hb17.size
        replace hy := (hy.below hb17).more hb17.size
        replace hz := (hz.below hb17).more hb17.size
        replace hbw := hbw.trans (hb17.mono hbw.size)
        rcases hout with ⟨er3, hn3, hr3, rfl⟩ | ⟨k4, R, E1, E2, E3, g1, g2, g3, hR, hk4, h4, rfl, hrr⟩
        · exact (add_swap (by have := h1.out; rwa [hX.out] at this) (by have := h3.out; rwa [hZ.out] at this) hk.out hk3.out (by have := hr3; rwa [hZ.out] at this) (by have := h2.out; rwa [hX.out] at this)).elim
        · have hYR : Hid (R = Y) := Lib.hid (same_soup hX.out hZ.out hY.out hR h2.out h4 (rows_t (soupC_zero hX0.out).2).2 (rows_t (soupC_zero hZ0.out).2).2)
          have hYl : Y.lens := by have e := hY.out; subst e; exact (insS_facts2 hX0.out hk2.out h2.out hXl).2
          have hsm := fun (W : World) (hA : SoupAt W W.heap.size C1 C2 C3 Y) (hB : SoupAt W W.heap.size E1 E2 E3 Y) => sameS_any Y C1 C2 C3 E1 E2 E3 e1 e2 e3 g1 g2 g3 W hA hB hYl
          obtain rfl := hYR.out
          clear hR hk4 h4
          obtain ⟨w18, ew18, hbx, kR⟩ := alloc_step w17 (.cells #[.slice E1 R.ts.length g1, .slice E2 R.bs.length g2, .slice E3 R.hs.length g3] 28)
          replace kC := (hbx.block _ (lt_of_block kC)).trans kC
          replace kS := (hbx.block _ (lt_of_block kS)).trans kS
          replace kT := (hbx.block _ (lt_of_block kT)).trans kT
          replace kU := (hbx.block _ (lt_of_block kU)).trans kU
          replace kX := (hbx.block _ (lt_of_block kX)).trans kX
          replace kP := (hbx.block _ (lt_of_block kP)).trans kP
          replace kQ := (hbx.block _ (lt_of_block kQ)).trans kQ
          replace hs := (hs.below hbx).more hbx.size
          replace hx := (hx.below hbx).more hbx.size
          replace hy := (hy.below hbx).more hbx.size
          replace hz := (hz.below hbx).more hbx.size
          replace hrr := (hrr.below hbx).more hbx.size
          replace hbw := hbw.trans (hbx.mono hbw.size)
          clear hbx
          obtain ⟨pp0, pp1, pp2⟩ := box3 kP
          obtain ⟨rr0, rr1, rr2⟩ := box3 kR
          gi_wp2
          refine ⟨trivial, (callsIn_wide.2 (hsm w18 hy hrr)).mono ?_⟩
          rintro en w19 ⟨rfl, hb19⟩
          clear pp0 pp1 pp2 rr0 rr1 rr2 hsm
          replace kC := (hb19.block _ (lt_of_block kC)).trans kC
          replace kS := (hb19.block _ (lt_of_block kS)).trans kS
          replace kT := (hb19.block _ (lt_of_block kT)).trans kT
          replace kU := (hb19.block _ (lt_of_block kU)).trans kU
          replace kX := (hb19.block _ (lt_of_block kX)).trans kX
          replace kP := (hb19.block _ (lt_of_block kP)).trans kP
          replace kQ := (hb19.block _ (lt_of_block kQ)).trans kQ
          replace kR := (hb19.block _ (lt_of_block kR)).trans kR
          replace hs := (hs.below hb19).more hb19.size
          replace hx := (hx.below hb19).more hb19.size
          replace hy := (hy.below hb19).more hb19.size
          replace hz := (hz.below hb19).more hb19.size
          replace hrr := (hrr.below hb19).more hb19.size
          replace hbw := hbw.trans (hb19.mono hbw.size)
          gi_wp2
          refine ⟨trivial, (callsIn_wide.2 (hwk _)).mono ?_⟩
          rintro en wz ⟨rfl, hz⟩
          gi_wp2
          go_ret
          exact ⟨rfl, hbw.trans (hz.mono hbw.size)⟩
theorem soupBack_calls (a b c d e f g : Int) (s : Soup) (t u : T10) (A1 A2 A3 : Option Addr) (c1 c2 c3 : Nat) (w : World) (hs : SoupAt w w.heap.size A1 A2 A3 s) :
    Calls Try.prog 4 #[.agg #[.int .i64 a, .int .i64 b, .int .i64 c, .int .i64 d, .int .i64 e, .int .i64 f, .int .i64 g], soupv A1 A2 A3 c1 c2 c3 s, .agg #[.int .i64 t.id, .int .i64 t.x0, .int .i64 t.y0, .int .i64 t.z0, .int .i64 t.x1, .int .i64 t.y1, .int .i64 t.z1, .int .i64 t.x2, .int .i64 t.y2, .int .i64 t.z2], .agg #[.int .i64 u.id, .int .i64 u.x0, .int .i64 u.y0, .int .i64 u.z0, .int .i64 u.x1, .int .i64 u.y1, .int .i64 u.z1, .int .i64 u.x2, .int .i64 u.y2, .int .i64 u.z2]] w fun en w' => en = .returned (.bool true) ∧ Below w.heap.size w w' :=
  back_any a b c d e f g s t u A1 A2 A3 c1 c2 c3 w hs
end Go.Proofs.Ytpbpbijjkmjjjaa
