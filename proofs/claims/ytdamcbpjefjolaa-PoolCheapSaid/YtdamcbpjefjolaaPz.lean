/- footpathlaw26.wakes, by a walk; slices.Reverse of two numbers; pool.Back from a node that came from another. No conditions but that the pool lies where it is said to lie. -/
import Derived.Test.YtdamcbpjefjolaaPx
namespace Go.Proofs.Ytdamcbpjefjolaa
open Go Go.RowKit Go.Sx Go.Mp
attribute [local go_sem] Oper.semAt_some
set_option maxHeartbeats 1000000 in
set_option maxRecDepth 100000 in
theorem reverse2_any (a b : Int) (g cap base : Nat) (w : World) (hr : w.ownsRow base 3 1 (.slice (some ⟨g, 0, none⟩) 2 cap) 2 [.int .i64 a, .int .i64 b]) :
    Calls Try.prog 56 #[.slice (some ⟨g, 0, none⟩) 2 cap] w fun en w' => en = .returned (.tuple #[]) ∧ w'.ownsRow base 3 1 (.slice (some ⟨g, 0, none⟩) 2 cap) 2 [.int .i64 b, .int .i64 a] ∧ Fr (fun k => k = g) w w' := by
  refine (callsIn_wide (n := 6)).1 ?_
  refine callsIn_of_wp Try.func56 rfl trivial ?_
  simp only [Try.ntmps56, List.size_toArray, List.length_cons, List.length_nil, Nat.reduceAdd, Nat.reduceSub, Array.replicate_succ, Array.replicate_zero, List.push_toArray, List.append_toArray, List.nil_append, List.cons_append]
  gi_wp2
  gi_loopw [2, 3] (fun x y wr => (x = .int .i64 0 ∧ y = .int .i64 1 ∧ wr = w) ∨ (x = .int .i64 1 ∧ y = .int .i64 0 ∧ wr.ownsRow base 3 1 (.slice (some ⟨g, 0, none⟩) 2 cap) 2 [.int .i64 b, .int .i64 a] ∧ Fr (fun k => k = g) w wr)) (fun x _ _ => 1 - (intOf x).toNat)
  case atStart => exact .inl ⟨rfl, rfl, rfl⟩
  case round =>
    rcases hrel with ⟨rfl, rfl, rfl⟩ | ⟨rfl, rfl, ho, hf⟩
    · have c0 : wr.cell? ⟨g, 0, none⟩ = some (.int .i64 a) := by rw [hr.cellAt 0 (by decide)]; rfl
      have c1 : wr.cell? ⟨g, 1, none⟩ = some (.int .i64 b) := by rw [hr.cellAt 1 (by decide)]; rfl
      have f0 := hr.frozenAt 0
      have f1 := hr.frozenAt 1
      gi_wp2
      have hS : (fun ph wS => bif ph then CellsL [] wS else CellsL [(⟨g, 0, none⟩, .int .i64 a), (⟨g, 1, none⟩, .int .i64 b)] wS) false (wr.drew) := ⟨c0, c1, trivial⟩
      refine wpIn_region_ordP [(0, true), (1, true), (2, true), (3, true), (4, true), (5, true), (6, true), (7, true), (8, true), (9, true), (10, true), (11, true), (12, true), (13, false), (14, true)] 13 (fun ph wS => bif ph then CellsL [] wS else CellsL [(⟨g, 0, none⟩, .int .i64 a), (⟨g, 1, none⟩, .int .i64 b)] wS) (fun _ => trivial) rfl (by first | exact then_put rfl | (intro c d v a w h; cases d <;> exact h)) (by kernel_rfl) ?_
      simp only [List.length_cons, List.length_nil, Nat.reduceAdd, List.drop_succ_cons, List.drop_zero]
      apply wpOrdP_any rfl hS rfl; (intro w'; go_simp; exact rfl); go_simp
      apply wpOrdP_any rfl hS rfl; (intro w'; go_simp; exact rfl); go_simp
      apply wpOrdP_any rfl hS rfl; (intro w'; go_simp; exact rfl); go_simp
      apply wpOrdP_any rfl hS rfl; (intro w'; go_simp; exact rfl); go_simp
      apply wpOrdP_any rfl hS rfl; (intro w'; go_simp; exact rfl); go_simp
      apply wpOrdP_any rfl hS rfl; (intro w'; go_simp; exact rfl); go_simp
      apply wpOrdP_any rfl hS rfl; (intro w'; go_simp; exact rfl); go_simp
      apply wpOrdP_ahead rfl hS rfl (by kernel_rfl); (intro w' hw'; obtain ⟨q0, q1, _⟩ := hw'; go_simp; exact rfl); go_simp
      apply wpOrdP_any rfl hS rfl; (intro w'; go_simp; exact rfl); go_simp
      apply wpOrdP_any rfl hS rfl; (intro w'; go_simp; exact rfl); go_simp
      apply wpOrdP_any rfl hS rfl; (intro w'; go_simp; exact rfl); go_simp
      apply wpOrdP_ahead rfl hS rfl (by kernel_rfl); (intro w' hw'; obtain ⟨q0, q1, _⟩ := hw'; go_simp; exact rfl); go_simp
      apply wpOrdP_any rfl hS rfl; (intro w'; go_simp; exact rfl); go_simp
      refine wpOrdP_move rfl rfl ?_
      go_simp
      replace hS : (fun ph wS => bif ph then CellsL [] wS else CellsL [(⟨g, 0, none⟩, .int .i64 a), (⟨g, 1, none⟩, .int .i64 b)] wS : Bool → World → Prop) (false || 13 == 13) (wr.setCell ⟨g, 0, none⟩ (.int .i64 b)).drew := trivial
      refine ⟨hS, ?_⟩
      go_simp
      apply wpOrdP_any rfl hS rfl; (intro w'; go_simp; exact rfl); go_simp
      refine wpOrdP_nil ?_
      clear hS
      have s1 := (hr.stored 0 (.int .i64 b)).1
      have d1 : (wr.setCell ⟨g, 0, none⟩ (.int .i64 b)).cell? ⟨g, 1, none⟩ = some (.int .i64 b) := by rw [s1.cellAt 1 (by decide)]; rfl
      have e1 := s1.frozenAt 1
      have s2 := (s1.stored 1 (.int .i64 a)).1
      gi_wp2
      exact ⟨.inr ⟨rfl, rfl, s2.drew, (((Fr.refl (fun k => k = g) wr).set _ (fun _ => rfl)).set _ (fun _ => rfl)).drew⟩, by decide⟩
    · gi_wp2
      go_end0
      exact ⟨rfl, ho, hf⟩
theorem zero4 (w : World) : (zeroValue 4).run Try.prog w = .ok (.bool false) w := by kernel_rfl
theorem look128 {w : World} {bm : Nat} {m : List (Int × Value)} (h : MapAt iv w bm m) {k : Int} {v : Value} (hv : (lookM m k).getD (.bool false) = v) : (Instr.lookup 128 (.map (some bm)) (.int .i64 k) false).run Try.prog w = .ok v w := by
  have := h.look (int_keys Try.underlying3) Try.underlying128 zero4 k false
  rw [← hv]
  exact this
theorem info3' : (Try.prog.info? 3).map (fun i => (i.zero, i.size, i.bytes)) = some (some (.int .i64 0), 1, 8) := by kernel_rfl
def lenOf : Value → Nat
  | .slice _ n _ => n
  | _ => 0
set_option maxHeartbeats 2000000 in
set_option maxRecDepth 100000 in
theorem back_any {base b bm : Nat} {v : Value} {room : Int} {p5 p6 : Nat} {c5 c6 : Int} {t5 t6 : Bool} {h : List V3} {w : World} (H : PoolIn w base b bm v room [⟨5, p5, ⟨5, c5, -1⟩, t5⟩, ⟨6, p6, ⟨6, c6, 5⟩, t6⟩] h) :
    Calls Try.prog 21 #[.pointer (some ⟨b, 0, none⟩), .int .i64 6] w fun en w' => ∃ g cap, en = .returned (.tuple #[.slice (some ⟨g, 0, none⟩) 2 cap, .int .i64 0]) ∧ w'.cell? ⟨g, 0, none⟩ = some (.int .i64 5) ∧ Below w.heap.size w w' := by
  have hmm := @run_makeMap Try.prog
  obtain ⟨i0, hi, hz0, hz1, hz2⟩ := info_parts info3'
  have look6 : ∀ W, Below w.heap.size w W → (Instr.lookup 67 (.map (some bm)) (.int .i64 6) false).run Try.prog W = .ok (.pointer (some ⟨p6, 0, none⟩)) W := fun W hb => look67 (H.below hb).mp rfl
  have look5 : ∀ W, Below w.heap.size w W → (Instr.lookup 67 (.map (some bm)) (.int .i64 5) false).run Try.prog W = .ok (.pointer (some ⟨p5, 0, none⟩)) W := fun W hb => look67 (H.below hb).mp rfl
  have q0 := look6 w (Below.refl _ _)
  have q1 : ∀ o, (Instr.lookup 67 (.map (some bm)) (.int .i64 6) false).run Try.prog (w.alloc o) = .ok (.pointer (some ⟨p6, 0, none⟩)) (w.alloc o) := fun o => look6 _ ((Below.refl _ _).alloc (Nat.le_refl _) o)
  have hpc := H.pb.cells.2.1
  have hpa : ∀ o, (w.alloc o).cell? ⟨b, 1, none⟩ = some (.map (some bm)) := fun o => (World.cell?_alloc_lt w o ⟨b, 1, none⟩ (lt_of_block H.pb)).trans hpc
  refine (callsIn_wide (n := 6)).1 ?_
  refine callsIn_of_wp Try.func21 rfl trivial ?_
  simp only [Try.ntmps21, List.size_toArray, List.length_cons, List.length_nil, Nat.reduceAdd, Nat.reduceSub, Array.replicate_succ, Array.replicate_zero, List.push_toArray, List.append_toArray, List.nil_append, List.cons_append]
  gi_wp2
  gi_loopw [6, 8] (fun u6 u8 wr => Below w.heap.size w wr ∧ w.heap.size < wr.heap.size ∧ ((u6 = .slice none 0 0 ∧ u8 = .pointer (some ⟨p6, 0, none⟩) ∧ MapAt iv wr w.heap.size []) ∨
      (∃ g c, u6 = .slice (some ⟨g, 0, none⟩) 1 c ∧ u8 = .pointer (some ⟨p5, 0, none⟩) ∧ MapAt iv wr w.heap.size [(6, .bool true)] ∧ wr.ownsRow w.heap.size 3 1 (.slice (some ⟨g, 0, none⟩) 1 c) 1 [.int .i64 6]))) (fun u6 _ _ => 1 - lenOf u6)
  case atStart => exact ⟨(Below.refl _ _).alloc (Nat.le_refl _) _, by simp, .inl ⟨rfl, rfl, MapAt.made w⟩⟩
  case round =>
    obtain ⟨low, hlt, hrel⟩ := hrel
    have Hw := H.below low
    have hn5 := Hw.nd ⟨5, p5, ⟨5, c5, -1⟩, t5⟩ (by simp)
    have hn6 := Hw.nd ⟨6, p6, ⟨6, c6, 5⟩, t6⟩ (by simp)
    clear q0 q1 hpc hpa
    rcases hrel with ⟨rfl, rfl, hm⟩ | ⟨g, c, rfl, rfl, hm, ho⟩
    · have d0 : wr.cell? ⟨p6, 0, none⟩ = some (.int .i64 6) := cell_of hn6 rfl
      have hl := look128 (k := 6) (v := .bool false) hm rfl
      have d2 : wr.cell? ⟨p6, 2, none⟩ = some (.int .i64 5) := cell_of hn6 rfl
      gi_wp2_with (first | (refine wpListIn_plain rfl fun K' hK' => ?_; refine wpIn_mapUpdate (.tmp 47) (.tmp 52) (.const (.bool true)) rfl (int_keys Try.underlying3) Try.underlying128 hm (k := 6) (v := .bool true) rfl rfl rfl ?_; intro W2 hm2 hg2; have low2 := Below.grow low hg2 (Nat.le_refl _) (fun k hk => by injection hk with hk; omega); have hn62 := (H.below low2).nd ⟨6, p6, ⟨6, c6, 5⟩, t6⟩ (by simp); have e0 : W2.cell? ⟨p6, 0, none⟩ = some (.int .i64 6) := cell_of hn62 rfl; refine hK' _ _ ?_) | (gi_at_builtin; refine wpListIn_append_own_at _ rfl (.tmp 53) (.tmp 59) 31 rfl w.heap.size 3 i0 (.int .i64 0) 1 8 Try.underlying31 hi hz0 hz1 hz2 rfl (by decide) (.slice none 0 0) 0 [] rfl (World.ownsRow_nil _ _ _ _) ⟨W2.heap.size, 0, none⟩ 1 1 [.int .i64 6] rfl rfl (cell_one_new _ _ _) (by intro u hu; simp at hu; subst hu; rfl) (by unfold maxLen; omega) (by omega) (by simp; have := low2.size; omega) ?_; intro v3 W3 hown3 hg3 _ hloc3; have low3 := Below.grow (low2.alloc low2.size (.cells #[.int .i64 6] 3)) hg3 (Nat.le_refl _) (fun k hk => by cases hk); have hn63 := (H.below low3).nd ⟨6, p6, ⟨6, c6, 5⟩, t6⟩ (by simp); have g2 : W3.cell? ⟨p6, 2, none⟩ = some (.int .i64 5) := cell_of hn63 rfl))
      have hm3 : MapAt iv W3 w.heap.size [(6, .bool true)] := hm2.of_block ((hg3.block w.heap.size (by simp; have := hg2.size; omega) (by simp [Value.ownBlock])).trans (((Below.refl W2.heap.size W2).alloc (Nat.le_refl _) (.cells #[.int .i64 6] 3)).block _ (by have := hg2.size; omega)))
      have hpc := (H.below low3).pb.cells.2.1
      have hlk5 := fun W (hb : Below w.heap.size w W) => look5 W hb
      obtain ⟨g, cap, rfl, hbg, hglt⟩ := hown3.form (by decide)
      have hS : (fun wS => CellsL [(⟨b, 1, none⟩, .map (some bm)), (⟨p6, 2, none⟩, .int .i64 5)] wS ∧ Below w.heap.size w wS : World → Prop) (W3.drew) := ⟨⟨hpc, g2, trivial⟩, low3.drew⟩
      refine wpIn_region_ord [(0, true), (1, true), (2, true), (3, true), (4, true), (5, true), (6, true), (7, true), (8, true), (9, true)] (fun wS => CellsL [(⟨b, 1, none⟩, .map (some bm)), (⟨p6, 2, none⟩, .int .i64 5)] wS ∧ Below w.heap.size w wS : World → Prop) (fun _ => trivial) rfl (by first | exact then_put rfl | (intro c d v a w h; cases d <;> exact h)) (by kernel_rfl) ?_
      simp only [List.length_cons, List.length_nil, Nat.reduceAdd, List.drop_succ_cons, List.drop_zero]
      iterate 10 (apply wpOrd_quiet rfl hS rfl; (intro w' hw'; obtain ⟨⟨q0, q1, _⟩, x0⟩ := hw'; have hlq := hlk5 _ x0; go_simp; exact rfl); go_simp)
      refine wpOrd_nil ?_
      clear hS
      gi_wp2
      exact ⟨⟨low3.drew, Nat.lt_of_lt_of_le hlt (by have := hg2.size; have := hg3.size; simp at this ⊢; omega), .inr ⟨g, cap, rfl, rfl, hm3, hown3⟩⟩, by simp [lenOf]⟩
    · have d0 : wr.cell? ⟨p5, 0, none⟩ = some (.int .i64 5) := cell_of hn5 rfl
      have hl := look128 (k := 5) (v := .bool false) hm rfl
      gi_wp2_with (first | (refine wpListIn_plain rfl fun K' hK' => ?_; refine wpIn_mapUpdate (.tmp 47) (.tmp 52) (.const (.bool true)) rfl (int_keys Try.underlying3) Try.underlying128 hm (k := 5) (v := .bool true) rfl rfl rfl ?_; intro W2 hm2 hg2; have low2 := Below.grow low hg2 (Nat.le_refl _) (fun k hk => by injection hk with hk; omega); have hn62 := (H.below low2).nd ⟨5, p5, ⟨5, c5, -1⟩, t5⟩ (by simp); have e0 : W2.cell? ⟨p5, 0, none⟩ = some (.int .i64 5) := cell_of hn62 rfl; have ho2 := ho.kept hg2 (.inr (by intro e; obtain ⟨es, cl, hmm1, _⟩ := hm; have hgg := ho.form (by decide); obtain ⟨g', cap', cur, hx, _, hgb, _⟩ := ho.2.resolve_left (by rintro ⟨hh, _⟩; cases hh); injection hx with hx; injection hx with hx; injection hx with hx; injection e with e; rw [← hx, show g = w.heap.size from e, hmm1] at hgb; cases hgb)); refine hK' _ _ ?_) | (gi_at_builtin; refine wpListIn_append_own_at _ rfl (.tmp 53) (.tmp 59) 31 rfl w.heap.size 3 i0 (.int .i64 0) 1 8 Try.underlying31 hi hz0 hz1 hz2 rfl (by decide) (.slice (some ⟨g, 0, none⟩) 1 c) 1 [.int .i64 6] rfl (ho2.alloc _) ⟨W2.heap.size, 0, none⟩ 1 1 [.int .i64 5] rfl rfl (cell_one_new _ _ _) (by intro u hu; simp at hu; subst hu; rfl) (by unfold maxLen; omega) (by omega) (by simp; have := low2.size; omega) ?_; intro v3 W3 hown3 hg3 _ hloc3; have low3 := Below.grow (low2.alloc low2.size (.cells #[.int .i64 5] 3)) hg3 (Nat.le_refl _) (fun k hk => (ho2.lt k hk).1); have hn63 := (H.below low3).nd ⟨5, p5, ⟨5, c5, -1⟩, t5⟩ (by simp); have g2 : W3.cell? ⟨p5, 2, none⟩ = some (.int .i64 (-1)) := cell_of hn63 rfl; obtain ⟨g', cap, rfl, hbg, hglt⟩ := hown3.form (by decide)) | (refine ⟨trivial, ?_⟩; gi_at_call 56; refine (callsIn_wide.2 (reverse2_any 6 5 g' cap w.heap.size _ hown3)).mono ?_; rintro en W4 ⟨rfl, ho4, hf4⟩))
      go_ret2
      refine ⟨g', cap, rfl, by rw [ho4.cellAt 0 (by decide)]; rfl, ?_⟩
      exact ⟨hf4.os.trans low3.os, hf4.tape.trans low3.tape, hf4.output.trans low3.output, Nat.le_trans low3.size hf4.size, fun k hk => (hf4.block k (Nat.lt_of_lt_of_le hk low3.size) (by omega)).trans (low3.block k hk)⟩
end Go.Proofs.Ytdamcbpjefjolaa
