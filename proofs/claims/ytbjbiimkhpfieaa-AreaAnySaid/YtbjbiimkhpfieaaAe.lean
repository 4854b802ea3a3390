/- bins.all by a walk: a range over bins.Each that collects. No conditions. -/
import Derived.Test.YtbjbiimkhpfieaaAd
namespace Go.Proofs.Ytbjbiimkhpfieaa
open Go Go.RowKit Go.Sx Go.Shelf
attribute [local go_sem] Oper.semAt_some
theorem appended2 {W w1 : World} {n₀ B : Nat} {t e : TypeId} {size : Nat} {v v' : Value} {k m : Nat} {xs ys : List Value} {tmp : Obj}
    (hv : Boxed W B t v) (hte : t ≠ e) (hrow : W.ownsRow n₀ e size v k xs) (hn₀ : n₀ ≤ W.heap.size) (hB : B + 6 ≤ n₀)
    (hown' : w1.ownsRow n₀ e size v' m ys) (hgrow : (W.alloc tmp).grownBy w1 v.ownBlock) :
    Boxed w1 B t v ∧ Boxed (w1.setCell ⟨B, 0, none⟩ v') B t v' ∧ (w1.setCell ⟨B, 0, none⟩ v').ownsRow n₀ e size v' m ys ∧ KeepsOthers W (w1.setCell ⟨B, 0, none⟩ v') ∧ Below B W (w1.setCell ⟨B, 0, none⟩ v') ∧ Keep5 (B + 1) W w1 := by
  have hv1 : Boxed w1 B t v := (hv.alloc tmp).kept hgrow (hv.not_row hte hrow)
  have hb1 : Below n₀ W w1 := ((Below.refl n₀ W).alloc hn₀ tmp).grown hgrow (by simp; omega) fun j ej => by
    rcases hrow.2 with ⟨rfl, _⟩ | ⟨g, cap, cur, rfl, hb, _, _⟩
    · simp [Value.ownBlock] at ej
    · obtain rfl : g = j := by simpa [Value.ownBlock] using ej
      exact hb
  refine ⟨hv1, hv1.set v', hown'.kept (grownBy_setCell' w1 B v') (.inr (hv1.not_row hte hown').symm), ?_, ?_, ?_⟩
  · refine ((KeepsOthers.alloc W tmp).trans (KeepsOthers.of_grownBy hgrow fun j o ej hj => ?_)).trans (KeepsOthers.setCell _ _ _)
    rcases (hrow.alloc tmp).2 with ⟨rfl, _⟩ | ⟨g, cap, cur, rfl, _, hgb, _⟩
    · simp [Value.ownBlock] at ej
    · obtain rfl : g = j := by simpa [Value.ownBlock] using ej
      rw [hgb] at hj; cases hj; rfl
  · exact (hb1.mono (by omega : B ≤ n₀)).setCell (p := ⟨B, 0, none⟩) (Nat.le_refl B) v'
  · exact Keep5.below hb1 (by omega)
theorem results_cell_tmp {fn : Func} {t u : Tmp} (h : fn.results = #[.cell t 76, .tmp u]) (tmps : Array Value) (w : World) (ad : Addr) (v : Value) (ht : tmps.getD t undef = .pointer (some ad)) (hc : w.cell? ad = some v) :
    (results fn tmps).run Try.prog w = .ok (.tuple #[v, tmps.getD u undef]) w := by
  have ht' : tmps[t]?.getD undef = .pointer (some ad) := by simpa using ht
  simp [results, h, ht', hc, go_sem]
theorem keep5_set {B : Nat} {W : World} (v : Value) : Keep5 (B + 1) W (W.setCell ⟨B, 0, none⟩ v) := by
  have hs : (W.setCell ⟨B, 0, none⟩ v).heap.size = W.heap.size := by simp
  refine ⟨by omega, fun j h1 h2 => ?_⟩
  have := (grownBy_setCell' W B v).block j
  by_cases hj : j < W.heap.size
  · exact this hj (by intro e; cases e; omega)
  · rw [Array.getElem?_eq_none (by omega), Array.getElem?_eq_none (by omega)]
set_option maxRecDepth 100000 in
set_option maxHeartbeats 2000000 in
theorem all_any (a b c d e f g x0 z0 x1 z1 : Int) (T : Int → Bool) (hT : T = fun i => touchF a b c d e f g i x0 z0 x1 z1) (N : Nat) (hN : countF a b c d e f g = N) (hN16 : N ≤ 16) (w : World) :
    Calls Try.prog 45 #[cfgv a b c d e f g, .agg #[.int .i64 x0, .int .i64 z0, .int .i64 x1, .int .i64 z1]] w fun en w' =>
      ∃ A cap, en = .returned (.tuple #[.slice A (hits T N).length cap, .int .i64 0]) ∧ Reads w' w'.heap.size 1 A (hits T N).length (ics (hits T N)) ∧ Below w.heap.size w w' := by
  have hLN := hits_le T N
  have hmx : maxLen = 9223372036854775807 := rfl
  have he := fun w => each_any a b c d e f g x0 z0 x1 z1 w
  unfold cfgv at he ⊢
  obtain ⟨i0, hi, hz0, hz1, hz2⟩ := info_parts info3
  refine (callsIn_wide (n := 6)).1 ?_
  refine callsIn_of_wp_marks Try.func45 rfl trivial ?_ rfl
  simp only [Try.ntmps45, List.size_toArray, List.length_cons, List.length_nil, Nat.reduceAdd, Nat.reduceSub, Array.replicate_succ, Array.replicate_zero, List.push_toArray, List.append_toArray, List.nil_append, List.cons_append]
  gi_wp2_with (refine ⟨trivial, ?_⟩; gi_at_call 50; refine (callsIn_wide.2 (he _)).mono ?_; rintro en w1 ⟨rfl, hE1, hb1⟩)
  have bG : Boxed w1 (w.heap.size + 1 + 1) 76 (.slice none 0 0) := by
    have := hb1.block (w.heap.size + 1 + 1) (by simp)
    unfold Boxed
    rw [this]
    have h2 := World.alloc_heap_new ((w.alloc (.cells #[.int .i64 a, .int .i64 b, .int .i64 c, .int .i64 d, .int .i64 e, .int .i64 f, .int .i64 g] 23)).alloc (.cells #[.int .i64 x0, .int .i64 z0, .int .i64 x1, .int .i64 z1] 89)) (.cells #[.slice none 0 0] 76)
    simpa using h2
  have hs8 : w.heap.size + 8 ≤ w1.heap.size := by have := hE1.lt; simp at this; omega
  have hb0 : Below w.heap.size w w1 := (((Below.refl _ w).alloc (Nat.le_refl _) _).alloc (by simp) _).alloc (by simp <;> omega) _ |>.trans (hb1.mono (by simp <;> omega))
  clear hb1
  refine wpIn_rangeFunc_ownG rfl (by omega) (gf := 52) rfl trivial (enters_of Try.func52 (by kernel_rfl) rfl)
    (each_stops a b c d e f g x0 z0 x1 z1 5 (by omega) (w.heap.size + 1 + 1 + 1) T hT N hN hN16 w1 (by simpa using hE1)) Keep5.trans (Keep5.put (by omega)) (Below.refl _ _) (fun _ => rfl)
    (fun pre W => (∃ v, Boxed W (w.heap.size + 1 + 1) 76 v ∧ W.ownsRow w1.heap.size 3 1 v pre.length (ics pre) ∧ True) ∧ Below (w.heap.size + 1 + 1) w1 W)
    (fun _ _ _ => False)
    (OwnFrom.and (Own.from (holdsRow_own w1.heap.size (w.heap.size + 1 + 1) 76 3 1 (fun pre : List Int => pre.length) (fun pre => ics pre) (fun _ _ => True)) _) (ownFrom_below (by omega) (by omega)))
    (fun _ _ _ _ _ hs _ _ => hs)
    ⟨⟨_, bG, World.ownsRow_nil _ _ _ _, trivial⟩, Below.refl _ _⟩
    ?a₁ ?assign ?body ?done ?stop
  case assign =>
    intro l x W K hK
    gi_wp2
    exact hK
  case body =>
    rintro l pre x W ⟨⟨v, hv, hrow, _⟩, hB⟩ hlt
    have hc := hv.cell
    have hBs := hB.size
    gi_wp2_with (gi_at_builtin; refine wpListIn_append_own _ rfl _ _ 76 rfl w1.heap.size 3 i0 (.int .i64 0) 1 8 Try.underlying76 hi hz0 hz1 hz2 rfl (by decide) _ _ _ rfl (hrow.alloc _) ⟨W.heap.size, 0, none⟩ 1 1 [.int .i64 x] rfl rfl (cell_one_new _ _ _) (by simp [Value.oneCell']) (by omega) (by omega) (by simp; omega) ?_; intro v' w2 hown' hgrow _; obtain ⟨g', cap', rfl⟩ := ownsRow_succ hown'; obtain ⟨hv1, hv2, hr2, hk2, hb2, hk5⟩ := appended2 hv (by decide) hrow hBs (by omega) hown' hgrow; have hc1 := hv1.cell; have hf1 := hv1.frozen)
    have hrow2 : (w2.setCell ⟨w.heap.size + 1 + 1, 0, none⟩ (.slice (some ⟨g', 0, none⟩) (pre.length + 1) cap')).ownsRow w1.heap.size 3 1 (.slice (some ⟨g', 0, none⟩) (pre.length + 1) cap') (pre ++ [x]).length (ics (pre ++ [x])) := by simpa [ics] using hr2
    exact ⟨hk2.from _, hk5.trans (keep5_set _), ⟨_, hv2, hrow2, trivial⟩, hB.trans hb2⟩
  case done =>
    rintro D ys W hD rfl ⟨⟨v, hv, hrow, _⟩, hB⟩ hK
    obtain ⟨A2, cap2, rfl, _, hrd2⟩ := own_row1 hrow
    have hc := hv.cell
    have hf := hv.frozen
    clear hT
    gi_wp2
    have hv2 := hv.set (.slice A2 (hits T N).length cap2)
    have hK2 : (W.setCell ⟨w.heap.size + 1 + 1, 0, none⟩ (.slice A2 (hits T N).length cap2)).heap[D]? = some (.deferred (some [])) := (KeepsOthers.setCell _ _ _).same D _ hK rfl
    refine ⟨by simp, .inl ⟨_, _, rfl, run_takeDeferred hK2, ?_⟩⟩
    have hW' : ((W.setCell ⟨w.heap.size + 1 + 1, 0, none⟩ (.slice A2 (hits T N).length cap2)).putObj D (.deferred none)).cell? ⟨w.heap.size + 1 + 1, 0, none⟩ = some (.slice A2 (hits T N).length cap2) :=
      cell_kept hv2.cell (grownBy_putObj' _ D (.deferred none)) (fun r e => by cases e; exact ⟨_, hK2, rfl⟩)
    have hr3 := ownsRow_putObj (hrow.kept (grownBy_setCell' W (w.heap.size + 1 + 1) (.slice A2 (hits T N).length cap2)) (.inr (hv.not_row (by decide) hrow).symm)) (.deferred none) hK2 rfl
    obtain ⟨A3, cap3, e3, _, hrd3⟩ := own_row1 hr3
    obtain ⟨rfl, _, rfl⟩ : A2 = A3 ∧ True ∧ cap2 = cap3 := by injection e3 with e1 e2 e3; exact ⟨e1, trivial, e3⟩
    refine ⟨_, results_cell_tmp rfl _ _ ⟨w.heap.size + 1 + 1, 0, none⟩ _ rfl hW', A2, cap2, rfl, hrd3, ?_⟩
    exact (hb0.trans ((hB.mono (by omega)).setCell (p := ⟨w.heap.size + 1 + 1, 0, none⟩) (by show w.heap.size ≤ w.heap.size + 1 + 1; omega) _)).trans (belowK_b (w := w1) (by omega) _ D _ _ hD hK2 rfl rfl)
  case stop =>
    rintro D c pre W _ _ h _
    exact h.elim
end Go.Proofs.Ytbjbiimkhpfieaa
