/- pool.Len and pool.Open by a walk. No conditions but that the pool lies where it is said to lie. -/
import Derived.Test.YtdamcbpjefjolaaRd
import Derived.Test.YtdamcbpjefjolaaRf
namespace Go.Proofs.Ytdamcbpjefjolaa
open Go Go.RowKit Go.Sx Go.Mp Go.Shelf
attribute [local go_sem] Oper.semAt_some
set_option maxRecDepth 100000 in
theorem len_any {base b bm : Nat} {v : Value} {room : Int} {E : List En} {h : List V3} {w : World} (H : PoolIn w base b bm v room E h) :
    Calls Try.prog 19 #[.pointer (some ⟨b, 0, none⟩)] w fun en w' => en = .returned (.int .i64 E.length) ∧ Below w.heap.size w w' := by
  obtain ⟨p0, p1, p2, p3⟩ := H.pb.cells
  have hl := fun ty => len67 H.mp ty (n := E.length) (by simp)
  refine (callsIn_wide (n := 6)).1 ?_
  refine callsIn_of_wp Try.func19 rfl trivial ?_
  simp only [Try.ntmps19, List.size_toArray, List.length_cons, List.length_nil, Nat.reduceAdd, Nat.reduceSub, Array.replicate_succ, Array.replicate_zero, List.push_toArray, List.append_toArray, List.nil_append, List.cons_append]
  gi_wp2
  go_ret
  exact ⟨rfl, Below.refl _ _⟩
theorem all_any (b : Nat) (w : World) : Calls Try.prog 55 #[.pointer (some ⟨b, 0, none⟩)] w fun en w' => en = .returned (.func (.func 89) #[] #[.pointer (some ⟨w.heap.size, 0, none⟩)]) ∧ w' = w.alloc (.cells #[.pointer (some ⟨b, 0, none⟩)] 25) := by
  refine (callsIn_wide (n := 6)).1 ?_
  refine callsIn_of_wp Try.func55 rfl trivial ?_
  simp only [Try.ntmps55, List.size_toArray, List.length_cons, List.length_nil, Nat.reduceAdd, Nat.reduceSub, Array.replicate_succ, Array.replicate_zero, List.push_toArray, List.append_toArray, List.nil_append, List.cons_append]
  gi_wp2
  go_ret
  exact ⟨rfl, rfl⟩
theorem KeepP.set {N0 nb : Nat} {w : World} {c : Array Value} {T : TypeId} (h : w.heap[nb]? = some (.cells c T (0, 0))) (u : Value) : KeepP N0 nb w (w.setCell ⟨nb, 0, none⟩ u) := by
  have hg := grownBy_set w nb 0 u
  refine ⟨hg.size, fun j _ h2 => ?_, fun j c' T' z h1 h2 => hg.block j (lt_of_block h2) (by simpa using h1), fun c' T' h1 => ?_⟩
  · by_cases hj : j < w.heap.size
    · exact hg.block j hj (by simpa using h2)
    · rw [Array.getElem?_eq_none (Nat.le_of_not_lt hj), Array.getElem?_eq_none (by rw [World.size_setCell]; exact Nat.le_of_not_lt hj)]
  · have e := h1
    rw [h] at e
    injection e with e; injection e with e1 e2; subst e2
    exact ⟨_, set_block h u⟩
/-- How many of a row of entries are open. -/
def opL {E : List En} (ys : List {e // e ∈ E}) : Nat := (ys.filter fun e => !e.1.t).length
theorem opL_all {E : List En} {ys : List {e // e ∈ E}} (h : ys.Perm E.attach) : opL ys = opN E := by
  unfold opL opN
  rw [(h.filter _).length_eq, ← List.length_map (f := Subtype.val)]
  rw [show (fun e : {e // e ∈ E} => !e.1.t) = (fun e : En => !e.t) ∘ Subtype.val from rfl, ← List.filter_map, List.attach_map_subtype_val]
theorem opL_snoc {E : List En} (ys : List {e // e ∈ E}) (e : {e // e ∈ E}) : opL (ys ++ [e]) = opL ys + if e.1.t then 0 else 1 := by
  unfold opL
  cases h : e.1.t <;> simp [h]
set_option maxRecDepth 100000 in
set_option maxHeartbeats 2000000 in
theorem open_any {base b bm : Nat} {v : Value} {room : Int} {E : List En} {h : List V3} {w : World} (H : PoolIn w base b bm v room E h) (hEl : E.length < 1000000) (hEk : ∀ e ∈ E, 0 ≤ e.k ∧ e.k ≤ 1125899906842624) :
    Calls Try.prog 20 #[.pointer (some ⟨b, 0, none⟩)] w fun en w' => en = .returned (.int .i64 (opN E)) ∧ Below w.heap.size w w' := by
  have hbm := H.mp.lt
  refine (callsIn_wide (n := 6)).1 ?_
  refine callsIn_of_wp_marks Try.func20 rfl trivial ?_ rfl
  simp only [Try.ntmps20, List.size_toArray, List.length_cons, List.length_nil, Nat.reduceAdd, Nat.reduceSub, Array.replicate_succ, Array.replicate_zero, List.push_toArray, List.append_toArray, List.nil_append, List.cons_append]
  gi_wp2_with (refine ⟨trivial, ?_⟩; gi_at_call 55; refine (callsIn_wide.2 (all_any b _)).mono ?_; rintro en w' ⟨rfl, hw'⟩)
  obtain ⟨s, hs⟩ : ∃ s, w.heap.size = s := ⟨_, rfl⟩
  have hb0 : Below s w w' := by
    rw [hw', ← hs]
    exact (((Below.refl _ w).alloc (Nat.le_refl _) _).alloc (by simp) _).alloc (by simp; omega) _
  have hsz : w'.heap.size = s + 3 := by rw [hw', ← hs]; simp
  have hA0 : w'.heap[s]? = some (.cells #[.pointer (some ⟨b, 0, none⟩)] 25 (0, 0)) := by
    rw [hw', ← hs]
    exact (Below.heap_alloc _ _ _ (by simp; omega)).trans ((Below.heap_alloc _ _ _ (by simp)).trans (World.alloc_heap_new _ _))
  have hA1 : w'.heap[s + 1]? = some (.cells #[.int .i64 0] 3 (0, 0)) := by
    rw [hw', ← hs]
    exact (Below.heap_alloc _ _ _ (by simp)).trans (by have := World.alloc_heap_new (w.alloc (.cells #[.pointer (some ⟨b, 0, none⟩)] 25)) (.cells #[.int .i64 0] 3); rwa [World.size_alloc] at this)
  have hA2 : w'.heap[s + 2]? = some (.cells #[.pointer (some ⟨b, 0, none⟩)] 25 (0, 0)) := by
    rw [hw', ← hs]
    have := World.alloc_heap_new ((w.alloc (.cells #[.pointer (some ⟨b, 0, none⟩)] 25)).alloc (.cells #[.int .i64 0] 3)) (.cells #[.pointer (some ⟨b, 0, none⟩)] 25)
    simpa using this
  have e2 : (((w.alloc (.cells #[.pointer (some ⟨b, 0, none⟩)] 25)).alloc (.cells #[.int .i64 0] 3)).heap.size) = s + 2 := by rw [← hs]; simp
  rw [hs] at hbm
  have hP1 : PoolIn w' base b bm v room E h := H.keep fun k hk => hb0.block k (by omega)
  have key : ∀ W, Fr (fun k => k = s + 1) w' W → PoolIn W base b bm v room E h := fun W hF => H.keep fun k hk => (hF.block k (by omega) (by omega)).trans (hb0.block k (by omega))
  rw [← hw', hs]
  clear hw'
  refine wpIn_rangeFunc_ownG rfl (by omega) (gf := 89) rfl trivial (enters_of Try.func89 (by kernel_rfl) rfl)
    (pall1_stops 5 (by omega) (s + 3) (s + 1) (s + 1 + 1) base b bm v room E h hEl hEk (by omega) (by omega) (by omega) (by omega) (by omega) w' (by omega) hP1 hA2 ⟨_, _, hA1, by decide, by decide, by decide⟩) KeepP.trans (fun W l o o' hl h1 h2 h3 => KeepP.put (n0 := s + 3) (Nat.le_refl _) W l o o' (by omega) h1 h2 h3) (Below.refl _ _) (fun _ => rfl)
    (fun pre W => Fr (fun k => k = s + 1) w' W ∧ W.heap[s + 1]? = some (.cells #[.int .i64 (opL pre)] 3 (0, 0)))
    (fun _ _ _ => False)
    (fun pre W W' row hI hg hr => ⟨hI.1.grown hg (fun k e hk => by have := (hr k e).1; omega), (hg.block _ (by have := hI.1.size; omega) (fun e => by have := (hr _ e.symm).1; omega)).trans hI.2⟩)
    (fun _ _ _ _ _ hs _ _ => hs)
    ⟨Fr.refl _ _, hA1⟩
    ?a₁ ?assign ?body ?done ?stop
  case assign =>
    intro l x W K hK
    gi_wp2
    exact hK
  case body =>
    rintro l pre x W ⟨hF, hN⟩ hlt
    have hP := key W hF
    have hol : opL pre ≤ pre.length := List.length_filter_le _ _
    have q0 : W.cell? ⟨s, 0, none⟩ = some (.pointer (some ⟨b, 0, none⟩)) := cell_of ((hF.block s (by omega) (by omega)).trans hA0) rfl
    have q1 : W.cell? ⟨s + 1, 0, none⟩ = some (.int .i64 (opL pre)) := cell_of hN rfl
    have q2 := not_frozen hN (k := 0)
    obtain ⟨p0, p1, p2, p3⟩ := hP.pb.cells
    have hlk := hP.look x.2
    have n3 : W.cell? ⟨x.1.p, 3, none⟩ = some (.bool x.1.t) := cell_of (hP.nd x.1 x.2) rfl
    have hsn := opL_snoc pre x
    have hbd : (0 : Int) ≤ (opL pre : Int) ∧ (opL pre : Int) ≤ 1000000 := by omega
    cases ht : x.1.t with
    | true =>
      rw [ht] at n3 hsn
      rw [if_pos rfl, Nat.add_zero] at hsn
      clear H hP1 hb0 hA0 hA1 hA2 key hP
      gi_wp2
      exact ⟨KeepsFrom.refl _ _, KeepP.refl _ _ _, hF, by rw [hsn]; exact hN⟩
    | false =>
      rw [ht] at n3 hsn
      rw [if_neg (by decide)] at hsn
      have hN2 := set_block (k := 0) hN (.int .i64 (opL pre + 1))
      clear H hP1 hb0 hA0 hA1 hA2 key hP
      gi_wp2
      exact ⟨(KeepsOthers.setCell _ _ _).from _, KeepP.set hN _, hF.set _ (fun _ => rfl), by rw [hsn]; exact hN2⟩
  case done =>
    rintro D ys W hD hS ⟨hF, hN⟩ hK
    rw [opL_all hS] at hN
    have q1 : W.cell? ⟨s + 1, 0, none⟩ = some (.int .i64 (opN E)) := cell_of hN rfl
    have q2 := not_frozen hN (k := 0)
    have hFw : Below s w W := ⟨hF.os.trans hb0.os, hF.tape.trans hb0.tape, hF.output.trans hb0.output, Nat.le_trans hb0.size hF.size, fun k hk => (hF.block k (by omega) (by omega)).trans (hb0.block k hk)⟩
    clear H hP1 hA0 hA1 hA2 key
    gi_wp2
    have hK2 : (W.setCell ⟨s + 1, 0, none⟩ (.int .i64 (opN E))).heap[D]? = some (.deferred (some [])) := (KeepsOthers.setCell _ _ _).same D _ hK rfl
    have hN3 := set_block (k := 0) hN (.int .i64 (opN E))
    refine ⟨by simp, .inl ⟨_, _, rfl, run_takeDeferred hK2, ?_⟩⟩
    have hDs : D ≠ s + 1 := by omega
    have hW' : ((W.setCell ⟨s + 1, 0, none⟩ (.int .i64 (opN E))).putObj D (.deferred none)).cell? ⟨s + 1, 0, none⟩ = some (.int .i64 (opN E)) :=
      cell_of ((World.putObj_heap_other (Ne.symm hDs)).trans hN3) rfl
    have hB2 : Below s w (W.setCell ⟨s + 1, 0, none⟩ (.int .i64 (opN E))) := hFw.grown (grownBy_set _ _ _ _) (by have := hFw.size; omega) (fun k e => by injection e with e; omega)
    refine ⟨.int .i64 (opN E), ?_, rfl, ?_⟩
    · simp [results, Try.results20, go_sem, hW']
    · rw [hs]
      exact hB2.trans (belowK_b (w := w) (n₀ := s) (by omega) _ D _ _ (by omega) hK2 rfl rfl)
  case stop =>
    rintro D c pre W _ _ h _
    exact h.elim
end Go.Proofs.Ytdamcbpjefjolaa
