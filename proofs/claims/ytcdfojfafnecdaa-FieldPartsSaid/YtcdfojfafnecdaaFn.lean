/- footpathlaw14's flat grid and config; field.Least of rows of one, by walks. No conditions but that the rows lie where they are said to lie. -/
import Derived.Test.YtcdfojfafnecdaaFl
import Derived.Lib.AppendZerosOnto
namespace Go.Proofs.Ytcdfojfafnecdaa
open Go Go.RowKit Go.Sx Go.Mp
attribute [local go_sem] Oper.semAt_some
theorem gx_ne {w : World} {base base' s s' n n' : Nat} {e e' : TypeId} {v v' : Value} {xs xs' : List Value} (h : w.ownsRow base e s v n xs) (h' : w.ownsRow base' e' s' v' n' xs') (he : e ≠ e') {k : Nat} (hk : v.ownBlock = some k) : v'.ownBlock ≠ some k := own_ne h h' he hk
/-- The one floor. -/
def flatV : V3 := ⟨2, 20, 1⟩
/-- k columns of the one floor. -/
def FRows (w : World) (base : Nat) (v : Value) (n : Nat) : Prop :=
  ∃ hd, w.ownsRow base 40 1 v n hd ∧ ∀ i, i < n → ∃ u, hd[i]? = some u ∧ w.ownsRow base 54 3 u 1 (vcs [flatV])
theorem FRows.nil (w : World) (base : Nat) : FRows w base (.slice none 0 0) 0 := ⟨[], World.ownsRow_nil _ _ _ _, fun i hi => by omega⟩
theorem FRows.below {w w' : World} {base n : Nat} {v : Value} (h : FRows w base v n) (hb : Below w.heap.size w w') : FRows w' base v n := by
  obtain ⟨hd, h1, h2⟩ := h
  refine ⟨hd, own_below h1 hb, fun i hi => ?_⟩
  obtain ⟨u, h3, h4⟩ := h2 i hi
  exact ⟨u, h3, own_below h4 hb⟩
theorem FRows.kept {w w' : World} {base n b : Nat} {v : Value} {c : Array Value} {T : TypeId} (h : FRows w base v n) (hg : w.grownBy w' (some b)) (hb : w.heap[b]? = some (.cells c T (0, 0))) (h1 : T ≠ 40) (h2 : T ≠ 54) : FRows w' base v n := by
  have keep : ∀ {e s u q xs}, w.ownsRow base e s u q xs → T ≠ e → w'.ownsRow base e s u q xs := fun {e s u q xs} h3 hT => by
    refine h3.kept hg ?_
    rcases h3.2 with ⟨rfl, _⟩ | ⟨g, cap, cur, rfl, _, hgb, _⟩
    · exact .inl rfl
    · refine .inr (fun e' => ?_)
      have e' : g = b := Option.some.inj e'
      rw [← e', hgb] at hb
      injection hb with hb
      injection hb with _ hb
      exact hT hb.symm
  obtain ⟨hd, h3, h4⟩ := h
  refine ⟨hd, keep h3 h1, fun i hi => ?_⟩
  obtain ⟨u, h5, h6⟩ := h4 i hi
  exact ⟨u, h5, keep h6 h2⟩
theorem FRows.snoc {w w8 : World} {base n : Nat} {v v8 u : Value} {o : Obj} {hd : List Value} (h1 : w.ownsRow base 40 1 v n hd) (h2 : ∀ i, i < n → ∃ u, hd[i]? = some u ∧ w.ownsRow base 54 3 u 1 (vcs [flatV])) (hu : w.ownsRow base 54 3 u 1 (vcs [flatV]))
    (hg : (w.alloc o).grownBy w8 v.ownBlock) (hown : w8.ownsRow base 40 1 v8 (n + 1) (hd ++ [u])) : FRows w8 base v8 (n + 1) := by
  have hb : Below w.heap.size w (w.alloc o) := (Below.refl _ _).alloc (Nat.le_refl _) _
  have hlen : hd.length = n := by have := h1.1; omega
  have keep : ∀ {u : Value}, w.ownsRow base 54 3 u 1 (vcs [flatV]) → w8.ownsRow base 54 3 u 1 (vcs [flatV]) := fun {u} h4 => by
    refine (own_below h4 hb).kept hg ?_
    cases hv : v.ownBlock with
    | none =>
      cases hu : u.ownBlock with
      | none => exact .inl rfl
      | some k => exact .inr (by simp)
    | some k => exact .inr (own_ne h1 h4 (by decide) hv)
  refine ⟨hd ++ [u], hown, fun i hi => ?_⟩
  by_cases hin : i < n
  · obtain ⟨u', h3, h4⟩ := h2 i hin
    exact ⟨u', by rw [List.getElem?_append_left (by omega)]; exact h3, keep h4⟩
  · obtain rfl : i = n := by omega
    exact ⟨u, by rw [List.getElem?_append_right (by omega), hlen]; simp, keep hu⟩
theorem FRows.rows {w : World} {base n : Nat} {v : Value} (h : FRows w base v n) : ∃ A cap, v = .slice A n cap ∧ RowsAt w w.heap.size A (List.replicate n [flatV]) := by
  obtain ⟨hd, h1, h2⟩ := h
  obtain ⟨A, cap, rfl⟩ := own_rowS h1
  refine ⟨A, cap, rfl, hd, by rw [List.length_replicate]; exact Reads.of_own h1, fun i r hr => ?_⟩
  rw [List.getElem?_replicate] at hr
  split at hr
  · rename_i hi
    injection hr with hr
    subst hr
    obtain ⟨u, h3, h4⟩ := h2 i hi
    obtain ⟨Ai, ci, rfl⟩ := own_rowS h4
    exact ⟨Ai, ci, h3, Reads.of_own h4⟩
  · cases hr
theorem infoFR : (Try.prog.info? 40).map (fun i => (i.zero, i.size, i.bytes)) = some (some (.slice none 0 0), 1, 24) := by kernel_rfl
theorem infoF : (Try.prog.info? 54).map (fun i => (i.zero, i.size, i.bytes)) = some (some (.agg #[.int .i64 0, .int .i64 0, .int .i64 0]), 3, 24) := by kernel_rfl
theorem results_gr {fn : Func} {t : Tmp} (h : fn.results = #[.cell t 26]) (tmps : Array Value) (w : World) (B : Nat) (v0 v1 v2 v3 v4 : Value) (ht : tmps.getD t undef = .pointer (some ⟨B, 0, none⟩)) (hb : w.heap[B]? = some (.cells #[v0, v1, v2, v3, v4] 26 (0, 0))) :
    (results fn tmps).run Try.prog w = .ok (.agg #[v0, v1, v2, v3, v4]) w := by
  have ht' : tmps[t]?.getD undef = .pointer (some ⟨B, 0, none⟩) := by simpa using ht
  obtain ⟨c0, c1, c2, c3, c4⟩ := box5 hb
  simp [results, h, ht', c0, c1, c2, c3, c4, go_sem]
theorem results_cf {fn : Func} {t : Tmp} (h : fn.results = #[.cell t 23]) (tmps : Array Value) (w : World) (B : Nat) (v0 v1 v2 v3 v4 v5 v6 : Value) (ht : tmps.getD t undef = .pointer (some ⟨B, 0, none⟩)) (hb : w.heap[B]? = some (.cells #[v0, v1, v2, v3, v4, v5, v6] 23 (0, 0))) :
    (results fn tmps).run Try.prog w = .ok (.agg #[v0, v1, v2, v3, v4, v5, v6]) w := by
  have ht' : tmps[t]?.getD undef = .pointer (some ⟨B, 0, none⟩) := by simpa using ht
  obtain ⟨c0, c1, c2, c3, c4, c5, c6⟩ := box7 hb
  simp [results, h, ht', c0, c1, c2, c3, c4, c5, c6, go_sem]
set_option maxHeartbeats 1000000 in
set_option maxRecDepth 100000 in
theorem flat_any (w : World) : Calls Try.prog 25 #[.int .i64 5, .int .i64 5] w fun en w' =>
    ∃ A cap, en = .returned (.agg #[.int .i64 0, .int .i64 0, .int .i64 5, .int .i64 5, .slice A 25 cap]) ∧ RowsAt w' w'.heap.size A (List.replicate 25 [flatV]) ∧ Below w.heap.size w w' := by
  refine (callsIn_wide (n := 6)).1 ?_
  refine callsIn_of_wp Try.func25 rfl trivial ?_
  simp only [Try.ntmps25, List.size_toArray, List.length_cons, List.length_nil, Nat.reduceAdd, Nat.reduceSub, Array.replicate_succ, Array.replicate_zero, List.push_toArray, List.append_toArray, List.nil_append, List.cons_append]
  gi_wp2
  have p0 := two_alloc w (.cells #[.int .i64 0, .int .i64 0, .int .i64 0, .int .i64 0, .slice none 0 0] 26) (.cells #[.int .i64 0, .int .i64 0, .int .i64 5, .int .i64 5, .slice none 0 0] 26)
  have p1 := alloc2_new w (.cells #[.int .i64 0, .int .i64 0, .int .i64 0, .int .i64 0, .slice none 0 0] 26) (.cells #[.int .i64 0, .int .i64 0, .int .i64 5, .int .i64 5, .slice none 0 0] 26)
  have pb : Below w.heap.size w ((w.alloc (.cells #[.int .i64 0, .int .i64 0, .int .i64 0, .int .i64 0, .slice none 0 0] 26)).alloc (.cells #[.int .i64 0, .int .i64 0, .int .i64 5, .int .i64 5, .slice none 0 0] 26)) := ((Below.refl _ _).alloc (Nat.le_refl _) _).alloc (by simp) _
  gi_loopw [6] (fun x wr => ∃ (k : Nat) (v : Value), x = .int .i64 k ∧ k ≤ 25 ∧ wr.heap[w.heap.size]? = some (.cells #[.int .i64 0, .int .i64 0, .int .i64 0, .int .i64 0, .slice none 0 0] 26 (0, 0)) ∧ wr.heap[w.heap.size + 1]? = some (.cells #[.int .i64 0, .int .i64 0, .int .i64 5, .int .i64 5, v] 26 (0, 0)) ∧ FRows wr (w.heap.size + 2) v k ∧ Below w.heap.size w wr ∧ w.heap.size + 2 ≤ wr.heap.size) (fun x _ => 25 - (intOf x).toNat)
  case atStart => exact ⟨0, _, rfl, by omega, p0, p1, FRows.nil _ _, pb, by simp⟩
  case round =>
    clear p0 p1 pb
    obtain ⟨k, v, rfl, hk, p0, p1, hF, hb, hs⟩ := hrel
    obtain ⟨A, cv, rfl⟩ : ∃ A cv, v = .slice A k cv := by
      obtain ⟨hd, h1, _⟩ := hF
      exact own_rowS h1
    obtain ⟨g0, g1, g2, g3, g4⟩ := box5 p1
    by_cases hkn : k < 25
    · have hkn' : (k : Int) < 25 := by omega
      have hwk : IntKind.i64.wrap ((k : Int) + 1) = (k : Int) + 1 := by rw [IntKind.wrap_i64]; omega
      obtain ⟨x1, e1, b1, k1⟩ := alloc_step wr (.cells #[.int .i64 2, .int .i64 20, .int .i64 1] 54)
      have hu : x1.ownsRow (w.heap.size + 2) 54 3 (.slice (some ⟨wr.heap.size, 0, none⟩) 1 1) 1 (vcs [flatV]) := ⟨rfl, .inr ⟨wr.heap.size, 1, _, rfl, hs, k1, by omega, by unfold maxLen; omega, rfl, rfl⟩⟩
      obtain ⟨hd, h1, h2⟩ := hF.below b1
      obtain ⟨i0, hii, hz0, hz1, hz2⟩ := info_parts infoFR
      have hs1 := b1.size
      gi_wp2_with (gi_at_builtin; refine wpListIn_append_own_at _ rfl (.tmp 18) (.tmp 21) 24 rfl (w.heap.size + 2) 40 i0 _ 1 24 Try.underlying24 hii hz0 hz1 hz2 (by decide) (by decide) (.slice A k cv) k hd rfl (h1.alloc _) ⟨x1.heap.size, 0, none⟩ 1 1 [.slice (some ⟨wr.heap.size, 0, none⟩) 1 1] rfl rfl (cell_one_new _ _ _) (by simp [Value.oneCell']) (by unfold maxLen; omega) (by omega) (by simp; omega) ?_; intro v8 w8 hown8 hg8 hnil8 hloc8; obtain ⟨A8, c8, rfl⟩ := own_rowS hown8; have hn1 : some (w.heap.size + 1) ≠ (Value.slice A k cv).ownBlock := (fun e => by have := (h1.lt _ e.symm).1; omega); have hn0 : some w.heap.size ≠ (Value.slice A k cv).ownBlock := (fun e => by have := (h1.lt _ e.symm).1; omega); have q1 := (hg8.block _ (by simp; omega) hn1).trans (((b1.trans (((Below.refl x1.heap.size x1).alloc (Nat.le_refl _) (.cells #[.slice (some ⟨wr.heap.size, 0, none⟩) 1 1] 40)).mono hs1)).block _ (lt_of_block p1)).trans p1); have q0 := (hg8.block _ (by simp; omega) hn0).trans (((b1.trans (((Below.refl x1.heap.size x1).alloc (Nat.le_refl _) (.cells #[.slice (some ⟨wr.heap.size, 0, none⟩) 1 1] 40)).mono hs1)).block _ (lt_of_block p0)).trans p0); have z1 : w8.frozen? ⟨w.heap.size + 1, 4, none⟩ = false := not_frozen q1; obtain ⟨j0, j1, j2, j3, j4⟩ := box5 q1)
      have hF8 := FRows.snoc h1 h2 hu hg8 hown8
      have hF9 := hF8.kept (grownBy_set w8 (w.heap.size + 1) 4 (.slice A8 (k + 1) c8)) q1 (by decide) (by decide)
      have hset := set_block (k := 4) q1 (.slice A8 (k + 1) c8)
      have hb8 : Below w.heap.size w w8 := ((hb.trans (b1.mono hb.size)).alloc (Nat.le_trans hb.size hs1) _).grown hg8 (by simp; omega) (fun j e => by have := (h1.lt j e).1; omega)
      go_roundw
      case rel => exact ⟨k + 1, _, by go_num, by omega, ((grownBy_set w8 (w.heap.size + 1) 4 (.slice A8 (k + 1) c8)).block _ (lt_of_block q0) (by intro e; injection e with e; omega)).trans q0, hset, hF9, hb8.setCell (p := ⟨w.heap.size + 1, 4, none⟩) (by show w.heap.size ≤ w.heap.size + 1; omega) _, by have := lt_of_block hset; simp at this ⊢; omega⟩
      case measure => simp [intOf]; omega
    · obtain rfl : k = 25 := by omega
      obtain ⟨z0, z1, z2, z3, z4⟩ := box5 p0
      have f0 : ∀ j, wr.frozen? ⟨w.heap.size, j, none⟩ = false := fun j => not_frozen p0
      gi_wp2
      have s1 := set_block (k := 0) p0 (.int .i64 0)
      have s2 := set_block (k := 1) s1 (.int .i64 0)
      have s3 := set_block (k := 2) s2 (.int .i64 5)
      have s4 := set_block (k := 3) s3 (.int .i64 5)
      have s5 := set_block (k := 4) s4 (.slice A 25 cv)
      have t1 := hF.kept (grownBy_set wr w.heap.size 0 (.int .i64 0)) p0 (by decide) (by decide)
      have t2 := t1.kept (grownBy_set _ w.heap.size 1 (.int .i64 0)) s1 (by decide) (by decide)
      have t3 := t2.kept (grownBy_set _ w.heap.size 2 (.int .i64 5)) s2 (by decide) (by decide)
      have t4 := t3.kept (grownBy_set _ w.heap.size 3 (.int .i64 5)) s3 (by decide) (by decide)
      have t5 := t4.kept (grownBy_set _ w.heap.size 4 (.slice A 25 cv)) s4 (by decide) (by decide)
      have hbs : ∀ {V : World}, Below w.heap.size w V → ∀ k v, Below w.heap.size w (V.setCell ⟨w.heap.size, k, none⟩ v) := fun h k v => h.setCell (p := ⟨w.heap.size, k, none⟩) (Nat.le_refl _) v
      have hb9 := hbs (hbs (hbs (hbs (hbs hb 0 (.int .i64 0)) 1 (.int .i64 0)) 2 (.int .i64 5)) 3 (.int .i64 5)) 4 (.slice A 25 cv)
      refine bodyPost_ret (results_gr rfl _ _ w.heap.size (.int .i64 0) (.int .i64 0) (.int .i64 5) (.int .i64 5) (.slice A 25 cv) rfl s5) rfl ?_
      obtain ⟨A', c', e, hR⟩ := t5.rows
      injection e with e1 _ e3
      subst e1; subst e3
      exact ⟨A, cv, rfl, hR, hb9⟩
theorem cfg14_any (w : World) : Calls Try.prog 24 #[.int .i64 1] w fun en w' => en = .returned (cfgv 1 1 3 1 1 32 32) ∧ Below w.heap.size w w' := by
  have h := World.alloc_heap_new w (.cells #[.int .i64 1, .int .i64 1, .int .i64 3, .int .i64 1, .int .i64 1, .int .i64 32, .int .i64 32] 23)
  refine (callsIn_wide (n := 6)).1 ?_
  refine callsIn_of_wp Try.func24 rfl trivial ?_
  simp only [Try.ntmps24, List.size_toArray, List.length_cons, List.length_nil, Nat.reduceAdd, Nat.reduceSub, Array.replicate_succ, Array.replicate_zero, List.push_toArray, List.append_toArray, List.nil_append, List.cons_append]
  gi_wp2
  refine bodyPost_ret (results_cf rfl _ _ w.heap.size (.int .i64 1) (.int .i64 1) (.int .i64 3) (.int .i64 1) (.int .i64 1) (.int .i64 32) (.int .i64 32) rfl h) rfl ?_
  exact ⟨rfl, (Below.refl _ _).alloc (Nat.le_refl _) _⟩
/-- The least of some numbers. -/
def minL : Int → List Int → Int
  | m, [] => m
  | m, x :: l => minL (min m x) l
theorem minL_le : ∀ (l : List Int) (m : Int), minL m l ≤ m ∧ ∀ x ∈ l, minL m l ≤ x
  | [], m => ⟨Int.le_refl _, by simp⟩
  | x :: l, m => by
    obtain ⟨h1, h2⟩ := minL_le l (min m x)
    simp only [minL]
    refine ⟨by omega, fun y hy => ?_⟩
    rcases List.mem_cons.1 hy with rfl | hy
    · omega
    · exact h2 y hy
theorem minL_ge {b : Int} : ∀ (l : List Int) (m : Int), b ≤ m → (∀ x ∈ l, b ≤ x) → b ≤ minL m l
  | [], m, h, _ => h
  | x :: l, m, h, hl => by
    simp only [minL]
    exact minL_ge l _ (by have := hl x (by simp); omega) (fun y hy => hl y (by simp [hy]))
theorem minL_snoc : ∀ (l : List Int) (m x : Int), minL m (l ++ [x]) = min (minL m l) x
  | [], m, x => rfl
  | y :: l, m, x => by simp only [List.cons_append, minL]; exact minL_snoc l _ x
set_option maxHeartbeats 1000000 in
set_option maxRecDepth 100000 in
theorem min_any (f : Nat → Int) (n : Nat) (A : Option Addr) (cap : Nat) (w : World) (hn : 0 < n) (hn2 : n ≤ 100000) (hr : Reads w w.heap.size 1 A n (intRow n f)) :
    Calls Try.prog 36 #[.slice A n cap] w fun en w' => en = .returned (.int .i64 (minL (f 0) ((List.range n).map f))) ∧ Below w.heap.size w w' := by
  have hn' : ¬ (n : Int) < 1 := by omega
  obtain ⟨ad, u0, rfl, hbl, hu0, hc0⟩ := hr.at_ hn
  rw [intRow_get hn] at hu0
  injection hu0 with hu0
  subst hu0
  refine (callsIn_wide (n := 6)).1 ?_
  refine callsIn_of_wp Try.func36 rfl trivial ?_
  simp only [Try.ntmps36, List.size_toArray, List.length_cons, List.length_nil, Nat.reduceAdd, Nat.reduceSub, Array.replicate_succ, Array.replicate_zero, List.push_toArray, List.append_toArray, List.nil_append, List.cons_append]
  have ha0 : ad.add 0 = ad := by unfold Addr.add; simp
  rw [ha0] at hc0
  have hn0 : (0 : Int) < (n : Int) := by omega
  gi_wp2
  gi_loopw [3, 4] (fun x y wr => ∃ j : Nat, y = .int .i64 j ∧ x = .int .i64 (minL (f 0) ((List.range j).map f)) ∧ 1 ≤ j ∧ j ≤ n ∧ wr = w) (fun _ y _ => n - (intOf y).toNat)
  case atStart => exact ⟨1, rfl, by simp [minL, List.range_succ], Nat.le_refl _, hn, rfl⟩
  case round =>
    obtain ⟨j, rfl, rfl, h1, h2, rfl⟩ := hrel
    have hwj : IntKind.i64.wrap ((j : Int) + 1) = (j : Int) + 1 := by rw [IntKind.wrap_i64]; omega
    by_cases hj : j < n
    · have hj' : (j : Int) < (n : Int) := by omega
      obtain ⟨ad', uj, e, _, hu, hc⟩ := hr.at_ hj
      injection e with e
      subst e
      rw [intRow_get hj] at hu
      injection hu with hu
      subst hu
      have hm : minL (f 0) ((List.range (j + 1)).map f) = min (minL (f 0) ((List.range j).map f)) (f j) := by rw [List.range_succ, List.map_append, List.map_cons, List.map_nil, minL_snoc]
      generalize minL (f 0) ((List.range j).map f) = m at hm ⊢
      gi_wp2
      exact ⟨⟨j + 1, by go_num, by rw [hm]; congr 1; split <;> omega, by omega, by omega, trivial⟩, by simp [intOf]; omega⟩
    · obtain rfl : j = n := by omega
      gi_wp2
      go_ret
      exact ⟨rfl, Below.refl _ _⟩
set_option maxHeartbeats 1000000 in
set_option maxRecDepth 100000 in
theorem grow_any (n : Nat) (w : World) (h0 : 0 < n) (hn : n ≤ 100000) :
    Calls Try.prog 47 #[.slice none 0 0, .int .i64 n] w fun en w' => ∃ v, en = .returned v ∧ w'.ownsRow w.heap.size 3 1 v 0 [] ∧ Below w.heap.size w w' := by
  obtain ⟨i0, hii, hz0, hz1, hz2⟩ := info_parts infoInt
  have hap : ∀ ty, (Builtin.append_ #[46, 3] ty #[.slice none 0 0, .int .i64 n]).run Try.prog w = _ := fun ty => Lib.run_append_nil_zeros w 46 3 ty 3 i0 (.int .i64 0) .i64 .i64 Try.underlying46 Try.underlying3 hii hz0 n h0 (by omega) (by omega) (by rw [hz2]; omega)
  obtain ⟨G, hG⟩ : ∃ G, grownCap w n 0 3 = G := ⟨_, rfl⟩
  have hG1 : n ≤ G := by rw [← hG]; exact grownCap_ge _ _ _ _
  have hG2 : G ≤ maxLen := by rw [← hG]; exact grownCap_le_maxLen _ _ _ _ (by unfold maxLen; omega)
  rw [hG] at hap
  have hG63 : G ≤ 9223372036854775807 := by unfold maxLen at hG2; omega
  have hw1 : wrap64 ((n : Int)) = n := by unfold wrap64; omega
  have hw2 : IntKind.i64.wrap ((n : Int)) = n := by rw [IntKind.wrap_i64]; omega
  have hn0 : ¬ (n : Int) < 0 := by omega
  have hn1 : 0 < (n : Int) := by omega
  obtain ⟨W5, hW5⟩ : ∃ W5, w.drew.alloc (.cells (Builtin.zeroCells (Value.int .i64 0).cells n ++ Builtin.zeroCells (Value.int .i64 0).cells (G - n)) 3) = W5 := ⟨_, rfl⟩
  have hb5 : Below w.heap.size w W5 := by rw [← hW5]; exact (Below.refl _ _).drew.alloc (Nat.le_refl _) _
  have hown : W5.ownsRow w.heap.size 3 1 (.slice (some ⟨w.heap.size, 0, none⟩) 0 G) 0 [] := by
    rw [← hW5]
    exact World.ownsRow_made w.drew _ G (Nat.le_refl _) hG2 (by simp [size_zeroCells, Value.cells]; omega)
  rw [hW5] at hap
  go_enter Try.func47, Try.ntmps47
  go_wp2_with (at_builtin; refine Lib.wpList_append_run _ rfl _ _ _ _ rfl _ _ rfl rfl _ _ (hap _) ?_)
  go_ret
  exact ⟨_, rfl, hown, hb5⟩
theorem infoI : (Try.prog.info? 3).map (fun i => (i.zero, i.size, i.bytes)) = some (some (.int .i64 0), 1, 8) := infoInt
theorem IntsAt.below {w w' : World} {B n : Nat} {A : Option Addr} {len : Nat → Nat} {f : Nat → Nat → Int} (h : IntsAt w B A n len f) (hb : Below B w w') : IntsAt w' B A n len f := by
  obtain ⟨hd, h1, h2⟩ := h
  refine ⟨hd, h1.below hb, fun i hi => ?_⟩
  obtain ⟨Ai, ci, h3, h5⟩ := h2 i hi
  exact ⟨Ai, ci, h3, h5.below hb⟩
theorem IntsAt.more {w : World} {B B' n : Nat} {A : Option Addr} {len : Nat → Nat} {f : Nat → Nat → Int} (h : IntsAt w B A n len f) (hB : B ≤ B') : IntsAt w B' A n len f := by
  obtain ⟨hd, h1, h2⟩ := h
  refine ⟨hd, h1.more hB, fun i hi => ?_⟩
  obtain ⟨Ai, ci, h3, h5⟩ := h2 i hi
  exact ⟨Ai, ci, h3, h5.more hB⟩
theorem IntsAt.at_ {w : World} {B n : Nat} {A : Option Addr} {len : Nat → Nat} {f : Nat → Nat → Int} (h : IntsAt w B A n len f) {i : Nat} (hi : i < n) :
    ∃ ad Ai ci, A = some ad ∧ ad.block < B ∧ w.cell? (ad.add i) = some (.slice Ai (len i) ci) ∧ Reads w B 1 Ai (len i) (intRow (len i) (f i)) := by
  obtain ⟨hd, h1, h2⟩ := h
  obtain ⟨Ai, ci, h3, h5⟩ := h2 i hi
  obtain ⟨ad, u, rfl, hb, hu, hc⟩ := h1.at_ hi
  rw [h3] at hu
  injection hu with hu
  exact ⟨ad, Ai, ci, rfl, hb, by rw [hc, ← hu], h5⟩
theorem intRow_one (q : Nat) (f : Nat → Int) : ∀ u ∈ intRow q f, u.oneCell' = true := fun u hu => by
  obtain ⟨k, _, rfl⟩ := List.mem_map.1 hu
  rfl
set_option maxHeartbeats 1000000 in
set_option maxRecDepth 100000 in
theorem concat_any (n : Nat) (len : Nat → Nat) (f : Nat → Nat → Int) (A : Option Addr) (cap : Nat) (w : World) (h0 : 0 < n) (hn : n ≤ 4096) (hl : ∀ i, i < n → len i = 1) (hr : IntsAt w w.heap.size A n len f) :
    Calls Try.prog 35 #[.slice A n cap] w fun en w' => ∃ v, en = .returned v ∧ w'.ownsRow w.heap.size 3 1 v n (intRow n (fun i => f i 0)) ∧ Below w.heap.size w w' := by
  obtain ⟨i0, hii, hz0, hz1, hz2⟩ := info_parts infoInt
  refine (callsIn_wide (n := 6)).1 ?_
  refine callsIn_of_wp Try.func35 rfl trivial ?_
  simp only [Try.ntmps35, List.size_toArray, List.length_cons, List.length_nil, Nat.reduceAdd, Nat.reduceSub, Array.replicate_succ, Array.replicate_zero, List.push_toArray, List.append_toArray, List.nil_append, List.cons_append]
  gi_wp2
  gi_loopw [3, 11] (fun x y wr => ∃ k : Nat, x = .int .i64 k ∧ y = .int .i64 k ∧ k ≤ n ∧ wr = w) (fun _ y _ => n - (intOf y).toNat)
  case atStart => exact ⟨0, rfl, rfl, Nat.zero_le _, rfl⟩
  case round =>
    obtain ⟨k, rfl, rfl, hk, rfl⟩ := hrel
    by_cases hkn : k < n
    · have hkn' : (k : Int) < (n : Int) := by omega
      obtain ⟨ad, Ai, ci, rfl, hbl, hc, hrd⟩ := hr.at_ hkn
      rw [hl k hkn] at hc
      have hwk : IntKind.i64.wrap ((k : Int) + 1) = (k : Int) + 1 := by rw [IntKind.wrap_i64]; omega
      have hwk2 : ¬ (k : Int) + 1 < 0 := by omega
      gi_wp2
      go_roundw
      case rel => exact ⟨k + 1, by go_num, by go_num, by omega, trivial⟩
      case measure => simp [intOf]; omega
    · obtain rfl : k = n := by omega
      obtain ⟨wo, rfl⟩ : ∃ wo, wo = wr := ⟨wr, rfl⟩
      gi_wp2
      refine ⟨trivial, (callsIn_wide.2 (grow_any k wo h0 (by omega))).mono ?_⟩
      rintro en w1 ⟨v1, rfl, hv1, hb1⟩
      gi_wp2
      gi_loopw [6, 27] (fun x y wt => ∃ j : Nat, y = .int .i64 j ∧ j ≤ k ∧ wt.ownsRow wo.heap.size 3 1 x j (intRow j (fun i => f i 0)) ∧ Below wo.heap.size wo wt) (fun _ y _ => k - (intOf y).toNat)
      case atStart => exact ⟨0, rfl, Nat.zero_le _, hv1, hb1⟩
      case round =>
        obtain ⟨j, rfl, hj, hrow, hb⟩ := hrel
        by_cases hjn : j < k
        · have hjn' : (j : Int) < (k : Int) := by omega
          obtain ⟨ad, Ai, ci, rfl, hbl, hc, hrd⟩ := (hr.below hb).at_ hjn
          rw [hl j hjn] at hc hrd
          obtain ⟨ai, rfl, hbi, hci⟩ := hrd.2 (by omega)
          have hwj : IntKind.i64.wrap ((j : Int) + 1) = (j : Int) + 1 := by rw [IntKind.wrap_i64]; omega
          obtain ⟨Ax, cx, rfl⟩ := own_rowS hrow
          gi_wp2_with (gi_at_builtin; refine wpListIn_append_own_at _ rfl (.tmp 31) (.tmp 32) 46 rfl wo.heap.size 3 i0 _ 1 8 Try.underlying46 hii hz0 hz1 hz2 (by decide) (by decide) _ j _ rfl hrow ai 1 ci (intRow 1 (f j)) rfl rfl hci (intRow_one _ _) (by unfold maxLen; omega) (by omega) (hb.size) ?_; intro v8 w8 hown8 hg8 hnil8 hloc8)
          go_roundw
          case rel =>
            refine ⟨j + 1, by go_num, by omega, ?_, hb.grown hg8 hb.size (fun q e => (hrow.lt q e).1)⟩
            have e : intRow (j + 1) (fun i => f i 0) = intRow j (fun i => f i 0) ++ intRow 1 (f j) := by simp [intRow, List.range_succ]
            rw [e]
            exact hown8
          case measure => simp [intOf]; omega
        · obtain rfl : j = k := by omega
          gi_wp2
          go_ret
          exact ⟨_, rfl, hrow, hb⟩
set_option maxHeartbeats 1000000 in
set_option maxRecDepth 100000 in
theorem least_any (n : Nat) (len : Nat → Nat) (f : Nat → Nat → Int) (A : Option Addr) (cap : Nat) (w : World) (h0 : 0 < n) (hn : n ≤ 4096) (hl : ∀ i, i < n → len i = 1) (hr : IntsAt w w.heap.size A n len f) :
    Calls Try.prog 26 #[.slice A n cap] w fun en w' => en = .returned (.tuple #[.int .i64 (minL (f 0 0) ((List.range n).map fun i => f i 0)), .bool true]) ∧ Below w.heap.size w w' := by
  have hn' : ¬ (n : Int) = 0 := by omega
  refine (callsIn_wide (n := 6)).1 ?_
  refine callsIn_of_wp Try.func26 rfl trivial ?_
  simp only [Try.ntmps26, List.size_toArray, List.length_cons, List.length_nil, Nat.reduceAdd, Nat.reduceSub, Array.replicate_succ, Array.replicate_zero, List.push_toArray, List.append_toArray, List.nil_append, List.cons_append]
  gi_wp2
  refine ⟨trivial, (callsIn_wide.2 (concat_any n len f A cap w h0 hn hl hr)).mono ?_⟩
  rintro en w1 ⟨v1, rfl, hv1, hb1⟩
  obtain ⟨A1, c1, rfl⟩ := own_rowS hv1
  gi_wp2
  refine ⟨trivial, (callsIn_wide.2 (min_any (fun i => f i 0) n A1 c1 w1 h0 (by omega) (own_reads hv1))).mono ?_⟩
  rintro en w2 ⟨rfl, hb2⟩
  gi_wp2
  go_ret2
  exact ⟨rfl, hb1.trans (hb2.mono hb1.size)⟩
end Go.Proofs.Ytcdfojfafnecdaa
