/- slices.Delete of one thing, in a row of the call's own, by walks. No conditions but those named. -/
import Derived.Test.YtpbpbijjkmjjjaaUf
import Derived.Laws.OwnMore
namespace Go
section
variable {P : Program} {n : Nat} {o : Oper} {a : Act} {w : World} {K : Act → World → Prop} {Q : Exit → Act → World → Prop}
/-- 'append' onto a row of the call's own that has room. -/
theorem wpIn_append_fits' (s x : Operand) (t : TypeId) (ho : o.op = .call { callee := .builtin .append, args := #[s, x], argTypes := #[t, t] })
    (base : Nat) (e : TypeId) (i : TypeInfo) (size : Nat) (ht : P.underlying t = some (.slice e)) (hi : P.info? e = some i) (hsize : i.size = size)
    (g k cap : Nat) (xs : List Value) (hs : a.eval s = .slice (some ⟨g, 0, none⟩) k cap) (hown : w.ownsRow base e size (.slice (some ⟨g, 0, none⟩) k cap) k xs)
    (ad : Addr) (m c : Nat) (news : List Value) (hx : a.eval x = .slice (some ad) m c) (hl : news.length = m * size) (hnews : ∀ j u, news[j]? = some u → w.cell? (ad.add j) = some u) (h1 : ∀ u ∈ news, u.oneCell' = true) (hroom : k + m ≤ cap)
    (h : ∀ w', w'.ownsRow base e size (.slice (some ⟨g, 0, none⟩) (k + m) cap) (k + m) (xs ++ news) → w.grownBy w' (some g) → K (a.put o.dst (.slice (some ⟨g, 0, none⟩) (k + m) cap)) w') : o.wpIn Fence.wide n P a w K Q := by
  obtain ⟨w', hr, h2, h3⟩ := run_append_fits (P := P) w base t o.type e i size ht hi hsize g k cap xs hown ad m c news hl hnews h1 hroom
  refine wpIn_val (v := .slice (some ⟨g, 0, none⟩) (k + m) cap) (w' := w') (fun c hc => by rw [ho] at hc; cases hc) ?_ (h w' h2 h3)
  unfold execOp
  simp only [ho, resolve, invoke, builtin, Sem.run_bind, Sem.run_pure, Result.andThen_ok, List.map_toArray, List.map_cons, List.map_nil, hs, hx, hr]
end
/-- A row's head is a row. -/
theorem World.ownsRow.head {w : World} {base e size g n cap : Nat} {xs : List Value} (h : w.ownsRow base e size (.slice (some ⟨g, 0, none⟩) n cap) n xs) {k : Nat} (hk : k ≤ n) : w.ownsRow base e size (.slice (some ⟨g, 0, none⟩) k cap) k (xs.take (k * size)) := by
  have hx := h.1
  have hkn : k * size ≤ n * size := Nat.mul_le_mul_right _ hk
  rcases h.2 with ⟨h', _⟩ | ⟨g', cap', cur, h', hb, hg, hnc, hcm, hcs, htake⟩
  · simp at h'
  · simp only [Value.slice.injEq, Option.some.injEq, Addr.mk.injEq, and_true, true_and] at h'
    obtain ⟨rfl, rfl⟩ := h'
    refine ⟨by rw [List.length_take, hx]; exact Nat.min_eq_left hkn, .inr ⟨g, cap, cur, rfl, hb, hg, by omega, hcm, hcs, ?_⟩⟩
    rw [← htake, List.take_take, Nat.min_eq_left hkn]
/-- What stands behind a row's head may be written. -/
theorem World.ownsRow.behind {w : World} {base e size g n cap : Nat} {xs : List Value} (h : w.ownsRow base e size (.slice (some ⟨g, 0, none⟩) n cap) n xs) {off : Nat} {cs : List Value} (h1 : n * size ≤ off) (h2 : off + cs.length ≤ cap * size) :
    ∃ cur, w.heap[g]? = some (.cells cur e (0, 0)) ∧ off + cs.length ≤ cur.size ∧ (w.setRow g (cur.toList.take off ++ cs ++ cur.toList.drop (off + cs.length)).toArray).ownsRow base e size (.slice (some ⟨g, 0, none⟩) n cap) n xs ∧
      w.grownBy (w.setRow g (cur.toList.take off ++ cs ++ cur.toList.drop (off + cs.length)).toArray) (some g) := by
  rcases h.2 with ⟨h', _⟩ | ⟨g', cap', cur, h', hb, hg, hnc, hcm, hcs, htake⟩
  · simp at h'
  · simp only [Value.slice.injEq, Option.some.injEq, Addr.mk.injEq, and_true, true_and] at h'
    obtain ⟨rfl, rfl⟩ := h'
    have hsz : off + cs.length ≤ cur.size := by rw [hcs]; exact h2
    refine ⟨cur, hg, hsz, ⟨h.1, .inr ⟨g, cap, _, rfl, hb, setRow_heap _ _ _ _ _ _ hg, hnc, hcm, by simp; omega, ?_⟩⟩, ⟨rfl, rfl, rfl, by simp [World.setRow], fun k _ hk => setRow_other w g k _ (fun e => hk (by rw [e]))⟩⟩
    rw [← htake, List.append_assoc, List.take_append_of_le_length (by simp; omega), List.take_take, Nat.min_eq_left h1]
section
variable {P : Program} {n : Nat} {o : Oper} {a : Act} {w : World} {K : Act → World → Prop} {Q : Exit → Act → World → Prop}
/-- 'clear' of a stretch behind a row's head. -/
theorem wpIn_clear_behind (s : Operand) (t : TypeId) (ho : o.op = .call { callee := .builtin .clear, args := #[s], argTypes := #[t] })
    (base : Nat) (e : TypeId) (i : TypeInfo) (z : Value) (size : Nat) (ht : P.underlying t = some (.slice e)) (hi : P.info? e = some i) (hz : i.zero = some z) (hzs : z.cells.size = size) (hz1 : ∀ u ∈ z.cells.toList, u.oneCell' = true)
    (g k cap off c : Nat) (xs : List Value) (hs : a.eval s = .slice (some ⟨g, off, none⟩) 1 c) (hown : w.ownsRow base e size (.slice (some ⟨g, 0, none⟩) k cap) k xs) (h1 : k * size ≤ off) (h2 : off + size ≤ cap * size)
    (h : ∀ w', w'.ownsRow base e size (.slice (some ⟨g, 0, none⟩) k cap) k xs → w.grownBy w' (some g) → K (a.put o.dst (.tuple #[])) w') : o.wpIn Fence.wide n P a w K Q := by
  have hzc : (Builtin.zeroCells z.cells 1).toList = z.cells.toList := by
    apply List.ext_getElem?
    intro j
    by_cases hj : j < z.cells.size
    · simp [Builtin.zeroCells, hj, Nat.mod_eq_of_lt hj]
    · simp [Builtin.zeroCells, hj]
  obtain ⟨cur, hg, hf, ho', hgr⟩ := hown.behind (off := off) (cs := z.cells.toList) h1 (by rw [Array.length_toList, hzs]; exact h2)
  have hst := run_storeCells_at (P := P) g off e z.cells.toList 0 cur w hg (by simpa using hf) hz1
  refine wpIn_val (v := .tuple #[]) (fun c hc => by rw [ho] at hc; cases hc) ?_ (h _ ho' hgr)
  unfold execOp
  simp only [ho, resolve, invoke, builtin, Sem.run_bind, Sem.run_pure, Result.andThen_ok, List.map_toArray, List.map_cons, List.map_nil, hs]
  simp [Builtin.clear_, run_underlying ht, zeroValue, typeInfo, hi, hz, hzc, hst]
end
end Go
set_option linter.unusedSimpArgs false
set_option linter.unusedVariables false
namespace Go.Proofs.Ytpbpbijjkmjjjaa
open Go Go.RowKit Go.Sx
attribute [local go_sem] Oper.semAt_some
theorem grown_trans {w w' w'' : World} {row : Option Nat} (h : w.grownBy w' row) (h' : w'.grownBy w'' row) : w.grownBy w'' row :=
  ⟨h'.os.trans h.os, h'.tape.trans h.tape, h'.output.trans h.output, Nat.le_trans h.size h'.size, fun k hk hn => (h'.block k (Nat.lt_of_lt_of_le hk h.size) hn).trans (h.block k hk hn)⟩
set_option maxHeartbeats 4000000 in
set_option maxRecDepth 100000 in
theorem deleteTri_any (base g cap : Nat) (l : List T10) (j : Nat) (hj : j < l.length) (hl : l.length ≤ 1000) (w : World) (hown : w.ownsRow base 33 10 (.slice (some ⟨g, 0, none⟩) l.length cap) l.length (fl T10.cs l)) :
    Calls Try.prog 52 #[.slice (some ⟨g, 0, none⟩) l.length cap, .int .i64 j, .int .i64 (j + 1 : Nat)] w fun en w' =>
      en = .returned (.slice (some ⟨g, 0, none⟩) (l.length - 1) cap) ∧ w'.ownsRow base 33 10 (.slice (some ⟨g, 0, none⟩) (l.length - 1) cap) (l.length - 1) (fl T10.cs (l.take j ++ l.drop (j + 1))) ∧ w.grownBy w' (some g) := by
  obtain ⟨i0, hii, hz0, hz1, hz2⟩ := info_parts infoTri
  have hcap : l.length ≤ cap ∧ cap ≤ maxLen := by
    rcases hown.2 with ⟨h, _⟩ | ⟨g', cap', cur, h, _, _, h1, h2, _⟩
    · cases h
    · simp only [Value.slice.injEq, Option.some.injEq, Addr.mk.injEq, and_true, true_and] at h
      obtain ⟨rfl, rfl⟩ := h
      exact ⟨h1, h2⟩
  have hmx : maxLen = 9223372036854775807 := rfl
  obtain ⟨N, hn⟩ : ∃ N, l.length = N + 1 := ⟨l.length - 1, by omega⟩
  have hln := hn
  rw [hn] at hown hj hl hcap
  rw [hn, Nat.add_sub_cancel]
  have hsrc : ∀ q u, (fl T10.cs (l.drop (j + 1)))[q]? = some u → w.drew.cell? ⟨g, (j + 1) * 10 + q, none⟩ = some u := fun q u hu => by
    rw [← fl_drop T10.len, List.getElem?_drop] at hu
    have hq : (j + 1) * 10 + q < (N + 1) * 10 := by
      have := (List.getElem?_eq_some_iff.1 hu).1
      rw [fl_length T10.len, hn] at this
      exact this
    exact (hown.cellAt _ hq).trans hu
  have hnl : (fl T10.cs (l.drop (j + 1))).length = (N - j) * 10 := by rw [fl_length T10.len, List.length_drop, hn]; congr 1; omega
  have hd0 : N - j = 0 → fl T10.cs (l.drop (j + 1)) = [] := fun h => by rw [List.drop_eq_nil_of_le (by omega)]; rfl
  have hhd := (show w.drew.ownsRow base 33 10 (.slice (some ⟨g, 0, none⟩) (N + 1) cap) (N + 1) (fl T10.cs l) from hown).head (k := j) (by omega)
  rw [fl_take T10.len] at hhd
  have hone := fl_one T10.one (l.drop (j + 1))
  have hres : fl T10.cs (l.take j) ++ fl T10.cs (l.drop (j + 1)) = fl T10.cs (l.take j ++ l.drop (j + 1)) := (fl_append _ _).symm
  generalize fl T10.cs (l.drop (j + 1)) = news at hsrc hnl hd0 hone hres
  replace hres := Lib.hid hres
  replace hln := Lib.hid hln
  clear hn
  have b1 : (j : Int) ≤ (j : Int) + 1 := by omega
  have b2 : (j : Int) + 1 ≤ (N : Int) + 1 := by omega
  have b3 : (N : Int) + 1 ≤ (cap : Int) := by omega
  have b4 : (j : Int) < (N : Int) + 1 := by omega
  have b5 : (j : Int) ≤ (cap : Int) := by omega
  have b6 : (0 : Int) ≤ (j : Int) + 1 := by omega
  have b7 : ¬ ((j : Int) = (j : Int) + 1) := by omega
  have b8 : j + (N - j) = N := by omega
  by_cases hcj : cap = j + 1
  · obtain rfl : j = N := by omega
    subst hcj
    replace hd0 := hd0 (by omega)
    clear hsrc hnl
    refine (callsIn_wide (n := 6)).1 ?_
    refine callsIn_of_wp Try.func52 rfl trivial ?_
    simp only [Try.ntmps52, List.size_toArray, List.length_cons, List.length_nil, Nat.reduceAdd, Nat.reduceSub, Array.replicate_succ, Array.replicate_zero, List.push_toArray, List.append_toArray, List.nil_append, List.cons_append]
    gi_wp2
    have hS : (CellsL []) (w.drew) := trivial
    refine wpIn_region_ord [(0, true), (1, true), (2, true), (3, true), (4, true), (5, true), (6, false)] (CellsL []) (fun _ => trivial) rfl (by first | exact then_put rfl | (intro c d v a w h; cases d <;> exact h)) (by kernel_rfl) ?_
    simp only [List.length_cons, List.length_nil, Nat.reduceAdd, List.drop_succ_cons, List.drop_zero]
    iterate 6 (apply wpOrd_quiet rfl hS rfl; (intro w' hw'; obtain _ := hw'; go_simp; exact rfl); go_simp)
    refine wpOrd_move rfl rfl ?_
    refine wpIn_append_fits' (.tmp 22) (.tmp 25) 24 rfl base 33 i0 10 Try.underlying24 hii hz1 g _ _ (fl T10.cs (l.take j)) rfl hhd ⟨g, 0, none⟩ 0 0 news rfl (by rw [hd0]; simp) (fun q u hu => by rw [hd0] at hu; simp at hu) hone (by omega) ?_
    intro w8 hown8 hg8
    rw [Nat.add_zero] at hown8
    refine ⟨hS, ?_⟩
    go_simp
    refine wpOrd_nil ?_
    have b9 : ¬ (j + 1 = j) := by omega
    have b10 : (j : Int) ≤ ((j + 1 : Nat) : Int) := by omega
    have b11 : j + 1 - j = 1 := by omega
    gi_wp2_with (refine wpListIn_plain rfl fun K' hK' => ?_; refine wpIn_clear_behind (.tmp 31) 24 rfl base 33 i0 (.agg #[.int .i64 0, .int .i64 0, .int .i64 0, .int .i64 0, .int .i64 0, .int .i64 0, .int .i64 0, .int .i64 0, .int .i64 0, .int .i64 0]) 10 Try.underlying24 hii hz0 rfl (by decide) g _ _ _ _ _ rfl hown8 (Nat.le_refl _) (by omega) ?_; intro w9 hown9 hg9; refine hK' _ _ ?_)
    go_ret
    rw [hres.out] at hown9
    exact ⟨rfl, hown9, grown_trans (⟨hg8.os, hg8.tape, hg8.output, hg8.size, hg8.block⟩ : w.grownBy w8 (some g)) hg9⟩
  · skip
    refine (callsIn_wide (n := 6)).1 ?_
    refine callsIn_of_wp Try.func52 rfl trivial ?_
    simp only [Try.ntmps52, List.size_toArray, List.length_cons, List.length_nil, Nat.reduceAdd, Nat.reduceSub, Array.replicate_succ, Array.replicate_zero, List.push_toArray, List.append_toArray, List.nil_append, List.cons_append]
    gi_wp2
    have hS : (CellsL []) (w.drew) := trivial
    refine wpIn_region_ord [(0, true), (1, true), (2, true), (3, true), (4, true), (5, true), (6, false)] (CellsL []) (fun _ => trivial) rfl (by first | exact then_put rfl | (intro c d v a w h; cases d <;> exact h)) (by kernel_rfl) ?_
    simp only [List.length_cons, List.length_nil, Nat.reduceAdd, List.drop_succ_cons, List.drop_zero]
    iterate 6 (apply wpOrd_quiet rfl hS rfl; (intro w' hw'; obtain _ := hw'; go_simp; exact rfl); go_simp)
    refine wpOrd_move rfl rfl ?_
    refine wpIn_append_fits' (.tmp 22) (.tmp 25) 24 rfl base 33 i0 10 Try.underlying24 hii hz1 g _ _ (fl T10.cs (l.take j)) rfl hhd ⟨g, (j + 1) * 10, none⟩ (N - j) (cap - (j + 1)) news rfl hnl (fun q u hu => by rw [Addr.add_lit]; exact hsrc q u hu) hone (by omega) ?_
    intro w8 hown8 hg8
    rw [b8] at hown8
    refine ⟨hS, ?_⟩
    go_simp
    refine wpOrd_nil ?_
    have b9 : ¬ (cap = N) := by omega
    have b10 : (N : Int) ≤ (cap : Int) := by omega
    have b11 : N + 1 - N = 1 := by omega
    gi_wp2_with (refine wpListIn_plain rfl fun K' hK' => ?_; refine wpIn_clear_behind (.tmp 31) 24 rfl base 33 i0 (.agg #[.int .i64 0, .int .i64 0, .int .i64 0, .int .i64 0, .int .i64 0, .int .i64 0, .int .i64 0, .int .i64 0, .int .i64 0, .int .i64 0]) 10 Try.underlying24 hii hz0 rfl (by decide) g _ _ _ _ _ rfl hown8 (Nat.le_refl _) (by omega) ?_; intro w9 hown9 hg9; refine hK' _ _ ?_)
    go_ret
    rw [hres.out] at hown9
    exact ⟨rfl, hown9, grown_trans (⟨hg8.os, hg8.tape, hg8.output, hg8.size, hg8.block⟩ : w.grownBy w8 (some g)) hg9⟩
set_option maxHeartbeats 4000000 in
set_option maxRecDepth 100000 in
theorem deleteBox_any (base g cap : Nat) (l : List B8) (j : Nat) (hj : j < l.length) (hl : l.length ≤ 1000) (w : World) (hown : w.ownsRow base 64 8 (.slice (some ⟨g, 0, none⟩) l.length cap) l.length (fl B8.cs l)) :
    Calls Try.prog 61 #[.slice (some ⟨g, 0, none⟩) l.length cap, .int .i64 j, .int .i64 (j + 1 : Nat)] w fun en w' =>
      en = .returned (.slice (some ⟨g, 0, none⟩) (l.length - 1) cap) ∧ w'.ownsRow base 64 8 (.slice (some ⟨g, 0, none⟩) (l.length - 1) cap) (l.length - 1) (fl B8.cs (l.take j ++ l.drop (j + 1))) ∧ w.grownBy w' (some g) := by
  obtain ⟨i0, hii, hz0, hz1, hz2⟩ := info_parts infoBox
  have hcap : l.length ≤ cap ∧ cap ≤ maxLen := by
    rcases hown.2 with ⟨h, _⟩ | ⟨g', cap', cur, h, _, _, h1, h2, _⟩
    · cases h
    · simp only [Value.slice.injEq, Option.some.injEq, Addr.mk.injEq, and_true, true_and] at h
      obtain ⟨rfl, rfl⟩ := h
      exact ⟨h1, h2⟩
  have hmx : maxLen = 9223372036854775807 := rfl
  obtain ⟨N, hn⟩ : ∃ N, l.length = N + 1 := ⟨l.length - 1, by omega⟩
  have hln := hn
  rw [hn] at hown hj hl hcap
  rw [hn, Nat.add_sub_cancel]
  have hsrc : ∀ q u, (fl B8.cs (l.drop (j + 1)))[q]? = some u → w.drew.cell? ⟨g, (j + 1) * 8 + q, none⟩ = some u := fun q u hu => by
    rw [← fl_drop B8.len, List.getElem?_drop] at hu
    have hq : (j + 1) * 8 + q < (N + 1) * 8 := by
      have := (List.getElem?_eq_some_iff.1 hu).1
      rw [fl_length B8.len, hn] at this
      exact this
    exact (hown.cellAt _ hq).trans hu
  have hnl : (fl B8.cs (l.drop (j + 1))).length = (N - j) * 8 := by rw [fl_length B8.len, List.length_drop, hn]; congr 1; omega
  have hd0 : N - j = 0 → fl B8.cs (l.drop (j + 1)) = [] := fun h => by rw [List.drop_eq_nil_of_le (by omega)]; rfl
  have hhd := (show w.drew.ownsRow base 64 8 (.slice (some ⟨g, 0, none⟩) (N + 1) cap) (N + 1) (fl B8.cs l) from hown).head (k := j) (by omega)
  rw [fl_take B8.len] at hhd
  have hone := fl_one B8.one (l.drop (j + 1))
  have hres : fl B8.cs (l.take j) ++ fl B8.cs (l.drop (j + 1)) = fl B8.cs (l.take j ++ l.drop (j + 1)) := (fl_append _ _).symm
  generalize fl B8.cs (l.drop (j + 1)) = news at hsrc hnl hd0 hone hres
  replace hres := Lib.hid hres
  replace hln := Lib.hid hln
  clear hn
  have b1 : (j : Int) ≤ (j : Int) + 1 := by omega
  have b2 : (j : Int) + 1 ≤ (N : Int) + 1 := by omega
  have b3 : (N : Int) + 1 ≤ (cap : Int) := by omega
  have b4 : (j : Int) < (N : Int) + 1 := by omega
  have b5 : (j : Int) ≤ (cap : Int) := by omega
  have b6 : (0 : Int) ≤ (j : Int) + 1 := by omega
  have b7 : ¬ ((j : Int) = (j : Int) + 1) := by omega
  have b8 : j + (N - j) = N := by omega
  by_cases hcj : cap = j + 1
  · obtain rfl : j = N := by omega
    subst hcj
    replace hd0 := hd0 (by omega)
    clear hsrc hnl
    refine (callsIn_wide (n := 6)).1 ?_
    refine callsIn_of_wp Try.func61 rfl trivial ?_
    simp only [Try.ntmps61, List.size_toArray, List.length_cons, List.length_nil, Nat.reduceAdd, Nat.reduceSub, Array.replicate_succ, Array.replicate_zero, List.push_toArray, List.append_toArray, List.nil_append, List.cons_append]
    gi_wp2
    have hS : (CellsL []) (w.drew) := trivial
    refine wpIn_region_ord [(0, true), (1, true), (2, true), (3, true), (4, true), (5, true), (6, false)] (CellsL []) (fun _ => trivial) rfl (by first | exact then_put rfl | (intro c d v a w h; cases d <;> exact h)) (by kernel_rfl) ?_
    simp only [List.length_cons, List.length_nil, Nat.reduceAdd, List.drop_succ_cons, List.drop_zero]
    iterate 6 (apply wpOrd_quiet rfl hS rfl; (intro w' hw'; obtain _ := hw'; go_simp; exact rfl); go_simp)
    refine wpOrd_move rfl rfl ?_
    refine wpIn_append_fits' (.tmp 22) (.tmp 25) 25 rfl base 64 i0 8 Try.underlying25 hii hz1 g _ _ (fl B8.cs (l.take j)) rfl hhd ⟨g, 0, none⟩ 0 0 news rfl (by rw [hd0]; simp) (fun q u hu => by rw [hd0] at hu; simp at hu) hone (by omega) ?_
    intro w8 hown8 hg8
    rw [Nat.add_zero] at hown8
    refine ⟨hS, ?_⟩
    go_simp
    refine wpOrd_nil ?_
    have b9 : ¬ (j + 1 = j) := by omega
    have b10 : (j : Int) ≤ ((j + 1 : Nat) : Int) := by omega
    have b11 : j + 1 - j = 1 := by omega
    gi_wp2_with (refine wpListIn_plain rfl fun K' hK' => ?_; refine wpIn_clear_behind (.tmp 31) 25 rfl base 64 i0 (.agg #[.int .i64 0, .int .i64 0, .int .i64 0, .int .i64 0, .int .i64 0, .int .i64 0, .int .i64 0, .int .i64 0]) 8 Try.underlying25 hii hz0 rfl (by decide) g _ _ _ _ _ rfl hown8 (Nat.le_refl _) (by omega) ?_; intro w9 hown9 hg9; refine hK' _ _ ?_)
    go_ret
    rw [hres.out] at hown9
    exact ⟨rfl, hown9, grown_trans (⟨hg8.os, hg8.tape, hg8.output, hg8.size, hg8.block⟩ : w.grownBy w8 (some g)) hg9⟩
  · skip
    refine (callsIn_wide (n := 6)).1 ?_
    refine callsIn_of_wp Try.func61 rfl trivial ?_
    simp only [Try.ntmps61, List.size_toArray, List.length_cons, List.length_nil, Nat.reduceAdd, Nat.reduceSub, Array.replicate_succ, Array.replicate_zero, List.push_toArray, List.append_toArray, List.nil_append, List.cons_append]
    gi_wp2
    have hS : (CellsL []) (w.drew) := trivial
    refine wpIn_region_ord [(0, true), (1, true), (2, true), (3, true), (4, true), (5, true), (6, false)] (CellsL []) (fun _ => trivial) rfl (by first | exact then_put rfl | (intro c d v a w h; cases d <;> exact h)) (by kernel_rfl) ?_
    simp only [List.length_cons, List.length_nil, Nat.reduceAdd, List.drop_succ_cons, List.drop_zero]
    iterate 6 (apply wpOrd_quiet rfl hS rfl; (intro w' hw'; obtain _ := hw'; go_simp; exact rfl); go_simp)
    refine wpOrd_move rfl rfl ?_
    refine wpIn_append_fits' (.tmp 22) (.tmp 25) 25 rfl base 64 i0 8 Try.underlying25 hii hz1 g _ _ (fl B8.cs (l.take j)) rfl hhd ⟨g, (j + 1) * 8, none⟩ (N - j) (cap - (j + 1)) news rfl hnl (fun q u hu => by rw [Addr.add_lit]; exact hsrc q u hu) hone (by omega) ?_
    intro w8 hown8 hg8
    rw [b8] at hown8
    refine ⟨hS, ?_⟩
    go_simp
    refine wpOrd_nil ?_
    have b9 : ¬ (cap = N) := by omega
    have b10 : (N : Int) ≤ (cap : Int) := by omega
    have b11 : N + 1 - N = 1 := by omega
    gi_wp2_with (refine wpListIn_plain rfl fun K' hK' => ?_; refine wpIn_clear_behind (.tmp 31) 25 rfl base 64 i0 (.agg #[.int .i64 0, .int .i64 0, .int .i64 0, .int .i64 0, .int .i64 0, .int .i64 0, .int .i64 0, .int .i64 0]) 8 Try.underlying25 hii hz0 rfl (by decide) g _ _ _ _ _ rfl hown8 (Nat.le_refl _) (by omega) ?_; intro w9 hown9 hg9; refine hK' _ _ ?_)
    go_ret
    rw [hres.out] at hown9
    exact ⟨rfl, hown9, grown_trans (⟨hg8.os, hg8.tape, hg8.output, hg8.size, hg8.block⟩ : w.grownBy w8 (some g)) hg9⟩
set_option maxHeartbeats 4000000 in
set_option maxRecDepth 100000 in
theorem deleteHop_any (base g cap : Nat) (l : List H10) (j : Nat) (hj : j < l.length) (hl : l.length ≤ 1000) (w : World) (hown : w.ownsRow base 78 10 (.slice (some ⟨g, 0, none⟩) l.length cap) l.length (fl H10.cs l)) :
    Calls Try.prog 67 #[.slice (some ⟨g, 0, none⟩) l.length cap, .int .i64 j, .int .i64 (j + 1 : Nat)] w fun en w' =>
      en = .returned (.slice (some ⟨g, 0, none⟩) (l.length - 1) cap) ∧ w'.ownsRow base 78 10 (.slice (some ⟨g, 0, none⟩) (l.length - 1) cap) (l.length - 1) (fl H10.cs (l.take j ++ l.drop (j + 1))) ∧ w.grownBy w' (some g) := by
  obtain ⟨i0, hii, hz0, hz1, hz2⟩ := info_parts infoHop
  have hcap : l.length ≤ cap ∧ cap ≤ maxLen := by
    rcases hown.2 with ⟨h, _⟩ | ⟨g', cap', cur, h, _, _, h1, h2, _⟩
    · cases h
    · simp only [Value.slice.injEq, Option.some.injEq, Addr.mk.injEq, and_true, true_and] at h
      obtain ⟨rfl, rfl⟩ := h
      exact ⟨h1, h2⟩
  have hmx : maxLen = 9223372036854775807 := rfl
  obtain ⟨N, hn⟩ : ∃ N, l.length = N + 1 := ⟨l.length - 1, by omega⟩
  have hln := hn
  rw [hn] at hown hj hl hcap
  rw [hn, Nat.add_sub_cancel]
  have hsrc : ∀ q u, (fl H10.cs (l.drop (j + 1)))[q]? = some u → w.drew.cell? ⟨g, (j + 1) * 10 + q, none⟩ = some u := fun q u hu => by
    rw [← fl_drop H10.len, List.getElem?_drop] at hu
    have hq : (j + 1) * 10 + q < (N + 1) * 10 := by
      have := (List.getElem?_eq_some_iff.1 hu).1
      rw [fl_length H10.len, hn] at this
      exact this
    exact (hown.cellAt _ hq).trans hu
  have hnl : (fl H10.cs (l.drop (j + 1))).length = (N - j) * 10 := by rw [fl_length H10.len, List.length_drop, hn]; congr 1; omega
  have hd0 : N - j = 0 → fl H10.cs (l.drop (j + 1)) = [] := fun h => by rw [List.drop_eq_nil_of_le (by omega)]; rfl
  have hhd := (show w.drew.ownsRow base 78 10 (.slice (some ⟨g, 0, none⟩) (N + 1) cap) (N + 1) (fl H10.cs l) from hown).head (k := j) (by omega)
  rw [fl_take H10.len] at hhd
  have hone := fl_one H10.one (l.drop (j + 1))
  have hres : fl H10.cs (l.take j) ++ fl H10.cs (l.drop (j + 1)) = fl H10.cs (l.take j ++ l.drop (j + 1)) := (fl_append _ _).symm
  generalize fl H10.cs (l.drop (j + 1)) = news at hsrc hnl hd0 hone hres
  replace hres := Lib.hid hres
  replace hln := Lib.hid hln
  clear hn
  have b1 : (j : Int) ≤ (j : Int) + 1 := by omega
  have b2 : (j : Int) + 1 ≤ (N : Int) + 1 := by omega
  have b3 : (N : Int) + 1 ≤ (cap : Int) := by omega
  have b4 : (j : Int) < (N : Int) + 1 := by omega
  have b5 : (j : Int) ≤ (cap : Int) := by omega
  have b6 : (0 : Int) ≤ (j : Int) + 1 := by omega
  have b7 : ¬ ((j : Int) = (j : Int) + 1) := by omega
  have b8 : j + (N - j) = N := by omega
  by_cases hcj : cap = j + 1
  · obtain rfl : j = N := by omega
    subst hcj
    replace hd0 := hd0 (by omega)
    clear hsrc hnl
    refine (callsIn_wide (n := 6)).1 ?_
    refine callsIn_of_wp Try.func67 rfl trivial ?_
    simp only [Try.ntmps67, List.size_toArray, List.length_cons, List.length_nil, Nat.reduceAdd, Nat.reduceSub, Array.replicate_succ, Array.replicate_zero, List.push_toArray, List.append_toArray, List.nil_append, List.cons_append]
    gi_wp2
    have hS : (CellsL []) (w.drew) := trivial
    refine wpIn_region_ord [(0, true), (1, true), (2, true), (3, true), (4, true), (5, true), (6, false)] (CellsL []) (fun _ => trivial) rfl (by first | exact then_put rfl | (intro c d v a w h; cases d <;> exact h)) (by kernel_rfl) ?_
    simp only [List.length_cons, List.length_nil, Nat.reduceAdd, List.drop_succ_cons, List.drop_zero]
    iterate 6 (apply wpOrd_quiet rfl hS rfl; (intro w' hw'; obtain _ := hw'; go_simp; exact rfl); go_simp)
    refine wpOrd_move rfl rfl ?_
    refine wpIn_append_fits' (.tmp 22) (.tmp 25) 26 rfl base 78 i0 10 Try.underlying26 hii hz1 g _ _ (fl H10.cs (l.take j)) rfl hhd ⟨g, 0, none⟩ 0 0 news rfl (by rw [hd0]; simp) (fun q u hu => by rw [hd0] at hu; simp at hu) hone (by omega) ?_
    intro w8 hown8 hg8
    rw [Nat.add_zero] at hown8
    refine ⟨hS, ?_⟩
    go_simp
    refine wpOrd_nil ?_
    have b9 : ¬ (j + 1 = j) := by omega
    have b10 : (j : Int) ≤ ((j + 1 : Nat) : Int) := by omega
    have b11 : j + 1 - j = 1 := by omega
    gi_wp2_with (refine wpListIn_plain rfl fun K' hK' => ?_; refine wpIn_clear_behind (.tmp 31) 26 rfl base 78 i0 (.agg #[.int .i64 0, .int .i64 0, .int .i64 0, .int .i64 0, .int .i64 0, .int .i64 0, .int .i64 0, .bool false, .int .i64 0, .int .i64 0]) 10 Try.underlying26 hii hz0 rfl (by decide) g _ _ _ _ _ rfl hown8 (Nat.le_refl _) (by omega) ?_; intro w9 hown9 hg9; refine hK' _ _ ?_)
    go_ret
    rw [hres.out] at hown9
    exact ⟨rfl, hown9, grown_trans (⟨hg8.os, hg8.tape, hg8.output, hg8.size, hg8.block⟩ : w.grownBy w8 (some g)) hg9⟩
  · skip
    refine (callsIn_wide (n := 6)).1 ?_
    refine callsIn_of_wp Try.func67 rfl trivial ?_
    simp only [Try.ntmps67, List.size_toArray, List.length_cons, List.length_nil, Nat.reduceAdd, Nat.reduceSub, Array.replicate_succ, Array.replicate_zero, List.push_toArray, List.append_toArray, List.nil_append, List.cons_append]
    gi_wp2
    have hS : (CellsL []) (w.drew) := trivial
    refine wpIn_region_ord [(0, true), (1, true), (2, true), (3, true), (4, true), (5, true), (6, false)] (CellsL []) (fun _ => trivial) rfl (by first | exact then_put rfl | (intro c d v a w h; cases d <;> exact h)) (by kernel_rfl) ?_
    simp only [List.length_cons, List.length_nil, Nat.reduceAdd, List.drop_succ_cons, List.drop_zero]
    iterate 6 (apply wpOrd_quiet rfl hS rfl; (intro w' hw'; obtain _ := hw'; go_simp; exact rfl); go_simp)
    refine wpOrd_move rfl rfl ?_
    refine wpIn_append_fits' (.tmp 22) (.tmp 25) 26 rfl base 78 i0 10 Try.underlying26 hii hz1 g _ _ (fl H10.cs (l.take j)) rfl hhd ⟨g, (j + 1) * 10, none⟩ (N - j) (cap - (j + 1)) news rfl hnl (fun q u hu => by rw [Addr.add_lit]; exact hsrc q u hu) hone (by omega) ?_
    intro w8 hown8 hg8
    rw [b8] at hown8
    refine ⟨hS, ?_⟩
    go_simp
    refine wpOrd_nil ?_
    have b9 : ¬ (cap = N) := by omega
    have b10 : (N : Int) ≤ (cap : Int) := by omega
    have b11 : N + 1 - N = 1 := by omega
    gi_wp2_with (refine wpListIn_plain rfl fun K' hK' => ?_; refine wpIn_clear_behind (.tmp 31) 26 rfl base 78 i0 (.agg #[.int .i64 0, .int .i64 0, .int .i64 0, .int .i64 0, .int .i64 0, .int .i64 0, .int .i64 0, .bool false, .int .i64 0, .int .i64 0]) 10 Try.underlying26 hii hz0 rfl (by decide) g _ _ _ _ _ rfl hown8 (Nat.le_refl _) (by omega) ?_; intro w9 hown9 hg9; refine hK' _ _ ?_)
    go_ret
    rw [hres.out] at hown9
    exact ⟨rfl, hown9, grown_trans (⟨hg8.os, hg8.tape, hg8.output, hg8.size, hg8.block⟩ : w.grownBy w8 (some g)) hg9⟩
end Go.Proofs.Ytpbpbijjkmjjjaa
