/- A law's row: arguments that are grids: four numbers, and rows of rows of three numbers. No conditions. -/
import Derived.Test.YtcdfojfafnecdaaSxLaw2
import Derived.Test.YtcdfojfafnecdaaMb
namespace Go.Sx
open Go Go.RowKit Go.WideShapes Go.ChangeShapes Go.Proofs.Ytcdfojfafnecdaa
variable {H : Type} {enc : TypeId × Value → H} {P : Program}
/-- A value that is a slice of flat elements. -/
theorem slice_raw {W : World} {b1 m : Nat} {sp : Nat → Bool} {hd : Bool} {t e : TypeId} {v : Value} {d : DataW H} {pl : List MemPlace} {us : List Ty} (ht : P.underlying t = some (.slice e)) (hus : flatOf P 20 e = some us) (hc : P.cellsOf e = us.length) (hpos : 0 < us.length)
    (hlt : ∀ p ∈ pl, p.block < W.heap.size) (hm : DataW.trod enc P W b1 sp hd m t [v] = some (d, pl)) : ∃ xs : List Value, InVal W.heap.size W v xs us ∧ xs.length / us.length ≤ 9223372036854775807 ∧ (∀ k, k < xs.length / us.length → bounded ((xs.drop (k * us.length)).take us.length)) := by
  have hmax : maxLen = 9223372036854775807 := rfl
  rcases Deep.open_slice ht hm with ⟨hcs, hx⟩ | ⟨a, len, cap, m', n, D, Pl, hcs, hb, hl, hcm, hmm, hx, hel⟩
  · obtain rfl : v = .slice none 0 0 := by simpa using hcs
    exact ⟨[], ⟨none, 0, 0, rfl, by simp, fun h => absurd h (by omega), fun k hk => absurd hk (by omega)⟩, by simp, fun k hk => absurd hk (by simp)⟩
  · obtain rfl : v = .slice (some a) len cap := by simpa using hcs
    have hlm : len ≤ m' := by rw [hmm]; split <;> omega
    have hpl : pl = MemPlace.row a (m' * P.cellsOf e) ++ (List.range m').flatMap Pl := by
      have := congrArg Prod.snd hx; simpa using this
    have key : ∀ i, i < len → ∃ cs', cs'.length = us.length ∧ typed us cs' ∧ bounded cs' ∧ ∀ q, q < us.length → W.cell? (a.add (i * us.length + q)) = cs'[q]? := by
      intro i hi
      obtain ⟨cs', h1, h2⟩ := hel i (by omega)
      obtain ⟨_, h4, h5⟩ := World.cells?_some h1
      obtain ⟨t1, t2⟩ := flatOf_ok 20 e us hus n _ _ h2
      refine ⟨cs', by rw [h4, hc], t1, t2, fun q hq => ?_⟩
      have := h5 q (by rw [hc]; exact hq)
      rw [hc, add_add'] at this
      exact this
    let xs : List Value := (List.range (len * us.length)).map fun j => (W.cell? (a.add j)).getD .nilIface
    have hxl : xs.length = len * us.length := by simp [xs]
    have hcut : ∀ i cs', i < len → cs'.length = us.length → (∀ q, q < us.length → W.cell? (a.add (i * us.length + q)) = cs'[q]?) → (xs.drop (i * us.length)).take us.length = cs' := by
      intro i cs' hi hcl hq
      have hle : i * us.length + us.length ≤ len * us.length := by rw [← Nat.succ_mul]; exact Nat.mul_le_mul_right _ hi
      refine List.ext_getElem ?_ fun q h1 h2 => ?_
      · simp only [List.length_take, List.length_drop, hxl, hcl]; omega
      · have hq' : q < us.length := by rw [hcl] at h2; exact h2
        have := hq q hq'
        rw [List.getElem?_eq_getElem h2] at this
        simp [xs, List.getElem_take, List.getElem_drop, this]
    refine ⟨xs, ⟨some a, len, cap, rfl, hxl, fun h0 => ⟨a, rfl, ?_, fun j u hj => ?_⟩, fun k hk => ?_⟩, ?_, fun k hk => ?_⟩
    · refine hlt (.cell a.block (a.off + 0)) ?_
      rw [hpl]
      refine List.mem_append_left _ ?_
      refine List.mem_map.2 ⟨0, ?_, rfl⟩
      rw [List.mem_range, hc]
      exact Nat.mul_pos (by omega) hpos
    · have hjl : j < len * us.length := by
        have := (List.getElem?_eq_some_iff.1 hj).1
        rw [hxl] at this; exact this
      have hi : j / us.length < len := Nat.div_lt_of_lt_mul (by rw [Nat.mul_comm]; exact hjl)
      obtain ⟨cs', c1, _, _, c4⟩ := key _ hi
      have := c4 (j % us.length) (Nat.mod_lt _ hpos)
      rw [Nat.mul_comm, Nat.div_add_mod] at this
      have hlt2 : j % us.length < cs'.length := by rw [c1]; exact Nat.mod_lt _ hpos
      rw [List.getElem?_eq_getElem hlt2] at this
      have e2 : xs[j]? = some ((W.cell? (a.add j)).getD .nilIface) := by
        simp [xs, hjl]
      rw [e2, this] at hj
      rw [this]
      simpa using hj
    · obtain ⟨cs', c1, c2, _, c4⟩ := key k hk
      rw [hcut k cs' hk c1 c4]; exact c2
    · rw [hxl, Nat.mul_div_cancel _ hpos]; omega
    · rw [hxl, Nat.mul_div_cancel _ hpos] at hk
      obtain ⟨cs', c1, _, c3, c4⟩ := key k hk
      rw [hcut k cs' hk c1 c4]; exact c3

/-- A row of floors, out of a row of numbers. -/
def v3s (xs : List Value) : List V3 := (List.range (xs.length / 3)).map fun k => ⟨intOf (xs.getD (k * 3) .nilIface), intOf (xs.getD (k * 3 + 1) .nilIface), intOf (xs.getD (k * 3 + 2) .nilIface)⟩
theorem v3s_ok {B : Nat} {w : World} {v : Value} {xs : List Value} (h : InVal B w v xs [.i, .i, .i]) : ∃ A c, v = .slice A (v3s xs).length c ∧ Reads w B 3 A (v3s xs).length (vcs (v3s xs)) := by
  obtain ⟨A, len, c, rfl, hl, hc, ht⟩ := h
  have hl3 : xs.length = len * 3 := hl
  have hn : (v3s xs).length = len := by simp [v3s, hl3]
  have he : vcs (v3s xs) = xs := by
    refine List.ext_getElem? fun q => ?_
    by_cases hq : q < len * 3
    · have hj : q / 3 < len := by omega
      obtain ⟨n0, r0, e0, n1, r1, e1, n2, r2, e2, e3⟩ : ∃ n0 r0, (xs.drop (q / 3 * 3)).take 3 = .int .i64 n0 :: r0 ∧ ∃ n1 r1, r0 = .int .i64 n1 :: r1 ∧ ∃ n2 r2, r1 = .int .i64 n2 :: r2 ∧ r2 = [] := ht (q / 3) hj
      subst e3 e2 e1
      have g : ∀ m, m < 3 → xs[q / 3 * 3 + m]? = [Value.int .i64 n0, .int .i64 n1, .int .i64 n2][m]? := fun m hm => by
        rw [← e0, List.getElem?_take_of_lt hm, List.getElem?_drop]
      have g0 := g 0 (by omega)
      have g1 := g 1 (by omega)
      have g2 := g 2 (by omega)
      have hv : (v3s xs)[q / 3]'(by rw [hn]; exact hj) = ⟨n0, n1, n2⟩ := by
        simp only [v3s, List.getElem_map, List.getElem_range, List.getD_eq_getElem?_getD]
        rw [Nat.add_zero] at g0
        rw [g0, g1, g2]; rfl
      obtain ⟨v0, v1, v2⟩ := vcs_get (v3s xs) (q / 3) (by rw [hn]; exact hj)
      rw [hv] at v0 v1 v2
      have hm : q % 3 = 0 ∨ q % 3 = 1 ∨ q % 3 = 2 := by omega
      rcases hm with hm | hm | hm
      · have e : q = q / 3 * 3 + 0 := by omega
        rw [e, g0, Nat.add_zero, v0]; rfl
      · have e : q = q / 3 * 3 + 1 := by omega
        rw [e, g1, v1]; rfl
      · have e : q = q / 3 * 3 + 2 := by omega
        rw [e, g2, v2]; rfl
    · rw [List.getElem?_eq_none (by rw [vcs_length, hn]; omega), List.getElem?_eq_none (by omega)]
  rw [hn, he]
  exact ⟨A, c, rfl, hl3, fun h0 => hc h0⟩
/-- A value that is rows of floors. -/
theorem rows_raw {W : World} {b1 m : Nat} {sp : Nat → Bool} {hd : Bool} {s e1 e2 : TypeId} {v : Value} {d : DataW H} {pl : List MemPlace} (hs : P.underlying s = some (.slice e1)) (hs1 : P.cellsOf e1 = 1) (he1 : P.underlying e1 = some (.slice e2)) (hus : flatOf P 20 e2 = some [.i, .i, .i]) (hc2 : P.cellsOf e2 = 3)
    (hlt : ∀ p ∈ pl, p.block < W.heap.size) (hm : DataW.trod enc P W b1 sp hd m s [v] = some (d, pl)) : ∃ A rows cap, v = .slice A rows.length cap ∧ RowsAt W W.heap.size A rows ∧ lensOk rows := by
  have hmax : maxLen = 9223372036854775807 := rfl
  rcases Deep.open_slice1 hs hs1 hm with ⟨hcs, hx⟩ | ⟨a, len, cap, m', n, V, D, Pl, hcs, hb, hl, hcm, hmm, hx, hel⟩
  · obtain rfl : v = .slice none 0 0 := by simpa using hcs
    exact ⟨none, [], 0, rfl, ⟨[], ⟨by simp, fun h => absurd h (by simp)⟩, fun i r h => by simp at h⟩, by simp, fun r h => by simp at h⟩
  · obtain rfl : v = .slice (some a) len cap := by simpa using hcs
    have hlm : len ≤ m' := by rw [hmm]; split <;> omega
    have hpl : pl = MemPlace.row a m' ++ (List.range m').flatMap Pl := by
      have := congrArg Prod.snd hx; simpa using this
    have key : ∀ i, ∃ r : List V3, i < len → ∃ Ai ci, V i = .slice Ai r.length ci ∧ Reads W W.heap.size 3 Ai r.length (vcs r) ∧ r.length ≤ 9223372036854775807 := fun i => by
      by_cases hi : i < len
      · obtain ⟨h1, h2⟩ := hel i (by omega)
        obtain ⟨xs, hin, hxl, _⟩ := slice_raw (us := [.i, .i, .i]) he1 hus hc2 (by decide) (fun p hp => hlt p (by rw [hpl]; exact List.mem_append_right _ (List.mem_flatMap.2 ⟨i, List.mem_range.2 (by omega), hp⟩))) h2
        obtain ⟨Ai, ci, h3, h4⟩ := v3s_ok hin
        refine ⟨v3s xs, fun _ => ⟨Ai, ci, h3, h4, ?_⟩⟩
        have : (v3s xs).length = xs.length / 3 := by simp [v3s]
        rw [this]; exact hxl
      · exact ⟨[], fun h => absurd h hi⟩
    let f : Nat → List V3 := fun i => Classical.choose (key i)
    have hf : ∀ i, i < len → ∃ Ai ci, V i = .slice Ai (f i).length ci ∧ Reads W W.heap.size 3 Ai (f i).length (vcs (f i)) ∧ (f i).length ≤ 9223372036854775807 := fun i hi => Classical.choose_spec (key i) hi
    have hrl : ((List.range len).map f).length = len := by simp
    have hget : ∀ i r, ((List.range len).map f)[i]? = some r → i < len ∧ r = f i := fun i r h => by
      have h1 := (List.getElem?_eq_some_iff.1 h).1
      rw [hrl] at h1
      refine ⟨h1, ?_⟩
      simp [h1] at h
      exact h.symm
    refine ⟨some a, (List.range len).map f, cap, by rw [hrl], ⟨(List.range len).map V, ⟨by simp, fun h0 => ⟨a, rfl, ?_, fun j u hj => ?_⟩⟩, fun i r hr => ?_⟩, by rw [hrl]; omega, fun r hr => ?_⟩
    · rw [hrl] at h0
      refine hlt (.cell a.block (a.off + 0)) ?_
      rw [hpl]
      exact List.mem_append_left _ (List.mem_map.2 ⟨0, List.mem_range.2 (by omega), rfl⟩)
    · have h1 := (List.getElem?_eq_some_iff.1 hj).1
      have h1 : j < len := by simpa using h1
      simp [h1] at hj
      rw [← hj]
      exact (hel j (by omega)).1
    · obtain ⟨hi, rfl⟩ := hget i r hr
      obtain ⟨Ai, ci, h1, h2, _⟩ := hf i hi
      exact ⟨Ai, ci, by simp [hi, h1], h2⟩
    · obtain ⟨i, hi⟩ := List.getElem?_of_mem hr
      obtain ⟨hi', rfl⟩ := hget i r hi
      obtain ⟨_, _, _, _, h3⟩ := hf i hi'
      exact h3
/-- An argument that is a grid. -/
theorem grid_arg {W : World} {r : Reach} {b0 b1 : Nat} {sp : Nat → Bool} {hd : Bool} {t i s e1 e2 : TypeId} {f0 f1 f2 f3 f4 : Field} {v : Value} {d : DataW H} {pl : List MemPlace} (ht : P.underlying t = some (.struct #[f0, f1, f2, f3, f4]))
    (o0 : f0.offset = 0 ∧ f0.type = i) (o1 : f1.offset = 1 ∧ f1.type = i) (o2 : f2.offset = 2 ∧ f2.type = i) (o3 : f3.offset = 3 ∧ f3.type = i) (o4 : f4.offset = 4 ∧ f4.type = s) (hi : flatOf P 20 i = some [.i]) (hi1 : P.cellsOf i = 1) (hsc : P.cellsOf s = 1) (ht5 : P.cellsOf t = 5)
    (hs : P.underlying s = some (.slice e1)) (hs1 : P.cellsOf e1 = 1) (he1 : P.underlying e1 = some (.slice e2)) (hus : flatOf P 20 e2 = some [.i, .i, .i]) (hc2 : P.cellsOf e2 = 3)
    (hv : Value.okWide P W r b0 t v) (hlt : ∀ p ∈ pl, p.block < W.heap.size) (h : DataW.Trod enc P W b1 sp hd t v d pl) :
    ∃ (X Z Wd D : Int) (A : Option Addr) (rows : List (List V3)) (cap : Nat), v = .agg #[.int .i64 X, .int .i64 Z, .int .i64 Wd, .int .i64 D, .slice A rows.length cap] ∧ RowsAt W W.heap.size A rows ∧ lensOk rows := by
  obtain ⟨m, hm⟩ := h
  have hva : v = .agg v.cells := by
    unfold Value.okWide at hv
    rw [ht] at hv
    obtain ⟨cs, rfl, _⟩ := hv; rfl
  obtain ⟨xs, n, _, hx, hcl, hxl, hf⟩ := DataW.trod_struct ht hm
  have hpl : pl = xs.flatMap (·.2) := by have := congrArg Prod.snd hx; simpa using this
  rw [ht5] at hcl
  obtain ⟨cs, hcs⟩ : ∃ cs, v.cells.toList = cs := ⟨_, rfl⟩
  have hva2 : v = .agg cs.toArray := by rw [← hcs, Array.toArray_toList]; exact hva
  rw [hcs] at hcl hf
  have hmem : ∀ y ∈ xs, ∀ p ∈ y.2, p.block < W.heap.size := fun y hy p hp => hlt p (by rw [hpl]; exact List.mem_flatMap.2 ⟨y, hy, hp⟩)
  clear hx hpl hcs
  match cs, hcl, xs, hxl, hf, hmem, hva2 with
  | [c0, c1, c2, c3, c4], _, [y0, y1, y2, y3, y4], _, hf, hmem, hva2 =>
    have h0 := hf 0 f0 rfl
    have h1 := hf 1 f1 rfl
    have h2 := hf 2 f2 rfl
    have h3 := hf 3 f3 rfl
    have h4 := hf 4 f4 rfl
    rw [o0.1, o0.2, hi1] at h0
    rw [o1.1, o1.2, hi1] at h1
    rw [o2.1, o2.2, hi1] at h2
    rw [o3.1, o3.2, hi1] at h3
    rw [o4.1, o4.2, hsc] at h4
    obtain ⟨⟨X, _, e0, _⟩, _⟩ := flatOf_ok 20 i _ hi n _ _ h0
    obtain ⟨⟨Z, _, e1', _⟩, _⟩ := flatOf_ok 20 i _ hi n _ _ h1
    obtain ⟨⟨Wd, _, e2', _⟩, _⟩ := flatOf_ok 20 i _ hi n _ _ h2
    obtain ⟨⟨D, _, e3, _⟩, _⟩ := flatOf_ok 20 i _ hi n _ _ h3
    obtain ⟨A, rows, cap, e4, hr, hl⟩ := rows_raw (d := y4.1) (pl := y4.2) hs hs1 he1 hus hc2 (hmem y4 (by simp)) h4
    obtain rfl : c0 = .int .i64 X := (List.cons.inj e0).1
    obtain rfl : c1 = .int .i64 Z := (List.cons.inj e1').1
    obtain rfl : c2 = .int .i64 Wd := (List.cons.inj e2').1
    obtain rfl : c3 = .int .i64 D := (List.cons.inj e3).1
    subst e4
    exact ⟨X, Z, Wd, D, A, rows, cap, hva2, hr, hl⟩
end Go.Sx
