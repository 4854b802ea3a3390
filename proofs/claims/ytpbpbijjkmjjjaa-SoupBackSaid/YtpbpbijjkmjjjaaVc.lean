/- A law's row: arguments that are soups: rows of triangles, of boxes, of hops. No conditions. -/
import Derived.Test.YtpbpbijjkmjjjaaSxLaw2
import Derived.Test.YtpbpbijjkmjjjaaUs
namespace Go.Sx
open Go Go.RowKit Go.WideShapes Go.ChangeShapes Go.Proofs.Ytpbpbijjkmjjjaa
variable {H : Type} {enc : TypeId × Value → H} {P : Program}
theorem rows_of {α : Type} {cs : α → List Value} {K : Nat} : ∀ (n : Nat) (xs : List Value), xs.length = n * K → (∀ k, k < n → ∃ x : α, cs x = (xs.drop (k * K)).take K) → ∃ l : List α, l.length = n ∧ fl cs l = xs
  | 0, xs, h, _ => ⟨[], rfl, by rw [Nat.zero_mul] at h; rw [List.length_eq_zero_iff.1 h]; rfl⟩
  | n + 1, xs, h, hx => by
    obtain ⟨x, e⟩ := hx 0 (by omega)
    rw [Nat.zero_mul, List.drop_zero] at e
    obtain ⟨l, h1, h2⟩ := rows_of (cs := cs) (K := K) n (xs.drop K) (by rw [List.length_drop, h, Nat.add_mul, Nat.one_mul, Nat.add_sub_cancel]) (fun k hk => by
      obtain ⟨y, hy⟩ := hx (k + 1) (by omega)
      exact ⟨y, by rw [hy, List.drop_drop]; rw [Nat.add_mul, Nat.one_mul, Nat.add_comm]⟩)
    exact ⟨x :: l, by simp [h1], by rw [fl_cons, h2, e, List.take_append_drop]⟩
theorem inval_rows {α : Type} {cs : α → List Value} {us : List Ty} (ho : ∀ l, typed us l → ∃ x : α, cs x = l) {B : Nat} {w : World} {v : Value} {xs : List Value} (h : InVal B w v xs us) : ∃ A c, ∃ l : List α, v = .slice A l.length c ∧ Reads w B us.length A l.length (fl cs l) := by
  obtain ⟨A, len, c, rfl, hl, hc, ht⟩ := h
  obtain ⟨l, h1, h2⟩ := rows_of (cs := cs) (K := us.length) len xs hl (fun k hk => ho _ (ht k hk))
  exact ⟨A, c, l, by rw [h1], by rw [h1, h2]; exact ⟨hl, fun h0 => hc h0⟩⟩
theorem t10_of : ∀ l, typed [.i, .i, .i, .i, .i, .i, .i, .i, .i, .i] l → ∃ x : T10, T10.cs x = l := by
  rintro l ⟨n0, _, rfl, n1, _, rfl, n2, _, rfl, n3, _, rfl, n4, _, rfl, n5, _, rfl, n6, _, rfl, n7, _, rfl, n8, _, rfl, n9, _, rfl, rfl⟩
  exact ⟨⟨n0, n1, n2, n3, n4, n5, n6, n7, n8, n9⟩, rfl⟩
theorem b8_of : ∀ l, typed [.i, .i, .i, .i, .i, .i, .i, .i] l → ∃ x : B8, B8.cs x = l := by
  rintro l ⟨n0, _, rfl, n1, _, rfl, n2, _, rfl, n3, _, rfl, n4, _, rfl, n5, _, rfl, n6, _, rfl, n7, _, rfl, rfl⟩
  exact ⟨⟨n0, n1, n2, n3, n4, n5, n6, n7⟩, rfl⟩
theorem h10_of : ∀ l, typed [.i, .i, .i, .i, .i, .i, .i, .b, .i, .i] l → ∃ x : H10, H10.cs x = l := by
  rintro l ⟨n0, _, rfl, n1, _, rfl, n2, _, rfl, n3, _, rfl, n4, _, rfl, n5, _, rfl, n6, _, rfl, n7, _, rfl, n8, _, rfl, n9, _, rfl, rfl⟩
  exact ⟨⟨n0, n1, n2, n3, n4, n5, n6, n7, n8, n9⟩, rfl⟩
/-- A value that is a slice of flat elements. -/
theorem slice_raw {W : World} {b1 m : Nat} {sp : Nat → Bool} {hd : Bool} {t e : TypeId} {v : Value} {d : DataW H} {pl : List MemPlace} {us : List Ty} (ht : P.underlying t = some (.slice e)) (hus : flatOf P 20 e = some us) (hc : P.cellsOf e = us.length) (hpos : 0 < us.length)
    (hlt : ∀ p ∈ pl, p.block < W.heap.size) (hm : DataW.trod enc P W b1 sp hd m t [v] = some (d, pl)) : ∃ xs : List Value, InVal W.heap.size W v xs us ∧ xs.length / us.length ≤ 9223372036854775807 ∧ (∀ k, k < xs.length / us.length → bounded ((xs.drop (k * us.length)).take us.length)) := by
  have hmax : maxLen = 9223372036854775807 := rfl
  rcases Deep.open_slice ht hm with ⟨hcs, hx⟩ | ⟨a, len, cap, m', n, D, Pl, hcs, hb, hl, hcm, hmm, hx, hel⟩
  · obtain rfl : v = .slice none 0 0 := by simpa using hcs
    exact ⟨[], ⟨none, 0, 0, rfl, by simp, fun h => absurd h (by omega), fun k hk => absurd hk (by omega)⟩, by simp, fun k hk => absurd hk (by simp)⟩
  · obtain rfl : v = .slice (some a) len cap := by simpa using hcs
    have hlm : len ≤ m' := by rw [hmm]; split <;> omega
    have hpl : pl = MemPlace.row a (m' * P.cellsOf e) ++ (List.range m').flatMap Pl := by
      have := congrArg Prod.snd hx; simpa using this
    have key : ∀ i, i < len → ∃ cs', cs'.length = us.length ∧ typed us cs' ∧ bounded cs' ∧ ∀ q, q < us.length → W.cell? (a.add (i * us.length + q)) = cs'[q]? := by
      intro i hi
      obtain ⟨cs', h1, h2⟩ := hel i (by omega)
      obtain ⟨_, h4, h5⟩ := World.cells?_some h1
      obtain ⟨t1, t2⟩ := flatOf_ok 20 e us hus n _ _ h2
      refine ⟨cs', by rw [h4, hc], t1, t2, fun q hq => ?_⟩
      have := h5 q (by rw [hc]; exact hq)
      rw [hc, add_add'] at this
      exact this
    let xs : List Value := (List.range (len * us.length)).map fun j => (W.cell? (a.add j)).getD .nilIface
    have hxl : xs.length = len * us.length := by simp [xs]
    have hcut : ∀ i cs', i < len → cs'.length = us.length → (∀ q, q < us.length → W.cell? (a.add (i * us.length + q)) = cs'[q]?) → (xs.drop (i * us.length)).take us.length = cs' := by
      intro i cs' hi hcl hq
      have hle : i * us.length + us.length ≤ len * us.length := by rw [← Nat.succ_mul]; exact Nat.mul_le_mul_right _ hi
      refine List.ext_getElem ?_ fun q h1 h2 => ?_
      · simp only [List.length_take, List.length_drop, hxl, hcl]; omega
      · have hq' : q < us.length := by rw [hcl] at h2; exact h2
        have := hq q hq'
        rw [List.getElem?_eq_getElem h2] at this
        simp [xs, List.getElem_take, List.getElem_drop, this]
    refine ⟨xs, ⟨some a, len, cap, rfl, hxl, fun h0 => ⟨a, rfl, ?_, fun j u hj => ?_⟩, fun k hk => ?_⟩, ?_, fun k hk => ?_⟩
    · refine hlt (.cell a.block (a.off + 0)) ?_
      rw [hpl]
      refine List.mem_append_left _ ?_
      refine List.mem_map.2 ⟨0, ?_, rfl⟩
      rw [List.mem_range, hc]
      exact Nat.mul_pos (by omega) hpos
    · have hjl : j < len * us.length := by
        have := (List.getElem?_eq_some_iff.1 hj).1
        rw [hxl] at this; exact this
      have hi : j / us.length < len := Nat.div_lt_of_lt_mul (by rw [Nat.mul_comm]; exact hjl)
      obtain ⟨cs', c1, _, _, c4⟩ := key _ hi
      have := c4 (j % us.length) (Nat.mod_lt _ hpos)
      rw [Nat.mul_comm, Nat.div_add_mod] at this
      have hlt2 : j % us.length < cs'.length := by rw [c1]; exact Nat.mod_lt _ hpos
      rw [List.getElem?_eq_getElem hlt2] at this
      have e2 : xs[j]? = some ((W.cell? (a.add j)).getD .nilIface) := by
        simp [xs, hjl]
      rw [e2, this] at hj
      rw [this]
      simpa using hj
    · obtain ⟨cs', c1, c2, _, c4⟩ := key k hk
      rw [hcut k cs' hk c1 c4]; exact c2
    · rw [hxl, Nat.mul_div_cancel _ hpos]; omega
    · rw [hxl, Nat.mul_div_cancel _ hpos] at hk
      obtain ⟨cs', c1, _, c3, c4⟩ := key k hk
      rw [hcut k cs' hk c1 c4]; exact c3

/-- An argument that is a soup. -/
theorem soup_arg {W : World} {r : Reach} {b0 b1 : Nat} {sp : Nat → Bool} {hd : Bool} {t s0 s1 s2 e0 e1 e2 : TypeId} {f0 f1 f2 : Field} {v : Value} {d : DataW H} {pl : List MemPlace} (ht : P.underlying t = some (.struct #[f0, f1, f2]))
    (o0 : f0.offset = 0 ∧ f0.type = s0) (o1 : f1.offset = 1 ∧ f1.type = s1) (o2 : f2.offset = 2 ∧ f2.type = s2) (hc0 : P.cellsOf s0 = 1) (hc1 : P.cellsOf s1 = 1) (hc2 : P.cellsOf s2 = 1) (ht3 : P.cellsOf t = 3)
    (hs0 : P.underlying s0 = some (.slice e0)) (hs1 : P.underlying s1 = some (.slice e1)) (hs2 : P.underlying s2 = some (.slice e2))
    (hu0 : flatOf P 20 e0 = some [.i, .i, .i, .i, .i, .i, .i, .i, .i, .i]) (hu1 : flatOf P 20 e1 = some [.i, .i, .i, .i, .i, .i, .i, .i]) (hu2 : flatOf P 20 e2 = some [.i, .i, .i, .i, .i, .i, .i, .b, .i, .i])
    (hn0 : P.cellsOf e0 = 10) (hn1 : P.cellsOf e1 = 8) (hn2 : P.cellsOf e2 = 10)
    (hv : Value.okWide P W r b0 t v) (hlt : ∀ p ∈ pl, p.block < W.heap.size) (h : DataW.Trod enc P W b1 sp hd t v d pl) :
    ∃ (A1 A2 A3 : Option Addr) (c1 c2 c3 : Nat) (s : Soup), v = soupv A1 A2 A3 c1 c2 c3 s ∧ SoupAt W W.heap.size A1 A2 A3 s := by
  obtain ⟨m, hm⟩ := h
  have hva : v = .agg v.cells := by
    unfold Value.okWide at hv
    rw [ht] at hv
    obtain ⟨cs, rfl, _⟩ := hv; rfl
  obtain ⟨xs, n, _, hx, hcl, hxl, hf⟩ := DataW.trod_struct ht hm
  have hpl : pl = xs.flatMap (·.2) := by have := congrArg Prod.snd hx; simpa using this
  rw [ht3] at hcl
  obtain ⟨cs, hcs⟩ : ∃ cs, v.cells.toList = cs := ⟨_, rfl⟩
  have hva2 : v = .agg cs.toArray := by rw [← hcs, Array.toArray_toList]; exact hva
  rw [hcs] at hcl hf
  have hmem : ∀ y ∈ xs, ∀ p ∈ y.2, p.block < W.heap.size := fun y hy p hp => hlt p (by rw [hpl]; exact List.mem_flatMap.2 ⟨y, hy, hp⟩)
  clear hx hpl hcs
  match cs, hcl, xs, hxl, hf, hmem, hva2 with
  | [c0, c1, c2], _, [y0, y1, y2], _, hf, hmem, hva2 =>
    have h0 := hf 0 f0 rfl
    have h1 := hf 1 f1 rfl
    have h2 := hf 2 f2 rfl
    rw [o0.1, o0.2, hc0] at h0
    rw [o1.1, o1.2, hc1] at h1
    rw [o2.1, o2.2, hc2] at h2
    obtain ⟨_, i0, _, _⟩ := slice_raw (d := y0.1) (pl := y0.2) hs0 hu0 hn0 (by decide) (hmem y0 (by simp)) h0
    obtain ⟨_, i1, _, _⟩ := slice_raw (d := y1.1) (pl := y1.2) hs1 hu1 hn1 (by decide) (hmem y1 (by simp)) h1
    obtain ⟨_, i2, _, _⟩ := slice_raw (d := y2.1) (pl := y2.2) hs2 hu2 hn2 (by decide) (hmem y2 (by simp)) h2
    obtain ⟨A1, d1, l1, e1', r1⟩ := inval_rows t10_of i0
    obtain ⟨A2, d2, l2, e2', r2⟩ := inval_rows b8_of i1
    obtain ⟨A3, d3, l3, e3', r3⟩ := inval_rows h10_of i2
    exact ⟨A1, A2, A3, d1, d2, d3, ⟨l1, l2, l3⟩, by rw [hva2]; subst e1' e2' e3'; rfl, r1, r2, r3⟩
end Go.Sx
