/- Rows of items, of Booleans, of numbers: how a slice that came in reads. No conditions. -/
import Derived.Test.YtdamcbpjefjolaaV3
import Derived.Test.YtdamcbpjefjolaaSxLaw2
namespace Go.Proofs.Ytdamcbpjefjolaa
open Go Go.RowKit Go.Sx
/-- A row of floors, out of a row of numbers. -/
def v3s (xs : List Value) : List V3 := (List.range (xs.length / 3)).map fun k => ⟨intOf (xs.getD (k * 3) .nilIface), intOf (xs.getD (k * 3 + 1) .nilIface), intOf (xs.getD (k * 3 + 2) .nilIface)⟩
theorem v3s_ok {B : Nat} {w : World} {v : Value} {xs : List Value} (h : InVal B w v xs [.i, .i, .i]) : ∃ A c, v = .slice A (v3s xs).length c ∧ Reads w B 3 A (v3s xs).length (vcs (v3s xs)) := by
  obtain ⟨A, len, c, rfl, hl, hc, ht⟩ := h
  have hl3 : xs.length = len * 3 := hl
  have hn : (v3s xs).length = len := by simp [v3s, hl3]
  have he : vcs (v3s xs) = xs := by
    refine List.ext_getElem? fun q => ?_
    by_cases hq : q < len * 3
    · have hj : q / 3 < len := by omega
      obtain ⟨n0, r0, e0, n1, r1, e1, n2, r2, e2, e3⟩ : ∃ n0 r0, (xs.drop (q / 3 * 3)).take 3 = .int .i64 n0 :: r0 ∧ ∃ n1 r1, r0 = .int .i64 n1 :: r1 ∧ ∃ n2 r2, r1 = .int .i64 n2 :: r2 ∧ r2 = [] := ht (q / 3) hj
      subst e3 e2 e1
      have g : ∀ m, m < 3 → xs[q / 3 * 3 + m]? = [Value.int .i64 n0, .int .i64 n1, .int .i64 n2][m]? := fun m hm => by
        rw [← e0, List.getElem?_take_of_lt hm, List.getElem?_drop]
      have g0 := g 0 (by omega)
      have g1 := g 1 (by omega)
      have g2 := g 2 (by omega)
      have hv : (v3s xs)[q / 3]'(by rw [hn]; exact hj) = ⟨n0, n1, n2⟩ := by
        simp only [v3s, List.getElem_map, List.getElem_range, List.getD_eq_getElem?_getD]
        rw [Nat.add_zero] at g0
        rw [g0, g1, g2]; rfl
      obtain ⟨v0, v1, v2⟩ := vcs_get (v3s xs) (q / 3) (by rw [hn]; exact hj)
      rw [hv] at v0 v1 v2
      have hm : q % 3 = 0 ∨ q % 3 = 1 ∨ q % 3 = 2 := by omega
      rcases hm with hm | hm | hm
      · have e : q = q / 3 * 3 + 0 := by omega
        rw [e, g0, Nat.add_zero, v0]; rfl
      · have e : q = q / 3 * 3 + 1 := by omega
        rw [e, g1, v1]; rfl
      · have e : q = q / 3 * 3 + 2 := by omega
        rw [e, g2, v2]; rfl
    · rw [List.getElem?_eq_none (by rw [vcs_length, hn]; omega), List.getElem?_eq_none (by omega)]
  rw [hn, he]
  exact ⟨A, c, rfl, hl3, fun h0 => hc h0⟩
def ics (l : List Int) : List Value := l.map (Value.int .i64)
def bcs1 (l : List Bool) : List Value := l.map Value.bool
theorem ics_at {w : World} {B : Nat} {A : Option Addr} {l : List Int} (h : Reads w B 1 A l.length (ics l)) {k : Nat} (hk : k < l.length) : ∃ ad, A = some ad ∧ ad.block < B ∧ w.cell? (ad.add k) = some (.int .i64 l[k]) := by
  obtain ⟨ad, u, e, hb, hu, hc⟩ := h.at_ hk
  refine ⟨ad, e, hb, ?_⟩
  rw [hc, ← hu]
  simp [ics, hk]
theorem bcs_at {w : World} {B : Nat} {A : Option Addr} {l : List Bool} (h : Reads w B 1 A l.length (bcs1 l)) {k : Nat} (hk : k < l.length) : ∃ ad, A = some ad ∧ ad.block < B ∧ w.cell? (ad.add k) = some (.bool l[k]) := by
  obtain ⟨ad, u, e, hb, hu, hc⟩ := h.at_ hk
  refine ⟨ad, e, hb, ?_⟩
  rw [hc, ← hu]
  simp [bcs1, hk]
/-- A row of Booleans that came in. -/
theorem b1_ok {B : Nat} {w : World} {v : Value} {xs : List Value} (h : InVal B w v xs [.b]) : ∃ A c bs, v = .slice A bs.length c ∧ xs = bcs1 bs ∧ Reads w B 1 A bs.length (bcs1 bs) := by
  obtain ⟨A, len, c, rfl, hl, hc, ht⟩ := h
  have hl1 : xs.length = len * 1 := hl
  have he : xs = bcs1 (xs.map boolOf) := by
    refine List.ext_getElem? fun q => ?_
    by_cases hq : q < len
    · obtain ⟨b, r, e, hr⟩ : ∃ b r, (xs.drop (q * 1)).take 1 = .bool b :: r ∧ r = [] := ht q hq
      have g : xs[q]? = some (.bool b) := by
        have := congrArg (fun l => l[0]?) e
        simpa [List.getElem?_take, List.getElem?_drop] using this
      simp [bcs1, g, boolOf]
    · rw [List.getElem?_eq_none (by omega), List.getElem?_eq_none (by simp [bcs1]; omega)]
  have hn : (xs.map boolOf).length = len := by simp; omega
  refine ⟨A, c, xs.map boolOf, by rw [hn], he, ?_⟩
  rw [hn, ← he]
  exact ⟨hl1, fun h0 => hc h0⟩
end Go.Proofs.Ytdamcbpjefjolaa
