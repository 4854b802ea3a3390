/- tri.Same tells whether the corners are the same, as often: by counting. No conditions. -/
import Derived.Test.YteneneadfpkahaaSame
namespace Go.Proofs.Yteneneadfpkahaa
open Go Go.RowKit
theorem lix_spec (v : V3) (l : List V3) : ∀ k : Nat, (lix v l k < 0 → ∀ i, i < k → l[i]? ≠ some v) ∧ (0 ≤ lix v l k → l[(lix v l k).toNat]? = some v ∧ (lix v l k).toNat < k)
  | 0 => ⟨fun _ i hi => by omega, fun h => by simp [lix] at h⟩
  | k + 1 => by
    obtain ⟨h1, h2⟩ := lix_spec v l k
    by_cases hk : l[k]? = some v
    · have e : lix v l (k + 1) = k := by simp [lix, hk]
      rw [e]
      exact ⟨fun h => by omega, fun _ => ⟨by simpa using hk, by omega⟩⟩
    · have e : lix v l (k + 1) = lix v l k := by simp [lix, hk]
      rw [e]
      refine ⟨fun h i hi => ?_, fun h => ⟨(h2 h).1, by have := (h2 h).2; omega⟩⟩
      by_cases hik : i = k
      · rw [hik]; exact hk
      · exact h1 h i (by omega)
theorem count_cut {v : V3} {m : List V3} {q : Nat} (h : m[q]? = some v) (u : V3) : m.count u = (m.take q ++ m.drop (q + 1)).count u + (if v = u then 1 else 0) := by
  obtain ⟨hq, hv⟩ := List.getElem?_eq_some_iff.1 h
  have e : m = m.take q ++ v :: m.drop (q + 1) := by
    conv => lhs; rw [← List.take_append_drop q m, List.drop_eq_getElem_cons hq, hv]
  conv => lhs; rw [e]
  simp only [List.count_append, List.count_cons, beq_iff_eq]
  omega
theorem sameL_count : ∀ (l m : List V3), sameL l m = true ↔ ∀ u, l.count u ≤ m.count u
  | [], m => by simp [sameL]
  | v :: vs, m => by
    obtain ⟨h1, h2⟩ := lix_spec v m m.length
    by_cases hn : lix v m m.length < 0
    · rw [sameL, if_pos hn]
      refine ⟨fun h => (by cases h), fun h => ?_⟩
      have hc := h v
      have h0 : m.count v = 0 := by
        rw [List.count_eq_zero]
        intro hm
        obtain ⟨i, hi⟩ := List.getElem?_of_mem hm
        exact h1 hn i (List.getElem?_eq_some_iff.1 hi).1 hi
      rw [h0, List.count_cons] at hc
      simp at hc
    · rw [sameL, if_neg hn, sameL_count vs]
      obtain ⟨h3, _⟩ := h2 (by omega)
      have hc := count_cut h3
      refine forall_congr' fun u => ?_
      rw [hc u, List.count_cons]
      simp only [beq_iff_eq]
      omega
theorem count3 (a b c u : V3) : List.count u [a, b, c] = (if a = u then 1 else 0) + (if b = u then 1 else 0) + (if c = u then 1 else 0) := by
  simp only [List.count_cons, List.count_nil, beq_iff_eq]
  omega
theorem sameL_turn (a b c : V3) : sameL [a, b, c] [b, c, a] = true := by
  rw [sameL_count]; intro u; rw [count3, count3]; omega
theorem sameL_swap (a b c : V3) : sameL [a, b, c] [b, a, c] = true := by
  rw [sameL_count]; intro u; rw [count3, count3]; omega
theorem sameL_self (a b c : V3) : sameL [a, b, c] [a, b, c] = true := by
  rw [sameL_count]; intro u; exact Nat.le_refl _
theorem count_eq : ∀ (l m : List V3), l.length = m.length → (∀ u, l.count u ≤ m.count u) → ∀ u, l.count u = m.count u
  | [], m, hl, _, u => by
    have : m = [] := List.eq_nil_of_length_eq_zero (by simpa using hl.symm)
    rw [this]
  | v :: vs, m, hl, h, u => by
    have hv := h v
    have hm : v ∈ m := by
      rw [← List.count_pos_iff]
      rw [List.count_cons] at hv
      simp at hv
      omega
    obtain ⟨q, hq⟩ := List.getElem?_of_mem hm
    have hc := count_cut hq
    have hql := (List.getElem?_eq_some_iff.1 hq).1
    have ih := count_eq vs (m.take q ++ m.drop (q + 1)) (by rw [List.length_append, List.length_take, List.length_drop]; simp at hl; omega) (fun u => by
      have := h u
      rw [hc u, List.count_cons] at this
      simp only [beq_iff_eq] at this
      omega) u
    rw [hc u, List.count_cons, ih]
    simp only [beq_iff_eq]
/-- The corners, whose order does not matter. -/
theorem sameL_iff (a b c p q r : V3) : sameL [a, b, c] [p, q, r] = true ↔ ∀ u, List.count u [a, b, c] = List.count u [p, q, r] := by
  rw [sameL_count]
  exact ⟨fun h => count_eq [a, b, c] [p, q, r] rfl h, fun h u => Nat.le_of_eq (h u)⟩
theorem sameL_iff3 (a b c p q r : V3) : sameL [a, b, c] [p, q, r] = true ↔ (List.count a [a, b, c] = List.count a [p, q, r] ∧ List.count b [a, b, c] = List.count b [p, q, r] ∧ List.count c [a, b, c] = List.count c [p, q, r]) := by
  rw [sameL_count]
  constructor
  · intro h
    have := count_eq [a, b, c] [p, q, r] rfl h
    exact ⟨this a, this b, this c⟩
  · rintro ⟨h1, h2, h3⟩ u
    by_cases ha : a = u
    · rw [← ha]; omega
    · by_cases hb : b = u
      · rw [← hb]; omega
      · by_cases hc : c = u
        · rw [← hc]; omega
        · rw [count3, if_neg ha, if_neg hb, if_neg hc]; omega
theorem sameL_comm (a b c p q r : V3) : sameL [a, b, c] [p, q, r] = sameL [p, q, r] [a, b, c] := by
  rw [Bool.eq_iff_iff, sameL_iff, sameL_iff]
  exact ⟨fun h u => (h u).symm, fun h u => (h u).symm⟩
end Go.Proofs.Yteneneadfpkahaa
