/- tri.Same tells whether the corners are the same, as often: by counting. No conditions. -/
import Derived.Test.YteneneadfpkahaaSame
namespace Go.Proofs.Yteneneadfpkahaa
open Go Go.RowKit
theorem lix_spec (v : V3) (l : List V3) : ∀ k : Nat, (lix v l k < 0 → ∀ i, i < k → l[i]? ≠ some v) ∧ (0 ≤ lix v l k → l[(lix v l k).toNat]? = some v ∧ (lix v l k).toNat < k)
  | 0 => ⟨fun _ i hi => by omega, fun h => by simp [lix] at h⟩
  | k + 1 => by
    obtain ⟨h1, h2⟩ := lix_spec v l k
    by_cases hk : l[k]? = some v
    · have e : lix v l (k + 1) = k := by simp [lix, hk]
      rw [e]
      exact ⟨fun h => by omega, fun _ => ⟨by simpa using hk, by omega⟩⟩
    · have e : lix v l (k + 1) = lix v l k := by simp [lix, hk]
      rw [e]
      refine ⟨fun h i hi => ?_, fun h => ⟨(h2 h).1, by have := (h2 h).2; omega⟩⟩
      by_cases hik : i = k
      · rw [hik]; exact hk
      · exact h1 h i (by omega)
theorem count_cut {v : V3} {m : List V3} {q : Nat} (h : m[q]? = some v) (u : V3) : m.count u = (m.take q ++ m.drop (q + 1)).count u + (if v = u then 1 else 0) := by
  obtain ⟨hq, hv⟩ := List.getElem?_eq_some_iff.1 h
  have e : m = m.take q ++ v :: m.drop (q + 1) := by
    conv => lhs; rw [← List.take_append_drop q m, List.drop_eq_getElem_cons hq, hv]
  conv => lhs; rw [e]
  simp only [List.count_append, List.count_cons, beq_iff_eq]
  omega
theorem sameL_count : ∀ (l m : List V3), sameL l m = true ↔ ∀ u, l.count u ≤ m.count u
  | [], m => by simp [sameL]
  | v :: vs, m => by
    obtain ⟨h1, h2⟩ := lix_spec v m m.length
    by_cases hn : lix v m m.length < 0
    · rw [sameL, if_pos hn]
      refine ⟨fun h => (by cases h), fun h => ?_⟩
      have hc := h v
      have h0 : m.count v = 0 := by
        rw [List.count_eq_zero]
        intro hm
        obtain ⟨i, hi⟩ := List.getElem?_of_mem hm
        exact h1 hn i (List.getElem?_eq_some_iff.1 hi).1 hi
      rw [h0, List.count_cons] at hc
      simp at hc
    · rw [sameL, if_neg hn, sameL_count vs]
      obtain ⟨h3, _⟩ := h2 (by omega)
      have hc := count_cut h3
      refine forall_congr' fun u => ?_
      rw [hc u, List.count_cons]
      simp only [beq_iff_eq]
      omega
theorem count3 (a b c u : V3) : List.count u [a, b, c] = (if a = u then 1 else 0) + (if b = u then 1 else 0) + (if c = u then 1 else 0) := by
  simp only [List.count_cons, List.count_nil, beq_iff_eq]
  omega
theorem sameL_turn (a b c : V3) : sameL [a, b, c] [b, c, a] = true := by
  rw [sameL_count]; intro u; rw [count3, count3]; omega
theorem sameL_swap (a b c : V3) : sameL [a, b, c] [b, a, c] = true := by
  rw [sameL_count]; intro u; rw [count3, count3]; omega
theorem sameL_self (a b c : V3) : sameL [a, b, c] [a, b, c] = true := by
  rw [sameL_count]; intro u; exact Nat.le_refl _
end Go.Proofs.Yteneneadfpkahaa
