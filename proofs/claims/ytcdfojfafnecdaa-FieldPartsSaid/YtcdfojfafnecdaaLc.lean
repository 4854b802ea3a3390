/- Grids that may be; a floor is linked with at most one of a column. No conditions. -/
import Derived.Test.YtcdfojfafnecdaaLb
import Derived.Test.YtcdfojfafnecdaaLi
namespace Go.Proofs.Ytcdfojfafnecdaa
open Go Go.RowKit Go.Sx
def floorOk (p : Int) (f : V3) : Prop := p ≤ f.x ∧ f.x ≤ 2048 ∧ f.x < f.y ∧ f.y ≤ 1048576 ∧ 0 ≤ f.z ∧ f.z ≤ 7
def lastOf (l : List V3) (k : Nat) : Int := if k = 0 then -2048 else match l[k - 1]? with
  | some f => f.y
  | none => 0
def rowOk (l : List V3) : Prop := (∀ k (f : V3), l[k]? = some f → floorOk (lastOf l k) f) ∧ l.length ≤ 8
def gridOk (X Z W D : Int) (rows : List (List V3)) : Prop := -64 ≤ X ∧ X ≤ 64 ∧ -64 ≤ Z ∧ Z ≤ 64 ∧ 0 ≤ W ∧ W ≤ 64 ∧ 0 ≤ D ∧ D ≤ 64 ∧ (rows.length : Int) = W * D ∧ ∀ r ∈ rows, rowOk r
theorem lastOf_succ {l : List V3} {k : Nat} {f : V3} (h : l[k]? = some f) : lastOf l (k + 1) = f.y := by simp [lastOf, h]
theorem rowOk_sorted {l : List V3} (h : rowOk l) : ∀ {j i : Nat} {f g : V3}, i < j → l[i]? = some f → l[j]? = some g → f.y ≤ g.x
  | 0, _, _, _, hij, _, _ => by omega
  | j + 1, i, f, g, hij, hf, hg => by
    have hlt : j + 1 < l.length := (List.getElem?_eq_some_iff.1 hg).1
    have hm : l[j]? = some l[j] := List.getElem?_eq_getElem (by omega)
    have h1 := (h.1 (j + 1) g hg).1
    rw [lastOf_succ hm] at h1
    by_cases hi : i = j
    · subst hi
      rw [hm] at hf
      injection hf with hf
      rw [← hf]; exact h1
    · have h2 := rowOk_sorted h (by omega : i < j) hf hm
      have h3 := (h.1 j _ hm).2.2.1
      omega
theorem rowOk_low {l : List V3} (h : rowOk l) {k : Nat} {f : V3} (hf : l[k]? = some f) : -2048 ≤ f.x := by
  have h1 := (h.1 k f hf).1
  cases k with
  | zero => simpa [lastOf] using h1
  | succ k =>
    have hlt : k + 1 < l.length := (List.getElem?_eq_some_iff.1 hf).1
    have hm : l[k]? = some l[k] := List.getElem?_eq_getElem (by omega)
    rw [lastOf_succ hm] at h1
    have h2 := rowOk_low h hm
    have h3 := (h.1 k _ hm).2.2.1
    omega
theorem linked_comm (c1 c2 c3 c4 c5 c6 c7 aY aT aA bY bT bA : Int) : linkedF c1 c2 c3 c4 c5 c6 c7 aY aT aA bY bT bA = linkedF c1 c2 c3 c4 c5 c6 c7 bY bT bA aY aT aA := by
  rw [linkedF_eq, linkedF_eq, Int.max_comm (w64 (bY - aY)), Int.min_comm bT aT, Int.max_comm bY aY]
  generalize (decide (aY < -1099511627776) || decide (1099511627776 < aY)) = p
  generalize (decide (aT < -1099511627776) || decide (1099511627776 < aT)) = q
  generalize (decide (bY < -1099511627776) || decide (1099511627776 < bY)) = r
  generalize (decide (bT < -1099511627776) || decide (1099511627776 < bT)) = s
  generalize decide (0 < aA) = t
  generalize decide (0 < bA) = u
  cases p <;> cases q <;> cases r <;> cases s <;> cases t <;> cases u <;> simp
theorem check_climb {a b c d e f g : Int} (h : checkF a b c d e f g = 0) : 0 ≤ b ∧ b < c ∧ c ≤ 32 := by
  rw [checkF_eq, wInF_eq, wInF_eq] at h
  by_cases h1 : (!(a == min (max a 0) 3)) = true
  · rw [h1, cond_true] at h; cases h
  · rw [Bool.not_eq_true] at h1
    rw [h1, cond_false] at h
    by_cases h2 : (!(b == min (max b 0) 8)) = true
    · rw [h2, cond_true] at h; cases h
    · rw [Bool.not_eq_true] at h2
      rw [h2, cond_false] at h
      by_cases h3 : c ≤ b
      · rw [decide_eq_true h3, cond_true] at h; cases h
      · rw [decide_eq_false h3, cond_false] at h
        by_cases h4 : 32 < c
        · rw [decide_eq_true h4, cond_true] at h; cases h
        · simp only [Bool.not_eq_false', beq_iff_eq] at h2
          omega
theorem linked_facts {c1 c2 c3 c4 c5 c6 c7 aY aT aA bY bT bA : Int} (h : linkedF c1 c2 c3 c4 c5 c6 c7 aY aT aA bY bT bA = true) :
    checkF c1 c2 c3 c4 c5 c6 c7 = 0 ∧ aY - bY ≤ c2 ∧ bY - aY ≤ c2 ∧ c3 ≤ aT - aY ∧ c3 ≤ aT - bY ∧ c3 ≤ bT - aY ∧ c3 ≤ bT - bY ∧ 0 ≤ c2 ∧ c2 < c3 := by
  rw [linkedF_eq] at h
  by_cases h1 : (decide (aY < -1099511627776) || decide (1099511627776 < aY)) = true
  · rw [h1, cond_true] at h; cases h
  rw [Bool.not_eq_true] at h1
  rw [h1, cond_false] at h
  by_cases h2 : (decide (aT < -1099511627776) || decide (1099511627776 < aT)) = true
  · rw [h2, cond_true] at h; cases h
  rw [Bool.not_eq_true] at h2
  rw [h2, cond_false] at h
  by_cases h3 : (decide (bY < -1099511627776) || decide (1099511627776 < bY)) = true
  · rw [h3, cond_true] at h; cases h
  rw [Bool.not_eq_true] at h3
  rw [h3, cond_false] at h
  by_cases h4 : (decide (bT < -1099511627776) || decide (1099511627776 < bT)) = true
  · rw [h4, cond_true] at h; cases h
  rw [Bool.not_eq_true] at h4
  rw [h4, cond_false] at h
  simp only [Bool.or_eq_false_iff, decide_eq_false_iff_not] at h1 h2 h3 h4
  simp only [Bool.and_eq_true, decide_eq_true_eq, beq_iff_eq] at h
  obtain ⟨⟨⟨⟨hc, _⟩, _⟩, h5⟩, h6⟩ := h
  have e1 : w64 (aY - bY) = aY - bY := by rw [w64_id] <;> omega
  have e2 : w64 (bY - aY) = bY - aY := by rw [w64_id] <;> omega
  have e3 : w64 (min aT bT - max aY bY) = min aT bT - max aY bY := by rw [w64_id] <;> omega
  rw [e1, e2] at h5
  rw [e3] at h6
  have hcl := check_climb hc
  refine ⟨hc, ?_⟩
  omega
/-- Whether floors are linked. -/
noncomputable def lkF (c1 c2 c3 c4 c5 c6 c7 : Int) (a b : V3) : Bool := linkedF c1 c2 c3 c4 c5 c6 c7 a.x a.y a.z b.x b.y b.z
theorem lkF_comm (c1 c2 c3 c4 c5 c6 c7 : Int) (a b : V3) : lkF c1 c2 c3 c4 c5 c6 c7 a b = lkF c1 c2 c3 c4 c5 c6 c7 b a := linked_comm ..
theorem lkF_one {c1 c2 c3 c4 c5 c6 c7 : Int} {l : List V3} (h : rowOk l) {a f g : V3} {i j : Nat} (hf : l[i]? = some f) (hg : l[j]? = some g) (h1 : lkF c1 c2 c3 c4 c5 c6 c7 a f = true) (h2 : lkF c1 c2 c3 c4 c5 c6 c7 a g = true) : i = j := by
  have f1 := linked_facts h1
  have f2 := linked_facts h2
  rcases Nat.lt_trichotomy i j with hij | hij | hij
  · have := rowOk_sorted h hij hf hg
    omega
  · exact hij
  · have := rowOk_sorted h hij hg hf
    omega
/-- A column's floors. -/
def colOf (X Z W D : Int) (rows : List (List V3)) (x z : Int) : List V3 :=
  if x < X ∨ W ≤ x - X ∨ z < Z ∨ D ≤ z - Z then [] else rows.getD (((z - Z) * W + x - X).toNat) []
theorem colOf_ok {X Z W D : Int} {rows : List (List V3)} (h : gridOk X Z W D rows) (x z : Int) : rowOk (colOf X Z W D rows x z) := by
  have he : rowOk [] := ⟨by simp, by simp⟩
  unfold colOf
  split
  · exact he
  · rw [List.getD_eq_getElem?_getD]
    cases hr : rows[((z - Z) * W + x - X).toNat]? with
    | none => exact he
    | some r => exact h.2.2.2.2.2.2.2.2.2 r (List.mem_of_getElem? hr)
theorem index_ok {X Z W D x z : Int} (hW : 0 ≤ W) (h1 : X ≤ x) (h2 : x - X < W) (h3 : Z ≤ z) (h4 : z - Z < D) : 0 ≤ (z - Z) * W + x - X ∧ (z - Z) * W + x - X < W * D := by
  have a1 : 0 ≤ (z - Z) * W := Int.mul_nonneg (by omega) hW
  have a2 : (z - Z) * W ≤ (D - 1) * W := Int.mul_le_mul_of_nonneg_right (by omega) hW
  have a3 : (D - 1) * W = W * D - W := by rw [Int.sub_mul, Int.one_mul, Int.mul_comm]
  omega
end Go.Proofs.Ytcdfojfafnecdaa
