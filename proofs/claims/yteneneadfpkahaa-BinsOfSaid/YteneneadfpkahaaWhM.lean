/- The plain laws of floors, ceilings, rests, crosses and roots. No conditions. -/
import Derived.Test.YteneneadfpkahaaWh
namespace Go.Proofs.Yteneneadfpkahaa
open Go Go.RowKit Go.Sx
theorem mul_abs_le {x y X Y : Int} (h1 : -X ≤ x) (h2 : x ≤ X) (h3 : -Y ≤ y) (h4 : y ≤ Y) : -(X * Y) ≤ x * y ∧ x * y ≤ X * Y := by
  have hX : 0 ≤ X := by omega
  have hY : 0 ≤ Y := by omega
  have a1 : x.natAbs ≤ X.natAbs := by omega
  have a2 : y.natAbs ≤ Y.natAbs := by omega
  have a3 : x.natAbs * y.natAbs ≤ X.natAbs * Y.natAbs := Nat.mul_le_mul a1 a2
  rw [← Int.natAbs_mul, ← Int.natAbs_mul] at a3
  have a4 := Int.mul_nonneg hX hY
  omega
theorem cl61_eq (n : Int) : wInF n (-2305843009213693952) 2305843009213693952 = cl61 n := by rw [wInF_eq]; rfl
theorem rcl61_eq (n : Int) : rInF n (-2305843009213693952) 2305843009213693952 = cl61 n := by rw [rInF_eq]; rfl
theorem cl61_le (n : Int) : -2305843009213693952 ≤ cl61 n ∧ cl61 n ≤ 2305843009213693952 := by unfold cl61; omega
theorem cl61_id {n : Int} (h : -2305843009213693952 ≤ n) (h2 : n ≤ 2305843009213693952) : cl61 n = n := by unfold cl61; omega
theorem cl61_cl (n : Int) : cl61 (cl61 n) = cl61 n := cl61_id (cl61_le n).1 (cl61_le n).2
theorem cl61_neg (n : Int) : cl61 (-cl61 n) = -cl61 n := by have := cl61_le n; exact cl61_id (by omega) (by omega)
theorem inb (a lo hi : Int) (h : lo ≤ hi) : (!(a == wInF a lo hi)) = (decide (a < lo) || decide (hi < a)) := by
  rw [wInF_eq, Bool.eq_iff_iff]
  simp
  omega
theorem cond_or' {α : Type} (p q : Bool) (x y : α) : (bif (p || q) then x else y) = bif p then x else bif q then x else y := by cases p <;> rfl

theorem fl_key (a b : Int) (hb : 0 < b) : Int.tdiv (a - Int.tmod (Int.tmod a b + b) b) b = a / b := by
  have h1 : 0 ≤ Int.tmod a b + b := by
    have := Int.lt_tmod_of_pos a hb
    omega
  have h2 : Int.tmod (Int.tmod a b + b) b = a % b := by
    rw [Int.tmod_eq_emod_of_nonneg h1, Int.tmod_def, Int.add_emod_right, Int.sub_mul_emod_self_left]
  rw [h2]
  have h3 : a - a % b = b * (a / b) := by have := Int.mul_ediv_add_emod a b; omega
  rw [h3, Int.mul_tdiv_cancel_left _ (by omega)]
theorem ediv_bd (a b X : Int) (hb : 0 < b) (h1 : -X ≤ a) (h2 : a ≤ X) : -X ≤ a / b ∧ a / b ≤ X := by
  have hX : 0 ≤ X := by omega
  refine ⟨?_, ?_⟩
  · apply Int.le_ediv_of_mul_le hb
    have : X * 1 ≤ X * b := Int.mul_le_mul_of_nonneg_left (by omega) hX
    rw [Int.neg_mul]; omega
  · by_cases h : 0 ≤ a
    · have := Int.ediv_le_self b h; omega
    · have := Int.ediv_neg_of_neg_of_pos (by omega : a < 0) hb; omega
theorem fl_key64 (a b : Int) (hb : 0 < b) (hb2 : b ≤ 2305843009213693952) (h1 : -2305843009213693952 ≤ a) (h2 : a ≤ 2305843009213693952) :
    w64 (Int.tdiv (w64 (a - Int.tmod (w64 (Int.tmod a b + b)) b)) b) = a / b := by
  have h3 := Int.lt_tmod_of_pos a hb
  have h4 := Int.tmod_lt_of_pos a hb
  have h5 : w64 (Int.tmod a b + b) = Int.tmod a b + b := by rw [w64_id] <;> omega
  rw [h5]
  have h6 := Int.lt_tmod_of_pos (Int.tmod a b + b) hb
  have h7 := Int.tmod_lt_of_pos (Int.tmod a b + b) hb
  have h8 : w64 (a - Int.tmod (Int.tmod a b + b) b) = a - Int.tmod (Int.tmod a b + b) b := by rw [w64_id] <;> omega
  rw [h8, fl_key a b hb]
  have := ediv_bd a b 2305843009213693952 hb h1 h2
  rw [w64_id] <;> omega
def flo (a b : Int) : Int := if b = 0 then 0 else if b < 0 then (-a) / (-b) else a / b
theorem flo_bd (a b : Int) (h1 : -2305843009213693952 ≤ a) (h2 : a ≤ 2305843009213693952) : -2305843009213693952 ≤ flo a b ∧ flo a b ≤ 2305843009213693952 := by
  unfold flo
  split
  · omega
  · split
    · exact ediv_bd _ _ _ (by omega) (by omega) (by omega)
    · exact ediv_bd _ _ _ (by omega) (by omega) (by omega)
theorem floorF0_flo (a b : Int) : floorF0 a b = flo (cl61 a) (cl61 b) := by
  rw [floorF0_eq, cl61_eq, cl61_eq]
  have ha := cl61_le a
  have hb := cl61_le b
  generalize cl61 a = x at *
  generalize cl61 b = y at *
  unfold flo
  by_cases h0 : y = 0
  · simp [h0]
  · rw [if_neg h0]
    have e1 : (y == 0) = false := by simpa using h0
    rw [e1, cond_false]
    by_cases h1 : y < 0
    · have ex : w64 (0 - x) = -x := by rw [w64_id] <;> omega
      have ey : w64 (0 - y) = -y := by rw [w64_id] <;> omega
      rw [ex, ey, if_pos h1, decide_eq_true h1, cond_true, fl_key64] <;> omega
    · rw [if_neg h1, decide_eq_false h1, cond_false, fl_key64] <;> omega
theorem floorF1_flo (a b : Int) : floorF1 a b = if cl61 b = 0 then 2 else 0 := by
  rw [floorF1_eq, cl61_eq]
  by_cases h0 : cl61 b = 0
  · simp [h0]
  · have e1 : (cl61 b == 0) = false := by simpa using h0
    rw [e1, if_neg h0, cond_false]
    cases decide (cl61 b < 0) <;> rfl
theorem rfl_key (x y : Int) (h0 : y ≠ 0) : (bif (!(Int.tdiv x y * y == x) && !(decide (x < 0) == decide (y < 0))) then Int.tdiv x y - 1 else Int.tdiv x y) = if y < 0 then (-x) / (-y) else x / y := by
  have key : ∀ x y : Int, 0 < y → (bif (!(Int.tdiv x y * y == x) && decide (x < 0)) then Int.tdiv x y - 1 else Int.tdiv x y) = x / y := by
    intro x y hy
    by_cases hx : x < 0
    · by_cases hd : y ∣ x
      · have : Int.tdiv x y * y = x := Int.tdiv_mul_cancel hd
        simp [this]
        rw [Int.tdiv_eq_ediv_of_dvd hd]
      · have : ¬ Int.tdiv x y * y = x := fun h => hd ⟨Int.tdiv x y, by rw [Int.mul_comm]; exact h.symm⟩
        have e : (Int.tdiv x y * y == x) = false := by simpa using this
        rw [e, decide_eq_true hx]
        simp only [Bool.not_false, Bool.and_self, cond_true]
        have hs : Int.sign y = 1 := Int.sign_eq_one_of_pos hy
        rw [Int.tdiv_eq_ediv, if_neg (by rintro (h | h); omega; exact hd h), hs]
        omega
    · rw [decide_eq_false hx, Bool.and_false, cond_false, Int.tdiv_eq_ediv_of_nonneg (by omega)]
  by_cases hy : y < 0
  · rw [if_pos hy]
    have := key (-x) (-y) (by omega)
    rw [Int.neg_tdiv_neg] at this
    rw [← this]
    by_cases hx0 : x = 0
    · subst hx0; simp
    · have e1 : (Int.tdiv x y * y == x) = (Int.tdiv x y * -y == -x) := by
        rw [Bool.eq_iff_iff]; simp; rw [Int.mul_neg]; omega
      have e2 : (!(decide (x < 0) == decide (y < 0))) = decide (-x < 0) := by
        rw [decide_eq_true hy, Bool.eq_iff_iff]; simp; omega
      rw [e1, e2]
  · rw [if_neg hy, ← key x y (by omega)]
    have e2 : (!(decide (x < 0) == decide (y < 0))) = decide (x < 0) := by
      rw [decide_eq_false hy, Bool.eq_iff_iff]; simp
    rw [e2]

theorem tdiv_bd (x y : Int) (h1 : -2305843009213693952 ≤ x) (h2 : x ≤ 2305843009213693952) : -2305843009213693952 ≤ Int.tdiv x y ∧ Int.tdiv x y ≤ 2305843009213693952 := by
  have := Int.natAbs_tdiv_le_natAbs x y
  omega
theorem tdiv_mul_bd (x y : Int) (h1 : -2305843009213693952 ≤ x) (h2 : x ≤ 2305843009213693952) : -2305843009213693952 ≤ Int.tdiv x y * y ∧ Int.tdiv x y * y ≤ 2305843009213693952 := by
  have h := Int.natAbs_tdiv x y
  have h3 : (Int.tdiv x y * y).natAbs ≤ x.natAbs := by
    rw [Int.natAbs_mul, h]
    exact Nat.div_mul_le_self _ _
  omega
theorem rFloorF0_flo (a b : Int) : rFloorF0 a b = flo (cl61 a) (cl61 b) := by
  rw [rFloorF0_eq, rcl61_eq, rcl61_eq]
  have ha := cl61_le a
  have hb := cl61_le b
  generalize cl61 a = x at *
  generalize cl61 b = y at *
  unfold flo
  by_cases h0 : y = 0
  · simp [h0]
  · rw [if_neg h0]
    have e1 : (y == 0) = false := by simpa using h0
    rw [e1, cond_false]
    have h1 := tdiv_bd x y ha.1 ha.2
    have h2 := tdiv_mul_bd x y ha.1 ha.2
    have h3 : w64 (Int.tdiv x y) = Int.tdiv x y := by rw [w64_id] <;> omega
    have h4 : w64 (Int.tdiv x y * y) = Int.tdiv x y * y := by rw [w64_id] <;> omega
    have h5 : w64 (Int.tdiv x y - 1) = Int.tdiv x y - 1 := by rw [w64_id] <;> omega
    rw [h3, h4, h5]
    exact rfl_key x y h0
theorem rFloorF1_flo (a b : Int) : rFloorF1 a b = if cl61 b = 0 then 2 else 0 := by
  rw [rFloorF1_eq, rcl61_eq]
  by_cases h0 : cl61 b = 0
  · simp [h0]
  · have e1 : (cl61 b == 0) = false := by simpa using h0
    rw [e1, if_neg h0, cond_false]
    generalize (!_ && !_ : Bool) = z
    cases z <;> rfl
theorem w64_neg {x : Int} (h1 : -2305843009213693952 ≤ x) (h2 : x ≤ 2305843009213693952) : w64 (0 - x) = -x := by rw [w64_id] <;> omega
theorem ceilF0_flo (a b : Int) : ceilF0 a b = -flo (-cl61 a) (cl61 b) := by
  have ha := cl61_le a
  rw [ceilF0_eq, cl61_eq, floorF0_flo, w64_neg ha.1 ha.2, cl61_neg]
  have := flo_bd (-cl61 a) (cl61 b) (by omega) (by omega)
  rw [w64_neg this.1 this.2]
theorem rCeilF0_flo (a b : Int) : rCeilF0 a b = -flo (-cl61 a) (cl61 b) := by
  have ha := cl61_le a
  rw [rCeilF0_eq, rcl61_eq, rcl61_eq, rFloorF0_flo, w64_neg ha.1 ha.2, cl61_neg, cl61_cl]
  have := flo_bd (-cl61 a) (cl61 b) (by omega) (by omega)
  rw [w64_neg this.1 this.2]
theorem ceilF1_flo (a b : Int) : ceilF1 a b = if cl61 b = 0 then 2 else 0 := by rw [ceilF1_eq, floorF1_flo]
theorem rCeilF1_flo (a b : Int) : rCeilF1 a b = if cl61 b = 0 then 2 else 0 := by rw [rCeilF1_eq, rFloorF1_flo, rcl61_eq, cl61_cl]
theorem modF0_mod (a b : Int) : modF0 a b = if cl61 b < 1 then 0 else cl61 a % cl61 b := by
  rw [modF0_eq, cl61_eq, cl61_eq, floorF0_flo, cl61_cl, cl61_cl]
  have ha := cl61_le a
  have hb := cl61_le b
  generalize cl61 a = x at *
  generalize cl61 b = y at *
  by_cases h : y < 1
  · simp [h]
  · rw [if_neg h, decide_eq_false h, cond_false, flo, if_neg (by omega), if_neg (by omega)]
    have h1 := Int.mul_ediv_add_emod x y
    have h2 := Int.emod_nonneg x (by omega : y ≠ 0)
    have h3 := Int.emod_lt_of_pos x (by omega : 0 < y)
    have h4 : w64 (y * (x / y)) = y * (x / y) := by rw [w64_id] <;> omega
    rw [h4, w64_id] <;> omega
theorem modF1_mod (a b : Int) : modF1 a b = if cl61 b < 1 then 2 else 0 := by
  rw [modF1_eq, cl61_eq, cl61_eq, floorF1_flo, cl61_cl]
  by_cases h : cl61 b < 1
  · simp [h]
  · rw [if_neg h, decide_eq_false h, cond_false, if_neg (by omega)]
theorem rModF0_mod (a b : Int) : rModF0 a b = if cl61 b < 1 then 0 else cl61 a % cl61 b := by
  rw [rModF0_eq, rcl61_eq, rcl61_eq]
  have ha := cl61_le a
  have hb := cl61_le b
  generalize cl61 a = x at *
  generalize cl61 b = y at *
  by_cases h : y < 1
  · simp [h]
  · rw [if_neg h, decide_eq_false h, cond_false]
    have h1 := Int.lt_tmod_of_pos x (by omega : 0 < y)
    have h2 := Int.tmod_lt_of_pos x (by omega : 0 < y)
    have h3 := Int.emod_nonneg x (by omega : y ≠ 0)
    have h4 := Int.emod_lt_of_pos x (by omega : 0 < y)
    have h5 : w64 (Int.tmod x y + y) = Int.tmod x y + y := by rw [w64_id] <;> omega
    rw [h5]
    have h6 := @Int.tmod_eq_emod x y
    by_cases h7 : Int.tmod x y < 0
    · rw [decide_eq_true h7, cond_true]
      split at h6 <;> omega
    · rw [decide_eq_false h7, cond_false]
      split at h6 <;> omega
theorem rModF1_mod (a b : Int) : rModF1 a b = if cl61 b < 1 then 2 else 0 := by
  rw [rModF1_eq, rcl61_eq]
  by_cases h : cl61 b < 1
  · simp [h]
  · rw [if_neg h, decide_eq_false h, cond_false]
    exact Bool.cond_self _ _
theorem checkF_checkRF (a b c d e f g : Int) : checkF a b c d e f g = checkRF a b c d e f g := by
  rw [checkF_eq, checkRF_eq]
  simp only [inb _ _ _ (by decide : (0 : Int) ≤ 3), inb _ _ _ (by decide : (0 : Int) ≤ 8), inb _ _ _ (by decide : (0 : Int) ≤ 100), inb _ _ _ (by decide : (1 : Int) ≤ 100), inb _ _ _ (by decide : (1 : Int) ≤ 32), cond_or']
theorem crossF0_r (a b c d : Int) : crossF0 a b c d = rCrossF0 a b c d := by
  rw [crossF0_eq, rCrossF0_eq]
  simp only [inb _ _ _ (by decide : (-1073741824 : Int) ≤ 1073741824), cond_or']
theorem crossF1_r (a b c d : Int) : crossF1 a b c d = rCrossF1 a b c d := by
  rw [crossF1_eq, rCrossF1_eq]
  simp only [inb _ _ _ (by decide : (-1073741824 : Int) ≤ 1073741824), cond_or']
theorem signF_r (a : Int) : signF a = rSignF a := by
  rw [signF_eq, compareF_eq, rSignF_eq, isNaNF_eq, isNaNF_eq]
  simp
theorem rtGo_spec (n : Int) : ∀ (f : Nat) (i j : Int), 0 ≤ i → i ≤ j → j - i < 2 ^ f → n ≤ j * j → (i = 0 ∨ (i - 1) * (i - 1) < n) →
    i ≤ rtGo n f i j ∧ rtGo n f i j ≤ j ∧ n ≤ rtGo n f i j * rtGo n f i j ∧ (rtGo n f i j = 0 ∨ (rtGo n f i j - 1) * (rtGo n f i j - 1) < n)
  | 0, i, j, h0, h1, h2, h3, h4 => by
    have : i = j := by simp at h2; omega
    subst this
    exact ⟨Int.le_refl _, Int.le_refl _, h3, h4⟩
  | f + 1, i, j, h0, h1, h2, h3, h4 => by
    rw [Int.pow_succ] at h2
    unfold rtGo
    by_cases hlt : i < j
    · rw [if_pos hlt]
      by_cases hc : n ≤ (i + j) / 2 * ((i + j) / 2)
      · rw [if_pos hc]
        have := rtGo_spec n f i ((i + j) / 2) h0 (by omega) (by omega) hc h4
        exact ⟨this.1, by omega, this.2.2⟩
      · rw [if_neg hc]
        have := rtGo_spec n f ((i + j) / 2 + 1) j (by omega) (by omega) (by omega) h3 (.inr (by rw [Int.add_sub_cancel]; omega))
        exact ⟨by omega, this.2⟩
    · rw [if_neg hlt]
      have : i = j := by omega
      subst this
      exact ⟨Int.le_refl _, Int.le_refl _, h3, h4⟩
theorem rtUp_spec (n : Int) (_h : 0 ≤ n) (h2 : n ≤ 2305843009213693952) : 0 ≤ rtUp n ∧ rtUp n ≤ 2147483648 ∧ n ≤ rtUp n * rtUp n ∧ (rtUp n = 0 ∨ (rtUp n - 1) * (rtUp n - 1) < n) :=
  rtGo_spec n 32 0 2147483648 (by omega) (by omega) (by decide) (by omega) (.inl rfl)
theorem rdGo_spec (n : Int) : ∀ (f : Nat) (i j : Int), 0 ≤ i → i < j → j - i ≤ 2 ^ f → n < j * j → i * i ≤ n →
    i ≤ rdGo n f i j ∧ rdGo n f i j < j ∧ rdGo n f i j * rdGo n f i j ≤ n ∧ n < (rdGo n f i j + 1) * (rdGo n f i j + 1)
  | 0, i, j, h0, h1, h2, h3, h4 => by
    have : j = i + 1 := by simp at h2; omega
    subst this
    exact ⟨Int.le_refl _, h1, h4, h3⟩
  | f + 1, i, j, h0, h1, h2, h3, h4 => by
    rw [Int.pow_succ] at h2
    unfold rdGo
    by_cases hlt : 1 < j - i
    · rw [if_pos hlt]
      by_cases hc : (i + j) / 2 * ((i + j) / 2) ≤ n
      · rw [if_pos hc]
        have := rdGo_spec n f ((i + j) / 2) j (by omega) (by omega) (by omega) h3 hc
        exact ⟨by omega, this.2⟩
      · rw [if_neg hc]
        have := rdGo_spec n f i ((i + j) / 2) h0 (by omega) (by omega) (by omega) h4
        exact ⟨this.1, by omega, this.2.2⟩
    · rw [if_neg hlt]
      have : j = i + 1 := by omega
      subst this
      exact ⟨Int.le_refl _, h1, h4, h3⟩
theorem rtDn_spec (n : Int) (h : 0 ≤ n) (h2 : n ≤ 2305843009213693952) : 0 ≤ rtDn n ∧ rtDn n < 2147483648 ∧ rtDn n * rtDn n ≤ n ∧ n < (rtDn n + 1) * (rtDn n + 1) :=
  rdGo_spec n 32 0 2147483648 (by omega) (by omega) (by decide) (by omega) (by omega)
theorem sq_lt {x y : Int} (hy : 0 ≤ y) (h : x * x < y * y) : x < y := by
  by_cases hx : x < y
  · exact hx
  · have := Int.mul_le_mul (by omega : y ≤ x) (by omega : y ≤ x) hy (by omega)
    omega
/-- The two roots: the one rounded up is the one rounded down, or one more, if the number is no square. -/
theorem rt_both (n : Int) (h : 0 ≤ n) (h2 : n ≤ 2305843009213693952) : rtUp n = if rtDn n * rtDn n < n then rtDn n + 1 else rtDn n := by
  obtain ⟨u0, u1, u2, u3⟩ := rtUp_spec n h h2
  obtain ⟨d0, d1, d2, d3⟩ := rtDn_spec n h h2
  have e1 : rtDn n ≤ rtUp n := by
    have : ¬ rtUp n < rtDn n := fun hc => by
      have := Int.mul_le_mul (by omega : rtUp n + 1 ≤ rtDn n) (by omega : rtUp n + 1 ≤ rtDn n) (by omega) (by omega)
      have e : (rtUp n + 1) * (rtUp n + 1) = rtUp n * rtUp n + 2 * rtUp n + 1 := by rw [Int.add_mul, Int.mul_add]; omega
      omega
    omega
  split
  · next hc =>
    have l1 : rtDn n < rtUp n := sq_lt u0 (by omega)
    rcases u3 with u3 | u3
    · omega
    · have l2 : rtUp n - 1 < rtDn n + 1 := sq_lt (by omega) (by omega)
      omega
  · next hc =>
    rcases u3 with u3 | u3
    · omega
    · have l2 : rtUp n - 1 < rtDn n := sq_lt (by omega) (by omega)
      omega
theorem rootUp0 (n : Int) : rootUpF0 n = if cl61 n < 0 then 0 else rtUp (cl61 n) := rfl
theorem rootUp1 (n : Int) : rootUpF1 n = if cl61 n < 0 then 2 else 0 := rfl
theorem rRoot0 (n : Int) : rRootF0 n = if cl61 n < 0 then 0 else rtDn (cl61 n) := rfl
theorem rRoot1 (n : Int) : rRootF1 n = if cl61 n < 0 then 2 else 0 := rfl
theorem sq_bd {k : Int} (h0 : 0 ≤ k) (h1 : k ≤ 2147483648) : w64 (k * k) = k * k := sq_wrap k h0 h1
theorem root0 (n : Int) : rootF0 n = if cl61 n < 0 then 0 else rtDn (cl61 n) := by
  rw [rootF0_eq, cl61_eq, rootUp0, rootUp1]
  have hb := cl61_le n
  generalize cl61 n = m at *
  by_cases h : m < 0
  · simp [h]
  · simp only [if_neg h]
    obtain ⟨u0, u1, u2, u3⟩ := rtUp_spec m (by omega) hb.2
    obtain ⟨d0, d1, d2, d3⟩ := rtDn_spec m (by omega) hb.2
    have hr := rt_both m (by omega) hb.2
    rw [sq_bd u0 u1]
    have hw : w64 (rtUp m - 1) = rtUp m - 1 := by rw [w64_id] <;> omega
    rw [hw]
    by_cases hc : rtDn m * rtDn m < m
    · rw [if_pos hc] at hr
      have : decide (m < rtUp m * rtUp m) = true := by rw [hr]; simpa using d3
      rw [this]
      show rtUp m - 1 = rtDn m
      omega
    · rw [if_neg hc] at hr
      have : decide (m < rtUp m * rtUp m) = false := by rw [hr]; simpa using d2
      rw [this]
      exact hr
theorem root1 (n : Int) : rootF1 n = if cl61 n < 0 then 2 else 0 := by
  rw [rootF1_eq, rootUp1]
  generalize (_ && _ : Bool) = z
  cases z <;> rfl
theorem rRootUp0 (n : Int) : rRootUpF0 n = if cl61 n < 0 then 0 else rtUp (cl61 n) := by
  rw [rRootUpF0_eq, rcl61_eq, rRoot0, rRoot1, cl61_cl]
  have hb := cl61_le n
  generalize cl61 n = m at *
  by_cases h : m < 0
  · simp [h]
  · simp only [if_neg h]
    obtain ⟨d0, d1, d2, d3⟩ := rtDn_spec m (by omega) hb.2
    rw [sq_bd d0 (by omega), rt_both m (by omega) hb.2]
    have hw : w64 (rtDn m + 1) = rtDn m + 1 := by rw [w64_id] <;> omega
    rw [hw]
    by_cases hc : rtDn m * rtDn m < m
    · rw [decide_eq_true hc, if_pos hc]; rfl
    · rw [decide_eq_false hc, if_neg hc]; rfl
theorem rRootUp1 (n : Int) : rRootUpF1 n = if cl61 n < 0 then 2 else 0 := by
  rw [rRootUpF1_eq, rRoot1, rcl61_eq, cl61_cl]
  generalize (_ && _ : Bool) = z
  cases z <;> rfl
end Go.Proofs.Yteneneadfpkahaa
