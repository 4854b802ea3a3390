/- Tiles: what Check, Count, Touch of the bins tell, as plain numbers. No conditions. -/
import Derived.Test.YteneneadfpkahaaWhM
import Derived.Test.YteneneadfpkahaaBi
namespace Go.Proofs.Yteneneadfpkahaa
open Go Go.RowKit Go.Sx
/-- Configs that may be. -/
def okC (a b c d e f g : Int) : Prop := 0 ≤ a ∧ a ≤ 3 ∧ 0 ≤ b ∧ b ≤ 8 ∧ b < c ∧ c ≤ 32 ∧ 0 ≤ d ∧ d ≤ 100 ∧ 1 ≤ e ∧ e ≤ 100 ∧ 1 ≤ f ∧ f ≤ 32 ∧ 1 ≤ g ∧ g ≤ 32
instance (a b c d e f g : Int) : Decidable (okC a b c d e f g) := by unfold okC; infer_instance
theorem check_val (a b c d e f g : Int) : checkF a b c d e f g = if okC a b c d e f g then 0 else 20 := by
  rw [checkF_checkRF, checkRF_eq]
  by_cases h : okC a b c d e f g
  · rw [if_pos h]
    unfold okC at h
    have hg : (((((((((((((decide (a < 0) || decide (3 < a)) || decide (b < 0)) || decide (8 < b)) || decide (c ≤ b)) || decide (32 < c)) || decide (d < 0)) || decide (100 < d)) || decide (e < 1)) || decide (100 < e)) || decide (f < 1)) || decide (32 < f)) || decide (g < 1)) || decide (32 < g)) = false := by
      simp only [Bool.or_eq_false_iff, decide_eq_false_iff_not]; omega
    rw [hg]; rfl
  · rw [if_neg h]
    unfold okC at h
    have hg : (((((((((((((decide (a < 0) || decide (3 < a)) || decide (b < 0)) || decide (8 < b)) || decide (c ≤ b)) || decide (32 < c)) || decide (d < 0)) || decide (100 < d)) || decide (e < 1)) || decide (100 < e)) || decide (f < 1)) || decide (32 < f)) || decide (g < 1)) || decide (32 < g)) = true := by
      simp only [Bool.or_eq_true, decide_eq_true_eq]; omega
    rw [hg]; rfl
/-- Tiles in so many columns. -/
def wd (n : Int) : Int := (n - 1) / 8 + 1
theorem wd_val {n : Int} (h1 : 1 ≤ n) (h2 : n ≤ 32) : w64 (w64 (Int.tdiv (w64 (n - 1)) 8) + 1) = wd n ∧ 1 ≤ wd n ∧ wd n ≤ 4 ∧ (wd n - 1) * 8 ≤ n - 1 ∧ n ≤ wd n * 8 := by
  have e1 : w64 (n - 1) = n - 1 := by rw [w64_id] <;> omega
  rw [e1, Int.tdiv_eq_ediv_of_nonneg (by omega)]
  have e2 : w64 ((n - 1) / 8) = (n - 1) / 8 := by rw [w64_id] <;> omega
  have e3 : w64 ((n - 1) / 8 + 1) = (n - 1) / 8 + 1 := by rw [w64_id] <;> omega
  rw [e2, e3]
  unfold wd
  refine ⟨rfl, ?_⟩
  omega
theorem tiles0_val (a b c d e f g : Int) : tilesF0 a b c d e f g = if okC a b c d e f g then wd f else 0 := by
  rw [tilesF0_eq, check_val]
  by_cases h : okC a b c d e f g
  · rw [if_pos h, if_pos h]
    unfold okC at h
    exact (wd_val (by omega) (by omega)).1
  · rw [if_neg h, if_neg h]; rfl
theorem tiles1_val (a b c d e f g : Int) : tilesF1 a b c d e f g = if okC a b c d e f g then wd g else 0 := by
  rw [tilesF1_eq, check_val]
  by_cases h : okC a b c d e f g
  · rw [if_pos h, if_pos h]
    unfold okC at h
    exact (wd_val (by omega) (by omega)).1
  · rw [if_neg h, if_neg h]; rfl
theorem wd_mul {f g : Int} (h1 : 1 ≤ wd f) (h2 : wd f ≤ 4) (h3 : 1 ≤ wd g) (h4 : wd g ≤ 4) : w64 (wd f * wd g) = wd f * wd g ∧ 1 ≤ wd f * wd g ∧ wd f * wd g ≤ 16 := by
  generalize wd f = x at *
  generalize wd g = y at *
  have hx : x = 1 ∨ x = 2 ∨ x = 3 ∨ x = 4 := by omega
  have : 1 ≤ x * y ∧ x * y ≤ 16 := by rcases hx with rfl | rfl | rfl | rfl <;> omega
  exact ⟨by rw [w64_id] <;> omega, this⟩
theorem count_val (a b c d e f g : Int) : countF a b c d e f g = if okC a b c d e f g then wd f * wd g else 0 := by
  rw [countF_eq, tiles0_val, tiles1_val]
  by_cases h : okC a b c d e f g
  · rw [if_pos h, if_pos h, if_pos h]
    unfold okC at h
    obtain ⟨_, h1, h2, _⟩ := wd_val (n := f) (by omega) (by omega)
    obtain ⟨_, h3, h4, _⟩ := wd_val (n := g) (by omega) (by omega)
    exact (wd_mul h1 h2 h3 h4).1
  · rw [if_neg h, if_neg h, if_neg h]; rw [w64_id] <;> omega
theorem count_bd (a b c d e f g : Int) : 0 ≤ countF a b c d e f g ∧ countF a b c d e f g ≤ 16 := by
  rw [count_val]
  by_cases h : okC a b c d e f g
  · rw [if_pos h]
    unfold okC at h
    obtain ⟨_, h1, h2, _⟩ := wd_val (n := f) (by omega) (by omega)
    obtain ⟨_, h3, h4, _⟩ := wd_val (n := g) (by omega) (by omega)
    have := (wd_mul h1 h2 h3 h4).2
    omega
  · rw [if_neg h]; omega
/-- The padded box's side: from, to, of the tile number t of n columns. -/
def loT (clear t : Int) : Int := max (t * 8 - (clear + 4)) 0
def hiT (clear n t : Int) : Int := min (min (t * 8 + 7) (n - 1) + (clear + 4)) (n - 1)
theorem pad_side {clear n t : Int} (h1 : 0 ≤ clear) (h2 : clear ≤ 3) (h3 : 1 ≤ n) (h4 : n ≤ 32) (h5 : 0 ≤ t) (h6 : t < wd n) :
    max (w64 (max (w64 (t * 8)) 0 - w64 (clear + 4))) 0 = loT clear t ∧ min (w64 (min (w64 (w64 (w64 (t + 1) * 8) - 1)) (w64 (n - 1)) + w64 (clear + 4))) (w64 (n - 1)) = hiT clear n t ∧ loT clear t ≤ hiT clear n t := by
  have h7 := (wd_val h3 h4).2
  have e1 : w64 (t * 8) = t * 8 := by rw [w64_id] <;> omega
  have e2 : w64 (clear + 4) = clear + 4 := by rw [w64_id] <;> omega
  have e3 : w64 (t + 1) = t + 1 := by rw [w64_id] <;> omega
  have e4 : w64 ((t + 1) * 8) = (t + 1) * 8 := by rw [w64_id] <;> omega
  have e5 : w64 ((t + 1) * 8 - 1) = (t + 1) * 8 - 1 := by rw [w64_id] <;> omega
  have e6 : w64 (n - 1) = n - 1 := by rw [w64_id] <;> omega
  rw [e1, e2, e3, e4, e5, e6]
  have e7 : w64 (max (t * 8) 0 - (clear + 4)) = max (t * 8) 0 - (clear + 4) := by rw [w64_id] <;> omega
  have e8 : w64 (min ((t + 1) * 8 - 1) (n - 1) + (clear + 4)) = min ((t + 1) * 8 - 1) (n - 1) + (clear + 4) := by rw [w64_id] <;> omega
  rw [e7, e8]
  unfold loT hiT
  omega
theorem tile_at {w d i : Int} (hw : 1 ≤ w) (hw4 : w ≤ 4) (hd4 : d ≤ 4) (h0 : 0 ≤ i) (h1 : i < w * d) : Int.tmod i w = i % w ∧ w64 (Int.tdiv i w) = i / w ∧ 0 ≤ i % w ∧ i % w < w ∧ 0 ≤ i / w ∧ i / w < d := by
  have e1 := Int.tmod_eq_emod_of_nonneg (b := w) h0
  have e2 := Int.tdiv_eq_ediv_of_nonneg (b := w) h0
  have h2 := Int.emod_nonneg i (by omega : w ≠ 0)
  have h3 := Int.emod_lt_of_pos i (by omega : 0 < w)
  have h4 : 0 ≤ i / w := Int.ediv_nonneg h0 (by omega)
  have h5 : i / w < d := Int.ediv_lt_of_lt_mul (by omega) (by rw [Int.mul_comm]; exact h1)
  refine ⟨e1, ?_, h2, h3, h4, h5⟩
  rw [e2, w64_id] <;> omega
/-- Whether the stretch from x0 to x1, from z0 to z1 meets the box. -/
def hit (ax az bx bz x0 z0 x1 z1 : Int) : Bool := decide (x0 ≤ x1 ∧ z0 ≤ z1 ∧ x0 ≤ bx ∧ ax ≤ x1 ∧ z0 ≤ bz ∧ az ≤ z1)
theorem meet_hit {ax az bx bz : Int} (h1 : ax ≤ bx) (h2 : az ≤ bz) (x0 z0 x1 z1 : Int) (h3 : x0 ≤ x1) (h4 : z0 ≤ z1) :
    (!emptyF (meetF0 ax az bx bz x0 z0 x1 z1) (meetF1 ax az bx bz x0 z0 x1 z1) (meetF2 ax az bx bz x0 z0 x1 z1) (meetF3 ax az bx bz x0 z0 x1 z1)) = hit ax az bx bz x0 z0 x1 z1 := by
  rw [emptyF_eq, meetF0_eq, meetF1_eq, meetF2_eq, meetF3_eq]
  unfold hit
  by_cases h : x0 ≤ x1 ∧ z0 ≤ z1 ∧ x0 ≤ bx ∧ ax ≤ x1 ∧ z0 ≤ bz ∧ az ≤ z1
  · rw [decide_eq_true h, Bool.not_eq_true', Bool.or_eq_false_iff, decide_eq_false_iff_not, decide_eq_false_iff_not]
    omega
  · rw [decide_eq_false h, Bool.not_eq_false', Bool.or_eq_true, decide_eq_true_eq, decide_eq_true_eq]
    omega
theorem touch_val {a b c d e f g : Int} (hok : okC a b c d e f g) {i : Int} (h0 : 0 ≤ i) (h1 : i < wd f * wd g) (x0 z0 x1 z1 : Int) :
    touchF a b c d e f g i x0 z0 x1 z1 = hit (loT a (i % wd f)) (loT a (i / wd f)) (hiT a f (i % wd f)) (hiT a g (i / wd f)) x0 z0 x1 z1 := by
  rw [touchF_eq]
  have t0 := tiles0_val a b c d e f g
  have t1 := tiles1_val a b c d e f g
  rw [if_pos hok] at t0 t1
  rw [t0, t1]
  unfold okC at hok
  have wf := wd_val (n := f) (by omega) (by omega)
  have wg := wd_val (n := g) (by omega) (by omega)
  have hm := wd_mul wf.2.1 wf.2.2.1 wg.2.1 wg.2.2.1
  have ht := tile_at wf.2.1 wf.2.2.1 wg.2.2.1 h0 h1
  have px := pad_side (clear := a) (n := f) (t := i % wd f) (by omega) (by omega) (by omega) (by omega) (by omega) (by omega)
  have pz := pad_side (clear := a) (n := g) (t := i / wd f) (by omega) (by omega) (by omega) (by omega) (by omega) (by omega)
  rw [hm.1, ht.1, ht.2.1]
  simp only [paddedF0_eq, paddedF1_eq, paddedF2_eq, paddedF3_eq]
  generalize hp0 : meetF0 _ _ _ _ 0 0 (w64 (f - 1)) (w64 (g - 1)) = p0
  have hp0' : p0 = loT a (i % wd f) := by
    rw [← hp0, meetF0_eq, meetF0_eq]; exact px.1
  generalize hp1 : meetF1 _ _ _ _ 0 0 (w64 (f - 1)) (w64 (g - 1)) = p1
  have hp1' : p1 = loT a (i / wd f) := by
    rw [← hp1, meetF1_eq, meetF1_eq]; exact pz.1
  generalize hp2 : meetF2 _ _ _ _ 0 0 (w64 (f - 1)) (w64 (g - 1)) = p2
  have hp2' : p2 = hiT a f (i % wd f) := by
    rw [← hp2, meetF2_eq, meetF2_eq]; exact px.2.1
  generalize hp3 : meetF3 _ _ _ _ 0 0 (w64 (f - 1)) (w64 (g - 1)) = p3
  have hp3' : p3 = hiT a g (i / wd f) := by
    rw [← hp3, meetF3_eq, meetF3_eq]; exact pz.2.1
  subst hp0' hp1' hp2' hp3'
  rw [decide_eq_false (by omega : ¬ i < 0), decide_eq_false (by omega : ¬ wd f * wd g ≤ i), Bool.or_false, Bool.false_or, emptyF_eq x0]
  by_cases hs : x0 ≤ x1 ∧ z0 ≤ z1
  · rw [decide_eq_false (by omega : ¬ x1 < x0), decide_eq_false (by omega : ¬ z1 < z0), Bool.or_false, cond_false]
    exact meet_hit px.2.2 pz.2.2 _ _ _ _ hs.1 hs.2
  · have : (decide (x1 < x0) || decide (z1 < z0)) = true := by simp only [Bool.or_eq_true, decide_eq_true_eq]; omega
    rw [this, cond_true]
    unfold hit
    rw [decide_eq_false]
    omega
theorem touch_out {a b c d e f g i : Int} (h : i < 0 ∨ countF a b c d e f g ≤ i) (x0 z0 x1 z1 : Int) : touchF a b c d e f g i x0 z0 x1 z1 = false := by
  rw [touchF_eq, ← countF_eq]
  have : (decide (i < 0) || decide (countF a b c d e f g ≤ i)) = true := by simp only [Bool.or_eq_true, decide_eq_true_eq]; omega
  rw [this, Bool.true_or, cond_true]
theorem count_ok {a b c d e f g i : Int} (h0 : 0 ≤ i) (h : i < countF a b c d e f g) : okC a b c d e f g ∧ i < wd f * wd g := by
  rw [count_val] at h
  by_cases ho : okC a b c d e f g
  · rw [if_pos ho] at h; exact ⟨ho, h⟩
  · rw [if_neg ho] at h; omega
theorem wakes06_true : wakes06F = true := by
  rw [wakes06F_eq]
  simp only [cfg6F0_eq, cfg6F1_eq, cfg6F2_eq, cfg6F3_eq, cfg6F4_eq, cfg6F5_eq, cfg6F6_eq]
  have hok : okC 0 1 3 1 1 32 32 := by decide
  have hc : countF 0 1 3 1 1 32 32 = 16 := by rw [count_val, if_pos hok]; decide
  rw [touch_val hok (by decide) (by decide), touch_val hok (by decide) (by decide), touch_val hok (by decide) (by decide), touch_out (Or.inr (by rw [hc]; decide)), hc]
  decide
end Go.Proofs.Yteneneadfpkahaa
