/- What the law of turns and bounds does: it returns true. No conditions. -/
import Derived.Test.YteneneadfpkahaaGb
namespace Go.Proofs.Yteneneadfpkahaa
open Go Go.RowKit Go.Sx
set_option maxRecDepth 100000
set_option maxHeartbeats 0
theorem clamp_bd (x : Int) : Bd (min (max x (-1048576)) 1048576) := by unfold Bd; omega
theorem rTurn_eq (ax az bx bz cx cz : Int) : turnF ax az bx bz cx cz = rTurnF ax az bx bz cx cz := by
  rw [rTurnF_eq, rIn2F0_eq, rIn2F0_eq, rIn2F0_eq, rIn2F1_eq, rIn2F1_eq, rIn2F1_eq, rIn_val, rIn_val, rIn_val, rIn_val, rIn_val, rIn_val]
  rw [turnF_eq, ginF0_eq, ginF0_eq, ginF0_eq, ginF1_eq, ginF1_eq, ginF1_eq]
  have h1 := clamp_bd ax
  have h2 := clamp_bd az
  have h3 := clamp_bd bx
  have h4 := clamp_bd bz
  have h5 := clamp_bd cx
  have h6 := clamp_bd cz
  generalize min (max ax (-1048576)) 1048576 = ax at *
  generalize min (max az (-1048576)) 1048576 = az at *
  generalize min (max bx (-1048576)) 1048576 = bx at *
  generalize min (max bz (-1048576)) 1048576 = bz at *
  generalize min (max cx (-1048576)) 1048576 = cx at *
  generalize min (max cz (-1048576)) 1048576 = cz at *
  rw [signF_r]
  congr 1
  have p1 := prod_bd h1 h4
  have p2 := prod_bd h2 h3
  have p3 := prod_bd h3 h6
  have p4 := prod_bd h4 h5
  have p5 := prod_bd h5 h2
  have p6 := prod_bd h6 h1
  have q : ∀ x y u v : Int, Bd x → Bd y → Bd u → Bd v → -5000000000000 ≤ (x - y) * (u - v) ∧ (x - y) * (u - v) ≤ 5000000000000 := fun x y u v a b c d => by
    unfold Bd at *
    have := mul_abs_le (X := 2097152) (Y := 2097152) (x := x - y) (y := u - v) (by omega) (by omega) (by omega) (by omega)
    omega
  have q1 := q bx ax cz az h3 h1 h6 h2
  have q2 := q bz az cx ax h4 h2 h5 h1
  unfold Bd at *
  have w : ∀ x : Int, -90000000000000 ≤ x → x ≤ 90000000000000 → w64 x = x := fun x a b => by rw [w64_id] <;> omega
  rw [w (bx - ax) (by omega) (by omega), w (cz - az) (by omega) (by omega), w (bz - az) (by omega) (by omega), w (cx - ax) (by omega) (by omega)]
  rw [w ((bx - ax) * (cz - az)) (by omega) (by omega), w ((bz - az) * (cx - ax)) (by omega) (by omega), w ((bx - ax) * (cz - az) - (bz - az) * (cx - ax)) (by omega) (by omega)]
  rw [w _ (by omega) (by omega : ax * bz ≤ _), w _ (by omega) (by omega : az * bx ≤ _), w _ (by omega) (by omega : bx * cz ≤ _), w _ (by omega) (by omega : bz * cx ≤ _), w _ (by omega) (by omega : cx * az ≤ _), w _ (by omega) (by omega : cz * ax ≤ _)]
  rw [w _ (by omega) (by omega : ax * bz - az * bx ≤ _), w _ (by omega) (by omega : bx * cz - bz * cx ≤ _), w _ (by omega) (by omega : cx * az - cz * ax ≤ _)]
  rw [Int.zero_add, w _ (by omega) (by omega : ax * bz - az * bx ≤ _), w _ (by omega) (by omega : ax * bz - az * bx + (bx * cz - bz * cx) ≤ _), w _ (by omega) (by omega : ax * bz - az * bx + (bx * cz - bz * cx) + (cx * az - cz * ax) ≤ _)]
  grind
theorem rIn2F0_gin (x z : Int) : rIn2F0 x z = ginF0 x z := (rIn2_gin x z).1
theorem rIn2F1_gin (x z : Int) : rIn2F1 x z = ginF1 x z := (rIn2_gin x z).2
theorem rFar_eq (ax az bx bz : Int) : farF ax az bx bz = rFarF ax az bx bz := by
  rw [farF_eq, rFarF_eq, rIn2F0_gin, rIn2F0_gin, rIn2F1_gin, rIn2F1_gin]
theorem rOn_eq (ax az bx bz cx cz : Int) : onF ax az bx bz cx cz = rOnF ax az bx bz cx cz := by
  rw [rOnF_eq, rIn2F0_gin, rIn2F0_gin, rIn2F0_gin, rIn2F1_gin, rIn2F1_gin, rIn2F1_gin, ← rTurn_eq, ginF0_eq, ginF0_eq, ginF0_eq, ginF1_eq, ginF1_eq, ginF1_eq]
  rw [onF_eq, ginF0_eq, ginF0_eq, ginF0_eq, ginF1_eq, ginF1_eq, ginF1_eq]
  have h1 := clamp_bd ax
  have h2 := clamp_bd az
  have h3 := clamp_bd bx
  have h4 := clamp_bd bz
  have h5 := clamp_bd cx
  have h6 := clamp_bd cz
  generalize min (max ax (-1048576)) 1048576 = ax at *
  generalize min (max az (-1048576)) 1048576 = az at *
  generalize min (max bx (-1048576)) 1048576 = bx at *
  generalize min (max bz (-1048576)) 1048576 = bz at *
  generalize min (max cx (-1048576)) 1048576 = cx at *
  generalize min (max cz (-1048576)) 1048576 = cz at *
  rw [betweenF_eq, betweenF_eq]
  rw [Bool.eq_iff_iff]
  simp only [Bool.and_eq_true, Bool.or_eq_true, Bool.not_eq_true', decide_eq_true_eq, beq_iff_eq]
  constructor
  · rintro ⟨⟨ht, hx1, hx2⟩, hz1, hz2⟩
    refine ⟨⟨⟨⟨⟨ht, hx1⟩, hx2⟩, hz1⟩, hz2⟩, ?_⟩
    by_cases he : ax = bx ∧ az = bz
    · obtain ⟨rfl, rfl⟩ := he
      right
      omega
    · left
      simp only [Bool.and_eq_false_iff, beq_eq_false_iff_ne]
      omega
  · rintro ⟨⟨⟨⟨⟨ht, hx1⟩, hx2⟩, hz1⟩, hz2⟩, -⟩
    exact ⟨⟨ht, hx1, hx2⟩, hz1, hz2⟩

end Go.Proofs.Yteneneadfpkahaa
