/- The plain laws of turns and meetings. No conditions. -/
import Derived.Test.YteneneadfpkahaaWhM
import Derived.Test.YteneneadfpkahaaGs
namespace Go.Proofs.Yteneneadfpkahaa
open Go Go.RowKit Go.Sx
def gT (ax az bx bz cx cz : Int) : Int := (ax * bz - az * bx) + (bx * cz - bz * cx) + (cx * az - cz * ax)
theorem gT_swap1 (ax az bx bz cx cz : Int) : gT bx bz ax az cx cz = -gT ax az bx bz cx cz := by
  unfold gT; grind
theorem gT_swap2 (ax az bx bz cx cz : Int) : gT ax az cx cz bx bz = -gT ax az bx bz cx cz := by
  unfold gT; grind
theorem gT_rot (ax az bx bz cx cz : Int) : gT bx bz cx cz ax az = gT ax az bx bz cx cz := by
  unfold gT; grind
theorem gT_add (ax az bx bz cx cz x z : Int) : gT (ax + x) (az + z) (bx + x) (bz + z) (cx + x) (cz + z) = gT ax az bx bz cx cz := by
  unfold gT; grind
theorem gT_back (ax az bx bz cx cz : Int) : gT (-ax) (-az) (-bx) (-bz) (-cx) (-cz) = gT ax az bx bz cx cz := by
  unfold gT; grind
theorem gT_end1 (ax az bx bz : Int) : gT ax az bx bz ax az = 0 := by
  unfold gT; grind
theorem gT_end2 (ax az bx bz : Int) : gT ax az bx bz bx bz = 0 := by
  unfold gT; grind
def sgn (n : Int) : Int := if n < 0 then -1 else if 0 < n then 1 else 0
theorem signF_sgn (n : Int) : signF n = sgn n := by
  rw [signF_r, rSignF_eq, sgn]
  by_cases h : n < 0
  · simp [h]
  · by_cases h2 : 0 < n
    · simp [h, h2]
    · simp [h, h2]
theorem sgn_neg (n : Int) : sgn (-n) = -sgn n := by unfold sgn; split <;> split <;> omega
theorem sgn_zero (n : Int) : (sgn n == 0) = (n == 0) := by
  rw [Bool.eq_iff_iff]; simp only [beq_iff_eq]; unfold sgn; split <;> (try split) <;> omega
theorem sgn_bd (n : Int) : -1 ≤ sgn n ∧ sgn n ≤ 1 := by unfold sgn; split <;> (try split) <;> omega
def Bd (x : Int) : Prop := -1048576 ≤ x ∧ x ≤ 1048576
theorem gin_id0 {x z : Int} (h : Bd x) : ginF0 x z = x := by rw [ginF0_eq]; unfold Bd at h; omega
theorem gin_id1 {x z : Int} (h : Bd z) : ginF1 x z = z := by rw [ginF1_eq]; unfold Bd at h; omega
theorem prod_bd {x z : Int} (h : Bd x) (k : Bd z) : -1099511627776 ≤ x * z ∧ x * z ≤ 1099511627776 :=
  mul_abs_le (X := 1048576) (Y := 1048576) h.1 h.2 k.1 k.2
theorem turn_bd {ax az bx bz cx cz : Int} (h1 : Bd ax) (h2 : Bd az) (h3 : Bd bx) (h4 : Bd bz) (h5 : Bd cx) (h6 : Bd cz) : turnF ax az bx bz cx cz = sgn (gT ax az bx bz cx cz) := by
  rw [turnF_eq, gin_id0 h1, gin_id1 h2, gin_id0 h3, gin_id1 h4, gin_id0 h5, gin_id1 h6, signF_sgn]
  have p1 := prod_bd h1 h4
  have p2 := prod_bd h2 h3
  have p3 := prod_bd h3 h6
  have p4 := prod_bd h4 h5
  have p5 := prod_bd h5 h2
  have p6 := prod_bd h6 h1
  have w : ∀ x : Int, -9000000000000 ≤ x → x ≤ 9000000000000 → w64 x = x := fun x a b => by rw [w64_id] <;> omega
  unfold gT
  rw [w _ (by omega) (by omega : ax * bz ≤ _), w _ (by omega) (by omega : az * bx ≤ _), w _ (by omega) (by omega : bx * cz ≤ _), w _ (by omega) (by omega : bz * cx ≤ _), w _ (by omega) (by omega : cx * az ≤ _), w _ (by omega) (by omega : cz * ax ≤ _)]
  rw [w _ (by omega) (by omega : ax * bz - az * bx ≤ _), w _ (by omega) (by omega : bx * cz - bz * cx ≤ _), w _ (by omega) (by omega : cx * az - cz * ax ≤ _)]
  rw [Int.zero_add, w _ (by omega) (by omega : ax * bz - az * bx ≤ _), w _ (by omega) (by omega : ax * bz - az * bx + (bx * cz - bz * cx) ≤ _), w _ (by omega) (by omega : ax * bz - az * bx + (bx * cz - bz * cx) + (cx * az - cz * ax) ≤ _)]
def bet (a b n : Int) : Bool := decide (min a b ≤ n) && decide (n ≤ max a b)
theorem between_bet (a b n : Int) : betweenF a b n = bet a b n := by rw [betweenF_eq]; rfl
theorem bet_comm (a b n : Int) : bet b a n = bet a b n := by unfold bet; rw [Int.min_comm, Int.max_comm]
theorem bet_add (a b n x : Int) : bet (a + x) (b + x) (n + x) = bet a b n := by
  unfold bet; rw [Bool.eq_iff_iff]; simp only [Bool.and_eq_true, decide_eq_true_eq]; omega
theorem bet_end1 (a b : Int) : bet a b a = true := by unfold bet; simp only [Bool.and_eq_true, decide_eq_true_eq]; omega
theorem bet_end2 (a b : Int) : bet a b b = true := by unfold bet; simp only [Bool.and_eq_true, decide_eq_true_eq]; omega
def onM (ax az bx bz cx cz : Int) : Bool := (gT ax az bx bz cx cz == 0) && bet ax bx cx && bet az bz cz
theorem on_bd {ax az bx bz cx cz : Int} (h1 : Bd ax) (h2 : Bd az) (h3 : Bd bx) (h4 : Bd bz) (h5 : Bd cx) (h6 : Bd cz) : onF ax az bx bz cx cz = onM ax az bx bz cx cz := by
  rw [onF_eq, gin_id0 h1, gin_id1 h2, gin_id0 h3, gin_id1 h4, gin_id0 h5, gin_id1 h6, turn_bd h1 h2 h3 h4 h5 h6, sgn_zero, between_bet, between_bet]
  rfl
theorem neg_beq (n : Int) : (-n == 0) = (n == 0) := by rw [Bool.eq_iff_iff]; simp only [beq_iff_eq]; omega
theorem onM_swap (ax az bx bz cx cz : Int) : onM bx bz ax az cx cz = onM ax az bx bz cx cz := by unfold onM; rw [gT_swap1, neg_beq, bet_comm, bet_comm bz]
theorem onM_add (ax az bx bz cx cz x z : Int) : onM (ax + x) (az + z) (bx + x) (bz + z) (cx + x) (cz + z) = onM ax az bx bz cx cz := by unfold onM; rw [gT_add, bet_add, bet_add]
theorem onM_end1 (ax az bx bz : Int) : onM ax az bx bz ax az = true := by unfold onM; rw [gT_end1, bet_end1, bet_end1]; rfl
theorem onM_end2 (ax az bx bz : Int) : onM ax az bx bz bx bz = true := by unfold onM; rw [gT_end2, bet_end2, bet_end2]; rfl
def meetM (ax az bx bz cx cz dx dz : Int) : Bool :=
  (onM ax az bx bz cx cz || onM ax az bx bz dx dz || onM cx cz dx dz ax az || onM cx cz dx dz bx bz) ||
    (decide (sgn (gT ax az bx bz cx cz) * sgn (gT ax az bx bz dx dz) < 0) && decide (sgn (gT cx cz dx dz ax az) * sgn (gT cx cz dx dz bx bz) < 0))
theorem sgn_mul (m n : Int) : w64 (sgn m * sgn n) = sgn m * sgn n := by
  have h1 := sgn_bd m
  have h2 := sgn_bd n
  have := mul_abs_le (X := 1) (Y := 1) h1.1 h1.2 h2.1 h2.2
  rw [w64_id] <;> omega
theorem meet_bd {ax az bx bz cx cz dx dz : Int} (h1 : Bd ax) (h2 : Bd az) (h3 : Bd bx) (h4 : Bd bz) (h5 : Bd cx) (h6 : Bd cz) (h7 : Bd dx) (h8 : Bd dz) : gmeetF ax az bx bz cx cz dx dz = meetM ax az bx bz cx cz dx dz := by
  rw [gmeetF_eq, on_bd h1 h2 h3 h4 h5 h6, on_bd h1 h2 h3 h4 h7 h8, on_bd h5 h6 h7 h8 h1 h2, on_bd h5 h6 h7 h8 h3 h4, turn_bd h1 h2 h3 h4 h5 h6, turn_bd h1 h2 h3 h4 h7 h8, turn_bd h5 h6 h7 h8 h1 h2, turn_bd h5 h6 h7 h8 h3 h4, sgn_mul, sgn_mul]
  unfold meetM
  generalize (onM _ _ _ _ _ _ || _ || _ || _ : Bool) = p
  cases p <;> rfl
theorem neg_mul_neg' (m n : Int) : -m * -n = m * n := by grind
theorem meetM_swap1 (ax az bx bz cx cz dx dz : Int) : meetM bx bz ax az cx cz dx dz = meetM ax az bx bz cx cz dx dz := by
  unfold meetM
  rw [onM_swap ax az bx bz cx cz, onM_swap ax az bx bz dx dz, gT_swap1 ax az bx bz cx cz, gT_swap1 ax az bx bz dx dz, sgn_neg, sgn_neg, neg_mul_neg', Int.mul_comm (sgn (gT cx cz dx dz bx bz))]
  generalize onM cx cz dx dz ax az = p
  generalize onM cx cz dx dz bx bz = q
  rw [Bool.or_assoc _ p q, Bool.or_assoc _ q p, Bool.or_comm p q]
theorem meetM_turn (ax az bx bz cx cz dx dz : Int) : meetM cx cz dx dz ax az bx bz = meetM ax az bx bz cx cz dx dz := by
  unfold meetM
  generalize onM cx cz dx dz ax az = p
  generalize onM cx cz dx dz bx bz = q
  generalize onM ax az bx bz cx cz = r
  generalize onM ax az bx bz dx dz = s
  generalize decide (sgn (gT ax az bx bz cx cz) * sgn (gT ax az bx bz dx dz) < 0) = t
  generalize decide (sgn (gT cx cz dx dz ax az) * sgn (gT cx cz dx dz bx bz) < 0) = u
  cases p <;> cases q <;> cases r <;> cases s <;> cases t <;> cases u <;> rfl
theorem meetM_swap2 (ax az bx bz cx cz dx dz : Int) : meetM ax az bx bz dx dz cx cz = meetM ax az bx bz cx cz dx dz := by
  rw [← meetM_turn ax az bx bz dx dz cx cz, meetM_swap1, meetM_turn]
theorem meetM_add (ax az bx bz cx cz dx dz x z : Int) : meetM (ax + x) (az + z) (bx + x) (bz + z) (cx + x) (cz + z) (dx + x) (dz + z) = meetM ax az bx bz cx cz dx dz := by
  unfold meetM
  simp only [onM_add, gT_add]
end Go.Proofs.Yteneneadfpkahaa
