/- Contracts of the functions that the claim reaches, as the symbolic executor tells them. No conditions. -/
import Derived.Test.YteneneadfpkahaaProg
import Derived.Test.YteneneadfpkahaaSxCon
import Derived.Test.YteneneadfpkahaaSxLoop4
import Derived.Test.YteneneadfpkahaaBiM
namespace Go.Proofs.Yteneneadfpkahaa
open Go Go.RowKit Go.Sx
set_option maxRecDepth 100000
set_option linter.unusedVariables false

/-! footpath/footpathlaw06.BinsOne, which has loops: heads 0: p6 n7 -/
noncomputable def binsOneΓ : List Con := [cfg6C, countC, touchC, wakes06C]
noncomputable def binsOneW : T := walk0 Try.prog binsOneΓ 4000 Try.f4 [int1, int1, int1, int1, int1, int1]
noncomputable def binsOneX0 : Head × Nat := headAt [] [] 6 (standAt binsOneW 0)
noncomputable def binsOneV0 : T := binsOneX0.1.walk Try.prog binsOneΓ 4000
noncomputable def binsOneHs : List Head := [binsOneX0.1]
/-- The numbers that the law makes of its arguments. -/
def bW (b : Int) : Int := w64 (1 + Int.tmod (w64 (Int.tmod b 32 + 32)) 32)
def bC (a : Int) : Int := Int.tmod (w64 (Int.tmod a 4 + 4)) 4
def bX (d W : Int) : Int := Int.tmod (w64 (Int.tmod d W + W)) W
theorem rest_bd (n k : Int) (hk : 1 ≤ k) (hk2 : k ≤ 32) : 0 ≤ Int.tmod (w64 (Int.tmod n k + k)) k ∧ Int.tmod (w64 (Int.tmod n k + k)) k < k := by
  have h1 := Int.lt_tmod_of_pos n (by omega : 0 < k)
  have h2 := Int.tmod_lt_of_pos n (by omega : 0 < k)
  have e : w64 (Int.tmod n k + k) = Int.tmod n k + k := by rw [w64_id] <;> omega
  rw [e]
  exact ⟨Int.tmod_nonneg _ (by omega), Int.tmod_lt_of_pos _ (by omega)⟩
theorem bW_bd (b : Int) : 1 ≤ bW b ∧ bW b ≤ 32 := by
  have := rest_bd b 32 (by omega) (by omega)
  unfold bW
  rw [w64_id] <;> omega
theorem bC_bd (a : Int) : 0 ≤ bC a ∧ bC a ≤ 3 := by
  have := rest_bd a 4 (by omega) (by omega)
  unfold bC
  omega
def binsOneI0 (_a b c _d _e _f : Int) (_p6 : Bool) (n7 : Int) : Prop := 0 ≤ n7 ∧ n7 ≤ wd (bW b) * wd (bW c)
def binsOnem0 (_a b c _d _e _f : Int) (_p6 : Bool) (n7 : Int) : Nat × Nat := ((wd (bW b) * wd (bW c) - n7).toNat, 0)
def binsOneStart (a : Int) (b : Int) (c : Int) (d : Int) (e : Int) (f : Int) : Prop := ((!(((w64 (1 + Int.tmod (w64 (Int.tmod b 32 + 32)) 32)) == 0))) = true ∧ ((!(((w64 (1 + Int.tmod (w64 (Int.tmod b 32 + 32)) 32)) == 0))) = true ∧ ((!(((w64 (1 + Int.tmod (w64 (Int.tmod c 32 + 32)) 32)) == 0))) = true ∧ ((!(((w64 (1 + Int.tmod (w64 (Int.tmod c 32 + 32)) 32)) == 0))) = true ∧ binsOneI0 a b c d e f false 0))))
def binsOneStep0 (a : Int) (b : Int) (c : Int) (d : Int) (e : Int) (f : Int) (p6 : Bool) (n7 : Int) : Prop := (((decide (n7 < countF (cfg6F0 (Int.tmod (w64 (Int.tmod a 4 + 4)) 4) (w64 (1 + Int.tmod (w64 (Int.tmod b 32 + 32)) 32)) (w64 (1 + Int.tmod (w64 (Int.tmod c 32 + 32)) 32))) (cfg6F1 (Int.tmod (w64 (Int.tmod a 4 + 4)) 4) (w64 (1 + Int.tmod (w64 (Int.tmod b 32 + 32)) 32)) (w64 (1 + Int.tmod (w64 (Int.tmod c 32 + 32)) 32))) (cfg6F2 (Int.tmod (w64 (Int.tmod a 4 + 4)) 4) (w64 (1 + Int.tmod (w64 (Int.tmod b 32 + 32)) 32)) (w64 (1 + Int.tmod (w64 (Int.tmod c 32 + 32)) 32))) (cfg6F3 (Int.tmod (w64 (Int.tmod a 4 + 4)) 4) (w64 (1 + Int.tmod (w64 (Int.tmod b 32 + 32)) 32)) (w64 (1 + Int.tmod (w64 (Int.tmod c 32 + 32)) 32))) (cfg6F4 (Int.tmod (w64 (Int.tmod a 4 + 4)) 4) (w64 (1 + Int.tmod (w64 (Int.tmod b 32 + 32)) 32)) (w64 (1 + Int.tmod (w64 (Int.tmod c 32 + 32)) 32))) (cfg6F5 (Int.tmod (w64 (Int.tmod a 4 + 4)) 4) (w64 (1 + Int.tmod (w64 (Int.tmod b 32 + 32)) 32)) (w64 (1 + Int.tmod (w64 (Int.tmod c 32 + 32)) 32))) (cfg6F6 (Int.tmod (w64 (Int.tmod a 4 + 4)) 4) (w64 (1 + Int.tmod (w64 (Int.tmod b 32 + 32)) 32)) (w64 (1 + Int.tmod (w64 (Int.tmod c 32 + 32)) 32))))) = true → ((!(((w64 (Int.tdiv (w64 (w64 (1 + Int.tmod (w64 (Int.tmod b 32 + 32)) 32) + 7)) 8)) == 0))) = true ∧ ((!(((w64 (Int.tdiv (w64 (w64 (1 + Int.tmod (w64 (Int.tmod b 32 + 32)) 32) + 7)) 8)) == 0))) = true ∧ ((((!(((touchF (cfg6F0 (Int.tmod (w64 (Int.tmod a 4 + 4)) 4) (w64 (1 + Int.tmod (w64 (Int.tmod b 32 + 32)) 32)) (w64 (1 + Int.tmod (w64 (Int.tmod c 32 + 32)) 32))) (cfg6F1 (Int.tmod (w64 (Int.tmod a 4 + 4)) 4) (w64 (1 + Int.tmod (w64 (Int.tmod b 32 + 32)) 32)) (w64 (1 + Int.tmod (w64 (Int.tmod c 32 + 32)) 32))) (cfg6F2 (Int.tmod (w64 (Int.tmod a 4 + 4)) 4) (w64 (1 + Int.tmod (w64 (Int.tmod b 32 + 32)) 32)) (w64 (1 + Int.tmod (w64 (Int.tmod c 32 + 32)) 32))) (cfg6F3 (Int.tmod (w64 (Int.tmod a 4 + 4)) 4) (w64 (1 + Int.tmod (w64 (Int.tmod b 32 + 32)) 32)) (w64 (1 + Int.tmod (w64 (Int.tmod c 32 + 32)) 32))) (cfg6F4 (Int.tmod (w64 (Int.tmod a 4 + 4)) 4) (w64 (1 + Int.tmod (w64 (Int.tmod b 32 + 32)) 32)) (w64 (1 + Int.tmod (w64 (Int.tmod c 32 + 32)) 32))) (cfg6F5 (Int.tmod (w64 (Int.tmod a 4 + 4)) 4) (w64 (1 + Int.tmod (w64 (Int.tmod b 32 + 32)) 32)) (w64 (1 + Int.tmod (w64 (Int.tmod c 32 + 32)) 32))) (cfg6F6 (Int.tmod (w64 (Int.tmod a 4 + 4)) 4) (w64 (1 + Int.tmod (w64 (Int.tmod b 32 + 32)) 32)) (w64 (1 + Int.tmod (w64 (Int.tmod c 32 + 32)) 32))) n7 (Int.tmod (w64 (Int.tmod d (w64 (1 + Int.tmod (w64 (Int.tmod b 32 + 32)) 32)) + w64 (1 + Int.tmod (w64 (Int.tmod b 32 + 32)) 32))) (w64 (1 + Int.tmod (w64 (Int.tmod b 32 + 32)) 32))) (Int.tmod (w64 (Int.tmod e (w64 (1 + Int.tmod (w64 (Int.tmod c 32 + 32)) 32)) + w64 (1 + Int.tmod (w64 (Int.tmod c 32 + 32)) 32))) (w64 (1 + Int.tmod (w64 (Int.tmod c 32 + 32)) 32))) (Int.tmod (w64 (Int.tmod d (w64 (1 + Int.tmod (w64 (Int.tmod b 32 + 32)) 32)) + w64 (1 + Int.tmod (w64 (Int.tmod b 32 + 32)) 32))) (w64 (1 + Int.tmod (w64 (Int.tmod b 32 + 32)) 32))) (Int.tmod (w64 (Int.tmod e (w64 (1 + Int.tmod (w64 (Int.tmod c 32 + 32)) 32)) + w64 (1 + Int.tmod (w64 (Int.tmod c 32 + 32)) 32))) (w64 (1 + Int.tmod (w64 (Int.tmod c 32 + 32)) 32)))) == ((((decide (w64 (w64 (w64 (Int.tmod n7 (w64 (Int.tdiv (w64 (w64 (1 + Int.tmod (w64 (Int.tmod b 32 + 32)) 32) + 7)) 8)) * 8) - Int.tmod (w64 (Int.tmod a 4 + 4)) 4) - 4) ≤ Int.tmod (w64 (Int.tmod d (w64 (1 + Int.tmod (w64 (Int.tmod b 32 + 32)) 32)) + w64 (1 + Int.tmod (w64 (Int.tmod b 32 + 32)) 32))) (w64 (1 + Int.tmod (w64 (Int.tmod b 32 + 32)) 32))) && decide (Int.tmod (w64 (Int.tmod d (w64 (1 + Int.tmod (w64 (Int.tmod b 32 + 32)) 32)) + w64 (1 + Int.tmod (w64 (Int.tmod b 32 + 32)) 32))) (w64 (1 + Int.tmod (w64 (Int.tmod b 32 + 32)) 32)) ≤ w64 (w64 (min (w64 (w64 (Int.tmod n7 (w64 (Int.tdiv (w64 (w64 (1 + Int.tmod (w64 (Int.tmod b 32 + 32)) 32) + 7)) 8)) * 8) + 7)) (w64 (w64 (1 + Int.tmod (w64 (Int.tmod b 32 + 32)) 32) - 1)) + Int.tmod (w64 (Int.tmod a 4 + 4)) 4) + 4))) && decide (w64 (w64 (w64 (w64 (Int.tdiv n7 (w64 (Int.tdiv (w64 (w64 (1 + Int.tmod (w64 (Int.tmod b 32 + 32)) 32) + 7)) 8))) * 8) - Int.tmod (w64 (Int.tmod a 4 + 4)) 4) - 4) ≤ Int.tmod (w64 (Int.tmod e (w64 (1 + Int.tmod (w64 (Int.tmod c 32 + 32)) 32)) + w64 (1 + Int.tmod (w64 (Int.tmod c 32 + 32)) 32))) (w64 (1 + Int.tmod (w64 (Int.tmod c 32 + 32)) 32)))) && decide (Int.tmod (w64 (Int.tmod e (w64 (1 + Int.tmod (w64 (Int.tmod c 32 + 32)) 32)) + w64 (1 + Int.tmod (w64 (Int.tmod c 32 + 32)) 32))) (w64 (1 + Int.tmod (w64 (Int.tmod c 32 + 32)) 32)) ≤ w64 (w64 (min (w64 (w64 (w64 (Int.tdiv n7 (w64 (Int.tdiv (w64 (w64 (1 + Int.tmod (w64 (Int.tmod b 32 + 32)) 32) + 7)) 8))) * 8) + 7)) (w64 (w64 (1 + Int.tmod (w64 (Int.tmod c 32 + 32)) 32) - 1)) + Int.tmod (w64 (Int.tmod a 4 + 4)) 4) + 4)))))) || ((((decide (w64 (w64 (w64 (Int.tmod n7 (w64 (Int.tdiv (w64 (w64 (1 + Int.tmod (w64 (Int.tmod b 32 + 32)) 32) + 7)) 8)) * 8) - Int.tmod (w64 (Int.tmod a 4 + 4)) 4) - 4) ≤ Int.tmod (w64 (Int.tmod d (w64 (1 + Int.tmod (w64 (Int.tmod b 32 + 32)) 32)) + w64 (1 + Int.tmod (w64 (Int.tmod b 32 + 32)) 32))) (w64 (1 + Int.tmod (w64 (Int.tmod b 32 + 32)) 32))) && decide (Int.tmod (w64 (Int.tmod d (w64 (1 + Int.tmod (w64 (Int.tmod b 32 + 32)) 32)) + w64 (1 + Int.tmod (w64 (Int.tmod b 32 + 32)) 32))) (w64 (1 + Int.tmod (w64 (Int.tmod b 32 + 32)) 32)) ≤ w64 (w64 (min (w64 (w64 (Int.tmod n7 (w64 (Int.tdiv (w64 (w64 (1 + Int.tmod (w64 (Int.tmod b 32 + 32)) 32) + 7)) 8)) * 8) + 7)) (w64 (w64 (1 + Int.tmod (w64 (Int.tmod b 32 + 32)) 32) - 1)) + Int.tmod (w64 (Int.tmod a 4 + 4)) 4) + 4))) && decide (w64 (w64 (w64 (w64 (Int.tdiv n7 (w64 (Int.tdiv (w64 (w64 (1 + Int.tmod (w64 (Int.tmod b 32 + 32)) 32) + 7)) 8))) * 8) - Int.tmod (w64 (Int.tmod a 4 + 4)) 4) - 4) ≤ Int.tmod (w64 (Int.tmod e (w64 (1 + Int.tmod (w64 (Int.tmod c 32 + 32)) 32)) + w64 (1 + Int.tmod (w64 (Int.tmod c 32 + 32)) 32))) (w64 (1 + Int.tmod (w64 (Int.tmod c 32 + 32)) 32)))) && decide (Int.tmod (w64 (Int.tmod e (w64 (1 + Int.tmod (w64 (Int.tmod c 32 + 32)) 32)) + w64 (1 + Int.tmod (w64 (Int.tmod c 32 + 32)) 32))) (w64 (1 + Int.tmod (w64 (Int.tmod c 32 + 32)) 32)) ≤ w64 (w64 (min (w64 (w64 (w64 (Int.tdiv n7 (w64 (Int.tdiv (w64 (w64 (1 + Int.tmod (w64 (Int.tmod b 32 + 32)) 32) + 7)) 8))) * 8) + 7)) (w64 (w64 (1 + Int.tmod (w64 (Int.tmod c 32 + 32)) 32) - 1)) + Int.tmod (w64 (Int.tmod a 4 + 4)) 4) + 4))) && !(touchF (cfg6F0 (Int.tmod (w64 (Int.tmod a 4 + 4)) 4) (w64 (1 + Int.tmod (w64 (Int.tmod b 32 + 32)) 32)) (w64 (1 + Int.tmod (w64 (Int.tmod c 32 + 32)) 32))) (cfg6F1 (Int.tmod (w64 (Int.tmod a 4 + 4)) 4) (w64 (1 + Int.tmod (w64 (Int.tmod b 32 + 32)) 32)) (w64 (1 + Int.tmod (w64 (Int.tmod c 32 + 32)) 32))) (cfg6F2 (Int.tmod (w64 (Int.tmod a 4 + 4)) 4) (w64 (1 + Int.tmod (w64 (Int.tmod b 32 + 32)) 32)) (w64 (1 + Int.tmod (w64 (Int.tmod c 32 + 32)) 32))) (cfg6F3 (Int.tmod (w64 (Int.tmod a 4 + 4)) 4) (w64 (1 + Int.tmod (w64 (Int.tmod b 32 + 32)) 32)) (w64 (1 + Int.tmod (w64 (Int.tmod c 32 + 32)) 32))) (cfg6F4 (Int.tmod (w64 (Int.tmod a 4 + 4)) 4) (w64 (1 + Int.tmod (w64 (Int.tmod b 32 + 32)) 32)) (w64 (1 + Int.tmod (w64 (Int.tmod c 32 + 32)) 32))) (cfg6F5 (Int.tmod (w64 (Int.tmod a 4 + 4)) 4) (w64 (1 + Int.tmod (w64 (Int.tmod b 32 + 32)) 32)) (w64 (1 + Int.tmod (w64 (Int.tmod c 32 + 32)) 32))) (cfg6F6 (Int.tmod (w64 (Int.tmod a 4 + 4)) 4) (w64 (1 + Int.tmod (w64 (Int.tmod b 32 + 32)) 32)) (w64 (1 + Int.tmod (w64 (Int.tmod c 32 + 32)) 32))) n7 (w64 (Int.tmod (w64 (Int.tmod d (w64 (1 + Int.tmod (w64 (Int.tmod b 32 + 32)) 32)) + w64 (1 + Int.tmod (w64 (Int.tmod b 32 + 32)) 32))) (w64 (1 + Int.tmod (w64 (Int.tmod b 32 + 32)) 32)) - Int.tmod (w64 (Int.tmod f 9 + 9)) 9)) (w64 (Int.tmod (w64 (Int.tmod e (w64 (1 + Int.tmod (w64 (Int.tmod c 32 + 32)) 32)) + w64 (1 + Int.tmod (w64 (Int.tmod c 32 + 32)) 32))) (w64 (1 + Int.tmod (w64 (Int.tmod c 32 + 32)) 32)) - Int.tmod (w64 (Int.tmod f 9 + 9)) 9)) (w64 (Int.tmod (w64 (Int.tmod d (w64 (1 + Int.tmod (w64 (Int.tmod b 32 + 32)) 32)) + w64 (1 + Int.tmod (w64 (Int.tmod b 32 + 32)) 32))) (w64 (1 + Int.tmod (w64 (Int.tmod b 32 + 32)) 32)) + Int.tmod (w64 (Int.tmod f 9 + 9)) 9)) (w64 (Int.tmod (w64 (Int.tmod e (w64 (1 + Int.tmod (w64 (Int.tmod c 32 + 32)) 32)) + w64 (1 + Int.tmod (w64 (Int.tmod c 32 + 32)) 32))) (w64 (1 + Int.tmod (w64 (Int.tmod c 32 + 32)) 32)) + Int.tmod (w64 (Int.tmod f 9 + 9)) 9)))))) = true → (Value.bool (false) = Value.bool true)) ∧ (((!(((touchF (cfg6F0 (Int.tmod (w64 (Int.tmod a 4 + 4)) 4) (w64 (1 + Int.tmod (w64 (Int.tmod b 32 + 32)) 32)) (w64 (1 + Int.tmod (w64 (Int.tmod c 32 + 32)) 32))) (cfg6F1 (Int.tmod (w64 (Int.tmod a 4 + 4)) 4) (w64 (1 + Int.tmod (w64 (Int.tmod b 32 + 32)) 32)) (w64 (1 + Int.tmod (w64 (Int.tmod c 32 + 32)) 32))) (cfg6F2 (Int.tmod (w64 (Int.tmod a 4 + 4)) 4) (w64 (1 + Int.tmod (w64 (Int.tmod b 32 + 32)) 32)) (w64 (1 + Int.tmod (w64 (Int.tmod c 32 + 32)) 32))) (cfg6F3 (Int.tmod (w64 (Int.tmod a 4 + 4)) 4) (w64 (1 + Int.tmod (w64 (Int.tmod b 32 + 32)) 32)) (w64 (1 + Int.tmod (w64 (Int.tmod c 32 + 32)) 32))) (cfg6F4 (Int.tmod (w64 (Int.tmod a 4 + 4)) 4) (w64 (1 + Int.tmod (w64 (Int.tmod b 32 + 32)) 32)) (w64 (1 + Int.tmod (w64 (Int.tmod c 32 + 32)) 32))) (cfg6F5 (Int.tmod (w64 (Int.tmod a 4 + 4)) 4) (w64 (1 + Int.tmod (w64 (Int.tmod b 32 + 32)) 32)) (w64 (1 + Int.tmod (w64 (Int.tmod c 32 + 32)) 32))) (cfg6F6 (Int.tmod (w64 (Int.tmod a 4 + 4)) 4) (w64 (1 + Int.tmod (w64 (Int.tmod b 32 + 32)) 32)) (w64 (1 + Int.tmod (w64 (Int.tmod c 32 + 32)) 32))) n7 (Int.tmod (w64 (Int.tmod d (w64 (1 + Int.tmod (w64 (Int.tmod b 32 + 32)) 32)) + w64 (1 + Int.tmod (w64 (Int.tmod b 32 + 32)) 32))) (w64 (1 + Int.tmod (w64 (Int.tmod b 32 + 32)) 32))) (Int.tmod (w64 (Int.tmod e (w64 (1 + Int.tmod (w64 (Int.tmod c 32 + 32)) 32)) + w64 (1 + Int.tmod (w64 (Int.tmod c 32 + 32)) 32))) (w64 (1 + Int.tmod (w64 (Int.tmod c 32 + 32)) 32))) (Int.tmod (w64 (Int.tmod d (w64 (1 + Int.tmod (w64 (Int.tmod b 32 + 32)) 32)) + w64 (1 + Int.tmod (w64 (Int.tmod b 32 + 32)) 32))) (w64 (1 + Int.tmod (w64 (Int.tmod b 32 + 32)) 32))) (Int.tmod (w64 (Int.tmod e (w64 (1 + Int.tmod (w64 (Int.tmod c 32 + 32)) 32)) + w64 (1 + Int.tmod (w64 (Int.tmod c 32 + 32)) 32))) (w64 (1 + Int.tmod (w64 (Int.tmod c 32 + 32)) 32)))) == ((((decide (w64 (w64 (w64 (Int.tmod n7 (w64 (Int.tdiv (w64 (w64 (1 + Int.tmod (w64 (Int.tmod b 32 + 32)) 32) + 7)) 8)) * 8) - Int.tmod (w64 (Int.tmod a 4 + 4)) 4) - 4) ≤ Int.tmod (w64 (Int.tmod d (w64 (1 + Int.tmod (w64 (Int.tmod b 32 + 32)) 32)) + w64 (1 + Int.tmod (w64 (Int.tmod b 32 + 32)) 32))) (w64 (1 + Int.tmod (w64 (Int.tmod b 32 + 32)) 32))) && decide (Int.tmod (w64 (Int.tmod d (w64 (1 + Int.tmod (w64 (Int.tmod b 32 + 32)) 32)) + w64 (1 + Int.tmod (w64 (Int.tmod b 32 + 32)) 32))) (w64 (1 + Int.tmod (w64 (Int.tmod b 32 + 32)) 32)) ≤ w64 (w64 (min (w64 (w64 (Int.tmod n7 (w64 (Int.tdiv (w64 (w64 (1 + Int.tmod (w64 (Int.tmod b 32 + 32)) 32) + 7)) 8)) * 8) + 7)) (w64 (w64 (1 + Int.tmod (w64 (Int.tmod b 32 + 32)) 32) - 1)) + Int.tmod (w64 (Int.tmod a 4 + 4)) 4) + 4))) && decide (w64 (w64 (w64 (w64 (Int.tdiv n7 (w64 (Int.tdiv (w64 (w64 (1 + Int.tmod (w64 (Int.tmod b 32 + 32)) 32) + 7)) 8))) * 8) - Int.tmod (w64 (Int.tmod a 4 + 4)) 4) - 4) ≤ Int.tmod (w64 (Int.tmod e (w64 (1 + Int.tmod (w64 (Int.tmod c 32 + 32)) 32)) + w64 (1 + Int.tmod (w64 (Int.tmod c 32 + 32)) 32))) (w64 (1 + Int.tmod (w64 (Int.tmod c 32 + 32)) 32)))) && decide (Int.tmod (w64 (Int.tmod e (w64 (1 + Int.tmod (w64 (Int.tmod c 32 + 32)) 32)) + w64 (1 + Int.tmod (w64 (Int.tmod c 32 + 32)) 32))) (w64 (1 + Int.tmod (w64 (Int.tmod c 32 + 32)) 32)) ≤ w64 (w64 (min (w64 (w64 (w64 (Int.tdiv n7 (w64 (Int.tdiv (w64 (w64 (1 + Int.tmod (w64 (Int.tmod b 32 + 32)) 32) + 7)) 8))) * 8) + 7)) (w64 (w64 (1 + Int.tmod (w64 (Int.tmod c 32 + 32)) 32) - 1)) + Int.tmod (w64 (Int.tmod a 4 + 4)) 4) + 4)))))) || ((((decide (w64 (w64 (w64 (Int.tmod n7 (w64 (Int.tdiv (w64 (w64 (1 + Int.tmod (w64 (Int.tmod b 32 + 32)) 32) + 7)) 8)) * 8) - Int.tmod (w64 (Int.tmod a 4 + 4)) 4) - 4) ≤ Int.tmod (w64 (Int.tmod d (w64 (1 + Int.tmod (w64 (Int.tmod b 32 + 32)) 32)) + w64 (1 + Int.tmod (w64 (Int.tmod b 32 + 32)) 32))) (w64 (1 + Int.tmod (w64 (Int.tmod b 32 + 32)) 32))) && decide (Int.tmod (w64 (Int.tmod d (w64 (1 + Int.tmod (w64 (Int.tmod b 32 + 32)) 32)) + w64 (1 + Int.tmod (w64 (Int.tmod b 32 + 32)) 32))) (w64 (1 + Int.tmod (w64 (Int.tmod b 32 + 32)) 32)) ≤ w64 (w64 (min (w64 (w64 (Int.tmod n7 (w64 (Int.tdiv (w64 (w64 (1 + Int.tmod (w64 (Int.tmod b 32 + 32)) 32) + 7)) 8)) * 8) + 7)) (w64 (w64 (1 + Int.tmod (w64 (Int.tmod b 32 + 32)) 32) - 1)) + Int.tmod (w64 (Int.tmod a 4 + 4)) 4) + 4))) && decide (w64 (w64 (w64 (w64 (Int.tdiv n7 (w64 (Int.tdiv (w64 (w64 (1 + Int.tmod (w64 (Int.tmod b 32 + 32)) 32) + 7)) 8))) * 8) - Int.tmod (w64 (Int.tmod a 4 + 4)) 4) - 4) ≤ Int.tmod (w64 (Int.tmod e (w64 (1 + Int.tmod (w64 (Int.tmod c 32 + 32)) 32)) + w64 (1 + Int.tmod (w64 (Int.tmod c 32 + 32)) 32))) (w64 (1 + Int.tmod (w64 (Int.tmod c 32 + 32)) 32)))) && decide (Int.tmod (w64 (Int.tmod e (w64 (1 + Int.tmod (w64 (Int.tmod c 32 + 32)) 32)) + w64 (1 + Int.tmod (w64 (Int.tmod c 32 + 32)) 32))) (w64 (1 + Int.tmod (w64 (Int.tmod c 32 + 32)) 32)) ≤ w64 (w64 (min (w64 (w64 (w64 (Int.tdiv n7 (w64 (Int.tdiv (w64 (w64 (1 + Int.tmod (w64 (Int.tmod b 32 + 32)) 32) + 7)) 8))) * 8) + 7)) (w64 (w64 (1 + Int.tmod (w64 (Int.tmod c 32 + 32)) 32) - 1)) + Int.tmod (w64 (Int.tmod a 4 + 4)) 4) + 4))) && !(touchF (cfg6F0 (Int.tmod (w64 (Int.tmod a 4 + 4)) 4) (w64 (1 + Int.tmod (w64 (Int.tmod b 32 + 32)) 32)) (w64 (1 + Int.tmod (w64 (Int.tmod c 32 + 32)) 32))) (cfg6F1 (Int.tmod (w64 (Int.tmod a 4 + 4)) 4) (w64 (1 + Int.tmod (w64 (Int.tmod b 32 + 32)) 32)) (w64 (1 + Int.tmod (w64 (Int.tmod c 32 + 32)) 32))) (cfg6F2 (Int.tmod (w64 (Int.tmod a 4 + 4)) 4) (w64 (1 + Int.tmod (w64 (Int.tmod b 32 + 32)) 32)) (w64 (1 + Int.tmod (w64 (Int.tmod c 32 + 32)) 32))) (cfg6F3 (Int.tmod (w64 (Int.tmod a 4 + 4)) 4) (w64 (1 + Int.tmod (w64 (Int.tmod b 32 + 32)) 32)) (w64 (1 + Int.tmod (w64 (Int.tmod c 32 + 32)) 32))) (cfg6F4 (Int.tmod (w64 (Int.tmod a 4 + 4)) 4) (w64 (1 + Int.tmod (w64 (Int.tmod b 32 + 32)) 32)) (w64 (1 + Int.tmod (w64 (Int.tmod c 32 + 32)) 32))) (cfg6F5 (Int.tmod (w64 (Int.tmod a 4 + 4)) 4) (w64 (1 + Int.tmod (w64 (Int.tmod b 32 + 32)) 32)) (w64 (1 + Int.tmod (w64 (Int.tmod c 32 + 32)) 32))) (cfg6F6 (Int.tmod (w64 (Int.tmod a 4 + 4)) 4) (w64 (1 + Int.tmod (w64 (Int.tmod b 32 + 32)) 32)) (w64 (1 + Int.tmod (w64 (Int.tmod c 32 + 32)) 32))) n7 (w64 (Int.tmod (w64 (Int.tmod d (w64 (1 + Int.tmod (w64 (Int.tmod b 32 + 32)) 32)) + w64 (1 + Int.tmod (w64 (Int.tmod b 32 + 32)) 32))) (w64 (1 + Int.tmod (w64 (Int.tmod b 32 + 32)) 32)) - Int.tmod (w64 (Int.tmod f 9 + 9)) 9)) (w64 (Int.tmod (w64 (Int.tmod e (w64 (1 + Int.tmod (w64 (Int.tmod c 32 + 32)) 32)) + w64 (1 + Int.tmod (w64 (Int.tmod c 32 + 32)) 32))) (w64 (1 + Int.tmod (w64 (Int.tmod c 32 + 32)) 32)) - Int.tmod (w64 (Int.tmod f 9 + 9)) 9)) (w64 (Int.tmod (w64 (Int.tmod d (w64 (1 + Int.tmod (w64 (Int.tmod b 32 + 32)) 32)) + w64 (1 + Int.tmod (w64 (Int.tmod b 32 + 32)) 32))) (w64 (1 + Int.tmod (w64 (Int.tmod b 32 + 32)) 32)) + Int.tmod (w64 (Int.tmod f 9 + 9)) 9)) (w64 (Int.tmod (w64 (Int.tmod e (w64 (1 + Int.tmod (w64 (Int.tmod c 32 + 32)) 32)) + w64 (1 + Int.tmod (w64 (Int.tmod c 32 + 32)) 32))) (w64 (1 + Int.tmod (w64 (Int.tmod c 32 + 32)) 32)) + Int.tmod (w64 (Int.tmod f 9 + 9)) 9)))))) = false → (binsOneI0 a b c d e f p6 (w64 (n7 + 1)) ∧ lexLt (binsOnem0 a b c d e f p6 (w64 (n7 + 1))) (binsOnem0 a b c d e f p6 n7))))))) ∧ ((decide (n7 < countF (cfg6F0 (Int.tmod (w64 (Int.tmod a 4 + 4)) 4) (w64 (1 + Int.tmod (w64 (Int.tmod b 32 + 32)) 32)) (w64 (1 + Int.tmod (w64 (Int.tmod c 32 + 32)) 32))) (cfg6F1 (Int.tmod (w64 (Int.tmod a 4 + 4)) 4) (w64 (1 + Int.tmod (w64 (Int.tmod b 32 + 32)) 32)) (w64 (1 + Int.tmod (w64 (Int.tmod c 32 + 32)) 32))) (cfg6F2 (Int.tmod (w64 (Int.tmod a 4 + 4)) 4) (w64 (1 + Int.tmod (w64 (Int.tmod b 32 + 32)) 32)) (w64 (1 + Int.tmod (w64 (Int.tmod c 32 + 32)) 32))) (cfg6F3 (Int.tmod (w64 (Int.tmod a 4 + 4)) 4) (w64 (1 + Int.tmod (w64 (Int.tmod b 32 + 32)) 32)) (w64 (1 + Int.tmod (w64 (Int.tmod c 32 + 32)) 32))) (cfg6F4 (Int.tmod (w64 (Int.tmod a 4 + 4)) 4) (w64 (1 + Int.tmod (w64 (Int.tmod b 32 + 32)) 32)) (w64 (1 + Int.tmod (w64 (Int.tmod c 32 + 32)) 32))) (cfg6F5 (Int.tmod (w64 (Int.tmod a 4 + 4)) 4) (w64 (1 + Int.tmod (w64 (Int.tmod b 32 + 32)) 32)) (w64 (1 + Int.tmod (w64 (Int.tmod c 32 + 32)) 32))) (cfg6F6 (Int.tmod (w64 (Int.tmod a 4 + 4)) 4) (w64 (1 + Int.tmod (w64 (Int.tmod b 32 + 32)) 32)) (w64 (1 + Int.tmod (w64 (Int.tmod c 32 + 32)) 32))))) = false → (Value.bool (((((countF (cfg6F0 (Int.tmod (w64 (Int.tmod a 4 + 4)) 4) (w64 (1 + Int.tmod (w64 (Int.tmod b 32 + 32)) 32)) (w64 (1 + Int.tmod (w64 (Int.tmod c 32 + 32)) 32))) (cfg6F1 (Int.tmod (w64 (Int.tmod a 4 + 4)) 4) (w64 (1 + Int.tmod (w64 (Int.tmod b 32 + 32)) 32)) (w64 (1 + Int.tmod (w64 (Int.tmod c 32 + 32)) 32))) (cfg6F2 (Int.tmod (w64 (Int.tmod a 4 + 4)) 4) (w64 (1 + Int.tmod (w64 (Int.tmod b 32 + 32)) 32)) (w64 (1 + Int.tmod (w64 (Int.tmod c 32 + 32)) 32))) (cfg6F3 (Int.tmod (w64 (Int.tmod a 4 + 4)) 4) (w64 (1 + Int.tmod (w64 (Int.tmod b 32 + 32)) 32)) (w64 (1 + Int.tmod (w64 (Int.tmod c 32 + 32)) 32))) (cfg6F4 (Int.tmod (w64 (Int.tmod a 4 + 4)) 4) (w64 (1 + Int.tmod (w64 (Int.tmod b 32 + 32)) 32)) (w64 (1 + Int.tmod (w64 (Int.tmod c 32 + 32)) 32))) (cfg6F5 (Int.tmod (w64 (Int.tmod a 4 + 4)) 4) (w64 (1 + Int.tmod (w64 (Int.tmod b 32 + 32)) 32)) (w64 (1 + Int.tmod (w64 (Int.tmod c 32 + 32)) 32))) (cfg6F6 (Int.tmod (w64 (Int.tmod a 4 + 4)) 4) (w64 (1 + Int.tmod (w64 (Int.tmod b 32 + 32)) 32)) (w64 (1 + Int.tmod (w64 (Int.tmod c 32 + 32)) 32)))) == (w64 (w64 (Int.tdiv (w64 (w64 (1 + Int.tmod (w64 (Int.tmod b 32 + 32)) 32) + 7)) 8) * w64 (Int.tdiv (w64 (w64 (1 + Int.tmod (w64 (Int.tmod c 32 + 32)) 32) + 7)) 8)))) && touchF (cfg6F0 (Int.tmod (w64 (Int.tmod a 4 + 4)) 4) (w64 (1 + Int.tmod (w64 (Int.tmod b 32 + 32)) 32)) (w64 (1 + Int.tmod (w64 (Int.tmod c 32 + 32)) 32))) (cfg6F1 (Int.tmod (w64 (Int.tmod a 4 + 4)) 4) (w64 (1 + Int.tmod (w64 (Int.tmod b 32 + 32)) 32)) (w64 (1 + Int.tmod (w64 (Int.tmod c 32 + 32)) 32))) (cfg6F2 (Int.tmod (w64 (Int.tmod a 4 + 4)) 4) (w64 (1 + Int.tmod (w64 (Int.tmod b 32 + 32)) 32)) (w64 (1 + Int.tmod (w64 (Int.tmod c 32 + 32)) 32))) (cfg6F3 (Int.tmod (w64 (Int.tmod a 4 + 4)) 4) (w64 (1 + Int.tmod (w64 (Int.tmod b 32 + 32)) 32)) (w64 (1 + Int.tmod (w64 (Int.tmod c 32 + 32)) 32))) (cfg6F4 (Int.tmod (w64 (Int.tmod a 4 + 4)) 4) (w64 (1 + Int.tmod (w64 (Int.tmod b 32 + 32)) 32)) (w64 (1 + Int.tmod (w64 (Int.tmod c 32 + 32)) 32))) (cfg6F5 (Int.tmod (w64 (Int.tmod a 4 + 4)) 4) (w64 (1 + Int.tmod (w64 (Int.tmod b 32 + 32)) 32)) (w64 (1 + Int.tmod (w64 (Int.tmod c 32 + 32)) 32))) (cfg6F6 (Int.tmod (w64 (Int.tmod a 4 + 4)) 4) (w64 (1 + Int.tmod (w64 (Int.tmod b 32 + 32)) 32)) (w64 (1 + Int.tmod (w64 (Int.tmod c 32 + 32)) 32))) (w64 (w64 (w64 (Int.tdiv (Int.tmod (w64 (Int.tmod e (w64 (1 + Int.tmod (w64 (Int.tmod c 32 + 32)) 32)) + w64 (1 + Int.tmod (w64 (Int.tmod c 32 + 32)) 32))) (w64 (1 + Int.tmod (w64 (Int.tmod c 32 + 32)) 32))) 8) * w64 (Int.tdiv (w64 (w64 (1 + Int.tmod (w64 (Int.tmod b 32 + 32)) 32) + 7)) 8)) + w64 (Int.tdiv (Int.tmod (w64 (Int.tmod d (w64 (1 + Int.tmod (w64 (Int.tmod b 32 + 32)) 32)) + w64 (1 + Int.tmod (w64 (Int.tmod b 32 + 32)) 32))) (w64 (1 + Int.tmod (w64 (Int.tmod b 32 + 32)) 32))) 8))) (Int.tmod (w64 (Int.tmod d (w64 (1 + Int.tmod (w64 (Int.tmod b 32 + 32)) 32)) + w64 (1 + Int.tmod (w64 (Int.tmod b 32 + 32)) 32))) (w64 (1 + Int.tmod (w64 (Int.tmod b 32 + 32)) 32))) (Int.tmod (w64 (Int.tmod e (w64 (1 + Int.tmod (w64 (Int.tmod c 32 + 32)) 32)) + w64 (1 + Int.tmod (w64 (Int.tmod c 32 + 32)) 32))) (w64 (1 + Int.tmod (w64 (Int.tmod c 32 + 32)) 32))) (Int.tmod (w64 (Int.tmod d (w64 (1 + Int.tmod (w64 (Int.tmod b 32 + 32)) 32)) + w64 (1 + Int.tmod (w64 (Int.tmod b 32 + 32)) 32))) (w64 (1 + Int.tmod (w64 (Int.tmod b 32 + 32)) 32))) (Int.tmod (w64 (Int.tmod e (w64 (1 + Int.tmod (w64 (Int.tmod c 32 + 32)) 32)) + w64 (1 + Int.tmod (w64 (Int.tmod c 32 + 32)) 32))) (w64 (1 + Int.tmod (w64 (Int.tmod c 32 + 32)) 32)))) && wakes06F)) = Value.bool true)))
def binsOneI (j : Nat) (ρ : Env) : Prop := match j with
  | 0 => binsOneI0 (ρ.i 0) (ρ.i 1) (ρ.i 2) (ρ.i 3) (ρ.i 4) (ρ.i 5) (ρ.b 6) (ρ.i 7)
  | _ => False
noncomputable def binsOnem (j : Nat) (ρ : Env) : Nat × Nat := match j with
  | 0 => binsOnem0 (ρ.i 0) (ρ.i 1) (ρ.i 2) (ρ.i 3) (ρ.i 4) (ρ.i 5) (ρ.b 6) (ρ.i 7)
  | _ => (0, 0)
noncomputable def binsOneC : Con := { f := 4, params := [int1, int1, int1, int1, int1, int1], tup := false, res := [bool1], fi := fun _ _ => 0, fb := fun _ _ => true, fv := fun _ _ => .nilIface }
noncomputable def binsOneF (a : Int) (b : Int) (c : Int) (d : Int) (e : Int) (f : Int) : Bool := binsOneC.fb [.int .i64 a, .int .i64 b, .int .i64 c, .int .i64 d, .int .i64 e, .int .i64 f] 0
theorem binsOneF_eq (a : Int) (b : Int) (c : Int) (d : Int) (e : Int) (f : Int) : binsOneF a b c d e f = true := rfl
theorem binsOne_true (a : Int) (b : Int) (c : Int) (d : Int) (e : Int) (f : Int) : binsOneF a b c d e f = true := rfl
theorem binsOne_start (a : Int) (b : Int) (c : Int) (d : Int) (e : Int) (f : Int) : binsOneStart a b c d e f := by
  have h1 := bW_bd b
  have h2 := bW_bd c
  have w1 := wd_val h1.1 h1.2
  have w2 := wd_val h2.1 h2.2
  have hm := wd_mul w1.2.1 w1.2.2.1 w2.2.1 w2.2.2.1
  have n1 : (!(bW b == 0)) = true := by simp; omega
  have n2 : (!(bW c == 0)) = true := by simp; omega
  exact ⟨n1, n1, n2, n2, by omega, by omega⟩
theorem wide_val {W : Int} (h1 : 1 ≤ W) (h2 : W ≤ 32) : w64 (Int.tdiv (w64 (W + 7)) 8) = wd W := by
  have e1 : w64 (W + 7) = W + 7 := by rw [w64_id] <;> omega
  have e2 : w64 ((W + 7) / 8) = (W + 7) / 8 := by rw [w64_id] <;> omega
  rw [e1, Int.tdiv_eq_ediv_of_nonneg (by omega), e2]
  unfold wd
  omega
/-- Whether the column X, Z is near the tile tx, tz. -/
def nearT (C W D tx tz X Z : Int) : Bool := decide (tx * 8 - C - 4 ≤ X) && decide (X ≤ min (tx * 8 + 7) (W - 1) + C + 4) && decide (tz * 8 - C - 4 ≤ Z) && decide (Z ≤ min (tz * 8 + 7) (D - 1) + C + 4)
theorem near_hit {C W D tx tz X Z : Int} (hX : 0 ≤ X) (hX2 : X < W) (hZ : 0 ≤ Z) (hZ2 : Z < D) : hit (loT C tx) (loT C tz) (hiT C W tx) (hiT C D tz) X Z X Z = nearT C W D tx tz X Z := by
  unfold hit nearT loT hiT
  rw [Bool.eq_iff_iff]
  simp only [Bool.and_eq_true, decide_eq_true_eq]
  omega
theorem near_wide {C W D tx tz X Z : Int} (BY : Int) (hB : 0 ≤ BY) (h : hit (loT C tx) (loT C tz) (hiT C W tx) (hiT C D tz) X Z X Z = true) : hit (loT C tx) (loT C tz) (hiT C W tx) (hiT C D tz) (X - BY) (Z - BY) (X + BY) (Z + BY) = true := by
  unfold hit at *
  rw [decide_eq_true_eq] at *
  omega
theorem binsOne_step0 (a : Int) (b : Int) (c : Int) (d : Int) (e : Int) (f : Int) (p6 : Bool) (n7 : Int) (h : binsOneI0 a b c d e f p6 n7) : binsOneStep0 a b c d e f p6 n7 := by
  have h1 := bW_bd b
  have h2 := bW_bd c
  have h3 := bC_bd a
  have hX := rest_bd d (bW b) h1.1 h1.2
  have hZ := rest_bd e (bW c) h2.1 h2.2
  have hB := rest_bd f 9 (by omega) (by omega)
  have w1 := wd_val h1.1 h1.2
  have w2 := wd_val h2.1 h2.2
  have hm := wd_mul w1.2.1 w1.2.2.1 w2.2.1 w2.2.2.1
  obtain ⟨g1, g2⟩ := h
  unfold binsOneStep0
  simp only [cfg6F0_eq, cfg6F1_eq, cfg6F2_eq, cfg6F3_eq, cfg6F4_eq, cfg6F5_eq, cfg6F6_eq]
  rw [show (w64 (1 + Int.tmod (w64 (Int.tmod b 32 + 32)) 32)) = bW b from rfl, show (w64 (1 + Int.tmod (w64 (Int.tmod c 32 + 32)) 32)) = bW c from rfl, show (Int.tmod (w64 (Int.tmod a 4 + 4)) 4) = bC a from rfl]
  unfold binsOneI0 binsOnem0
  rw [wide_val h1.1 h1.2, wide_val h2.1 h2.2]
  generalize Int.tmod (w64 (Int.tmod d (bW b) + bW b)) (bW b) = X at *
  generalize Int.tmod (w64 (Int.tmod e (bW c) + bW c)) (bW c) = Z at *
  generalize Int.tmod (w64 (Int.tmod f 9 + 9)) 9 = BY at *
  generalize bW b = W at *
  generalize bW c = D at *
  generalize bC a = C at *
  have hok : okC C 1 3 1 1 W D := by unfold okC; omega
  have hc : countF C 1 3 1 1 W D = wd W * wd D := by rw [count_val, if_pos hok]
  rw [hc]
  have b1 : w64 (X - BY) = X - BY := by rw [w64_id] <;> omega
  have b2 : w64 (Z - BY) = Z - BY := by rw [w64_id] <;> omega
  have b3 : w64 (X + BY) = X + BY := by rw [w64_id] <;> omega
  have b4 : w64 (Z + BY) = Z + BY := by rw [w64_id] <;> omega
  rw [b1, b2, b3, b4]
  refine ⟨fun hn => ?_, fun hn => ?_⟩
  · have hn : n7 < wd W * wd D := by simpa using hn
    have ew : w64 (n7 + 1) = n7 + 1 := by rw [w64_id] <;> omega
    have nz : (!(wd W == 0)) = true := by simp; omega
    have ht := tile_at w1.2.1 w1.2.2.1 w2.2.2.1 g1 hn
    rw [ht.1, ht.2.1, touch_val hok g1 hn, touch_val hok g1 hn, ew, near_hit hX.1 hX.2 hZ.1 hZ.2]
    have nw := near_wide (C := C) (W := W) (D := D) (tx := n7 % wd W) (tz := n7 / wd W) (X := X) (Z := Z) BY hB.1
    rw [near_hit hX.1 hX.2 hZ.1 hZ.2] at nw
    generalize n7 % wd W = tx at *
    generalize n7 / wd W = tz at *
    have c1 : w64 (tx * 8) = tx * 8 := by rw [w64_id] <;> omega
    have c2 : w64 (tx * 8 - C) = tx * 8 - C := by rw [w64_id] <;> omega
    have c3 : w64 (tx * 8 - C - 4) = tx * 8 - C - 4 := by rw [w64_id] <;> omega
    have c4 : w64 (tx * 8 + 7) = tx * 8 + 7 := by rw [w64_id] <;> omega
    have c5 : w64 (W - 1) = W - 1 := by rw [w64_id] <;> omega
    have c6 : w64 (min (tx * 8 + 7) (W - 1) + C) = min (tx * 8 + 7) (W - 1) + C := by rw [w64_id] <;> omega
    have c7 : w64 (min (tx * 8 + 7) (W - 1) + C + 4) = min (tx * 8 + 7) (W - 1) + C + 4 := by rw [w64_id] <;> omega
    have d1 : w64 (tz * 8) = tz * 8 := by rw [w64_id] <;> omega
    have d2 : w64 (tz * 8 - C) = tz * 8 - C := by rw [w64_id] <;> omega
    have d3 : w64 (tz * 8 - C - 4) = tz * 8 - C - 4 := by rw [w64_id] <;> omega
    have d4 : w64 (tz * 8 + 7) = tz * 8 + 7 := by rw [w64_id] <;> omega
    have d5 : w64 (D - 1) = D - 1 := by rw [w64_id] <;> omega
    have d6 : w64 (min (tz * 8 + 7) (D - 1) + C) = min (tz * 8 + 7) (D - 1) + C := by rw [w64_id] <;> omega
    have d7 : w64 (min (tz * 8 + 7) (D - 1) + C + 4) = min (tz * 8 + 7) (D - 1) + C + 4 := by rw [w64_id] <;> omega
    rw [c1, c2, c3, c4, c5, c6, c7, d1, d2, d3, d4, d5, d6, d7]
    refine ⟨nz, nz, fun hh => ?_, fun _ => ⟨⟨by omega, by omega⟩, .inl (by omega)⟩⟩
    rw [show (decide (tx * 8 - C - 4 ≤ X) && decide (X ≤ min (tx * 8 + 7) (W - 1) + C + 4) && decide (tz * 8 - C - 4 ≤ Z) && decide (Z ≤ min (tz * 8 + 7) (D - 1) + C + 4)) = nearT C W D tx tz X Z from rfl] at hh
    rw [beq_self_eq_true] at hh
    cases hne : nearT C W D tx tz X Z with
    | true => rw [hne, nw hne] at hh; simp at hh
    | false => rw [hne] at hh; simp at hh
  · have ex : w64 (Int.tdiv X 8) = X / 8 := by rw [Int.tdiv_eq_ediv_of_nonneg (by omega), w64_id] <;> omega
    have ez : w64 (Int.tdiv Z 8) = Z / 8 := by rw [Int.tdiv_eq_ediv_of_nonneg (by omega), w64_id] <;> omega
    have qx : X / 8 < wd W := by unfold wd; omega
    have qz : Z / 8 < wd D := by unfold wd; omega
    have qx0 : 0 ≤ X / 8 := by omega
    have qz0 : 0 ≤ Z / 8 := by omega
    rw [ex, ez, hm.1]
    have hp : 0 ≤ Z / 8 * wd W ∧ Z / 8 * wd W + X / 8 < wd W * wd D := by
      have hlow : 0 ≤ Z / 8 * wd W := Int.mul_nonneg qz0 (by omega)
      have : (Z / 8 + 1) * wd W ≤ wd D * wd W := Int.mul_le_mul_of_nonneg_right (by omega) (by omega)
      rw [Int.add_mul, Int.one_mul] at this
      rw [Int.mul_comm (wd W)]
      omega
    have e1 : w64 (Z / 8 * wd W) = Z / 8 * wd W := by rw [w64_id] <;> omega
    have e2 : w64 (Z / 8 * wd W + X / 8) = Z / 8 * wd W + X / 8 := by rw [w64_id] <;> omega
    rw [e1, e2, touch_val hok (by omega) hp.2, wakes06_true]
    have em : (Z / 8 * wd W + X / 8) % wd W = X / 8 := by
      rw [Int.add_comm, Int.add_mul_emod_self_right, Int.emod_eq_of_lt qx0 qx]
    have ed : (Z / 8 * wd W + X / 8) / wd W = Z / 8 := by
      rw [Int.add_comm, Int.add_mul_ediv_right _ _ (by omega), Int.ediv_eq_zero_of_lt qx0 qx, Int.zero_add]
    rw [em, ed]
    have : hit (loT C (X / 8)) (loT C (Z / 8)) (hiT C W (X / 8)) (hiT C D (Z / 8)) X Z X Z = true := by
      unfold hit loT hiT
      rw [decide_eq_true_eq]
      omega
    rw [this]
    simp
theorem binsOneC_holds : binsOneC.holds Try.prog := by
  have hn : ∀ j, 6 ≤ nOf binsOneHs j ∨ binsOneHs.length ≤ j := by
    intro j
    match j with
    | 0 => exact .inl (by rw [show nOf binsOneHs 0 = 6 by kernel_rfl]; decide)
    | n + 1 => exact .inr (Nat.le_add_left _ _)
  refine con_of_heads (x := binsOneC) (Γ := binsOneΓ) (by exact (cons_holds cfg6C_holds (cons_holds countC_holds (cons_holds touchC_holds (cons_holds wakes06C_holds nil_holds))))) 4000 6 (fn := Try.f4) Try.func4 (by kernel_rfl) (by kernel_rfl) binsOneHs [0] [[0]] hn (by kernel_rfl) (by kernel_rfl) binsOneI binsOnem ?_ ?_
  · rintro cs ⟨a, _, rfl, b, _, rfl, c, _, rfl, d, _, rfl, e, _, rfl, f, _, rfl, rfl⟩
    refine Eq.mpr (?_ : _ = binsOneStart a b c d e f) (binsOne_start a b c d e f)
    kernel_rfl
  · rintro cs ⟨a, _, rfl, b, _, rfl, c, _, rfl, d, _, rfl, e, _, rfl, f, _, rfl, rfl⟩ j hd tgt hj ht ⟨fi, fb, fv, fns⟩ hag hI
    obtain rfl : fns = binsOneΓ := hag.fns
    match j, hj, ht, hI with
    | 0, hj, ht, hI =>
      obtain rfl : binsOneX0.1 = hd := Option.some.inj hj
      obtain rfl : [0] = tgt := Option.some.inj ht
      have e0 : fi 0 = a := hag.i 0 (by decide)
      subst e0
      have e1 : fi 1 = b := hag.i 1 (by decide)
      subst e1
      have e2 : fi 2 = c := hag.i 2 (by decide)
      subst e2
      have e3 : fi 3 = d := hag.i 3 (by decide)
      subst e3
      have e4 : fi 4 = e := hag.i 4 (by decide)
      subst e4
      have e5 : fi 5 = f := hag.i 5 (by decide)
      subst e5
      refine Eq.mpr (?_ : _ = binsOneStep0 (fi 0) (fi 1) (fi 2) (fi 3) (fi 4) (fi 5) (fb 6) (fi 7)) (binsOne_step0 (fi 0) (fi 1) (fi 2) (fi 3) (fi 4) (fi 5) (fb 6) (fi 7) hI)
      kernel_rfl
    | n + 1, hj, _, _ => cases hj

end Go.Proofs.Yteneneadfpkahaa
