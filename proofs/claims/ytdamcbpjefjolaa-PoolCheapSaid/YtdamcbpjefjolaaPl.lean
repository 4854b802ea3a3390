/- Contracts of the functions that the claim reaches, as the symbolic executor tells them. No conditions. -/
import Derived.Test.YtdamcbpjefjolaaProg
import Derived.Test.YtdamcbpjefjolaaSxCon
namespace Go.Proofs.Ytdamcbpjefjolaa
open Go Go.RowKit Go.Sx
set_option maxRecDepth 100000
set_option linter.unusedVariables false

/-! cmp.isNaN[int] -/
noncomputable def isNaNC : Con := conOf Try.prog [] 4000 57 [int1] false [bool1]
noncomputable def isNaNF (a : Int) : Bool := isNaNC.fb [.int .i64 a] 0
theorem isNaNF_eq (a : Int) : isNaNF a = !(a == a) := by kernel_rfl
theorem isNaNC_holds : isNaNC.holds Try.prog := conOf_holds nil_holds _ _ _ _ _ (by kernel_rfl)

/-! cmp.Compare[int] -/
noncomputable def compareC : Con := conOf Try.prog [isNaNC] 4000 24 [int1, int1] false [int1]
noncomputable def compareF (a : Int) (b : Int) : Int := compareC.fi [.int .i64 a, .int .i64 b] 0
theorem compareF_eq (a : Int) (b : Int) : compareF a b = (bif isNaNF a then (bif isNaNF b then 0 else (-1)) else (bif isNaNF b then 1 else (bif decide (a < b) then (-1) else (bif decide (b < a) then 1 else 0)))) := by kernel_rfl
theorem compareC_holds : compareC.holds Try.prog := conOf_holds (cons_holds isNaNC_holds nil_holds) _ _ _ _ _ (by kernel_rfl)

end Go.Proofs.Ytdamcbpjefjolaa
