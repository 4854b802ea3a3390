/- The law LinksBack: its call returns true, and touches nothing that was there. No conditions but that the grid lies where it is said to lie. -/
import Derived.Test.YtbjbiimkhpfieaaMr
namespace Go.Proofs.Ytbjbiimkhpfieaa
open Go Go.RowKit Go.Sx
theorem linksBack_calls (a b c d e f g X Z W D x z k d1 d2 : Int) (rows : List (List V3)) (A : Option Addr) (cap : Nat) (w : World) (hr : RowsAt w w.heap.size A rows) (hl : lensOk rows) :
    Calls Try.prog 3 #[.agg #[.int .i64 a, .int .i64 b, .int .i64 c, .int .i64 d, .int .i64 e, .int .i64 f, .int .i64 g], .agg #[.int .i64 X, .int .i64 Z, .int .i64 W, .int .i64 D, .slice A rows.length cap], .int .i64 x, .int .i64 z, .int .i64 k, .int .i64 d1, .int .i64 d2] w fun en w' => en = .returned (.bool true) ∧ Below w.heap.size w w' := by
  by_cases hout : greatP W D rows ∨ checkRF a b c d e f g ≠ 0 ∨ ¬ gridOk X Z W D rows ∨ x < -100 ∨ 100 < x ∨ z < -100 ∨ 100 < z ∨ stepD d1 = none ∨ stepD d2 = none
  · exact back_out a b c d e f g X Z W D x z k d1 d2 rows A cap w hr hl hout
  · have h1 : ¬ greatP W D rows := fun h => hout (.inl h)
    have h2 : checkRF a b c d e f g = 0 := Classical.byContradiction fun h => hout (.inr (.inl h))
    have h3 : gridOk X Z W D rows := Classical.byContradiction fun h => hout (.inr (.inr (.inl h)))
    have h4 : -100 ≤ x := Int.not_lt.1 fun h => hout (.inr (.inr (.inr (.inl h))))
    have h5 : x ≤ 100 := Int.not_lt.1 fun h => hout (.inr (.inr (.inr (.inr (.inl h)))))
    have h6 : -100 ≤ z := Int.not_lt.1 fun h => hout (.inr (.inr (.inr (.inr (.inr (.inl h))))))
    have h7 : z ≤ 100 := Int.not_lt.1 fun h => hout (.inr (.inr (.inr (.inr (.inr (.inr (.inl h)))))))
    cases hd1 : stepD d1 with
    | none => exact absurd (.inr (.inr (.inr (.inr (.inr (.inr (.inr (.inl hd1)))))))) hout
    | some p =>
      obtain ⟨dx, dz⟩ := p
      cases hd2 : stepD d2 with
      | none => exact absurd (.inr (.inr (.inr (.inr (.inr (.inr (.inr (.inr hd2)))))))) hout
      | some q =>
        obtain ⟨ex, ez⟩ := q
        exact back_in a b c d e f g X Z W D x z k d1 d2 rows A cap w hr hl h1 h2 h3 ⟨h4, h5⟩ ⟨h6, h7⟩ dx dz ex ez hd1 hd2
end Go.Proofs.Ytbjbiimkhpfieaa
