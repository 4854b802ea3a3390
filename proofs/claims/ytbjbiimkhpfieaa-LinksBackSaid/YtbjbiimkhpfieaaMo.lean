/- footpathlaw11.Great by a walk: it tells whether a grid is great. -/
import Derived.Test.YtbjbiimkhpfieaaMn
namespace Go.Proofs.Ytbjbiimkhpfieaa
open Go Go.RowKit Go.Sx
def greatP (W D : Int) (rows : List (List V3)) : Prop := (24 < W ∧ W ≤ 64) ∨ (24 < D ∧ D ≤ 64) ∨ 600 < rows.length ∨ ∃ r ∈ rows, 20 < r.length
set_option maxHeartbeats 4000000 in
set_option maxRecDepth 100000 in
theorem great_any (X Z W D : Int) (rows : List (List V3)) (A : Option Addr) (cap : Nat) (w : World) (hr : RowsAt w w.heap.size A rows) (hl : lensOk rows) :
    Calls Try.prog 7 #[gridv X Z W D A rows.length cap] w fun e w' => BoolIff e (greatP W D rows) ∧ Below w.heap.size w w' := by
  have hl1 := hl.1
  obtain ⟨W0, hW0⟩ : ∃ W0, w.alloc (.cells #[.int .i64 X, .int .i64 Z, .int .i64 W, .int .i64 D, .slice A rows.length cap] 26) = W0 := ⟨_, rfl⟩
  have hg0 : GAt w.heap.size X Z W D A rows.length cap W0 := by rw [← hW0]; exact GAt.new X Z W D A rows.length cap w 26
  have hb0 : Below w.heap.size w W0 := by rw [← hW0]; exact (Below.refl _ _).alloc (Nat.le_refl _) _
  obtain ⟨g0, g1, g2, g3, g4, g5⟩ := id hg0
  unfold gridv
  go_enter Try.func7, Try.ntmps7
  go_wp2
  all_goals first
    | (go_ret; exact ⟨BoolIff.t (by first | exact .inl (by omega) | exact .inr (.inl (by omega)) | exact .inr (.inr (.inl (by omega)))), hb0⟩)
    | skip
  all_goals
    go_loopw [31, 3] (fun x _ wr => ∃ i : Nat, x = .int .i64 i ∧ i ≤ rows.length ∧ (∀ j (r : List V3), j < i → rows[j]? = some r → r.length ≤ 20) ∧ Below W0.heap.size W0 wr)
      (fun x _ _ => rows.length - (intOf x).toNat)
    case atStart => exact ⟨0, rfl, Nat.zero_le _, fun j r hj => by omega, Below.refl _ _⟩
    case round =>
      obtain ⟨i, rfl, hi, hall, hb⟩ := hrel
      have hbw : Below w.heap.size w wr := hb0.trans (hb.mono hb0.size)
      obtain ⟨G0, G1, G2, G3, G4, G5⟩ := hg0.below hb g5
      by_cases hin : i < rows.length
      · obtain ⟨ad, Ai, ci, rfl, hbl, hc, hrr⟩ := (hr.below hbw).at_ hin
        have hf : rows[i]? = some rows[i] := List.getElem?_eq_getElem hin
        generalize rows[i] = r at hf hc hrr
        have hin' : (i : Int) < (rows.length : Int) := by omega
        have hall := Lib.hid hall
        go_wp2
        · go_ret
          exact ⟨BoolIff.t (.inr (.inr (.inr ⟨r, List.mem_of_getElem? hf, by omega⟩))), hbw⟩
        · go_roundw
          case rel => exact ⟨i + 1, by go_num, by omega, fun j r' hj hjr => by
            by_cases hji : j < i
            · exact hall.out j r' hji hjr
            · obtain rfl : j = i := by omega
              rw [hf] at hjr
              injection hjr with hjr
              subst hjr; omega, hb⟩
          case measure => show rows.length - ((i : Int) + 1).toNat < rows.length - ((i : Int)).toNat; omega
      · have hie : i = rows.length := by omega
        subst hie
        have hall := Lib.hid hall
        go_wp2
        go_ret
        exact ⟨BoolIff.f (by
          rintro (h | h | h | ⟨r, hm, h⟩)
          · omega
          · omega
          · omega
          · obtain ⟨j, hj⟩ := List.getElem?_of_mem hm
            have := hall.out j r (List.getElem?_eq_some_iff.1 hj).1 hj
            omega), hbw⟩
end Go.Proofs.Ytbjbiimkhpfieaa
