/- footpathlaw12.wakes by a walk: it is true. No conditions. -/
import Derived.Test.YtbjbiimkhpfieaaAr
import Derived.Deep.RegionHeld3
namespace Go.Proofs.Ytbjbiimkhpfieaa
open Go Go.RowKit Go.Sx
theorem cfg12_any (w : World) : Calls Try.prog 30 #[] w fun en w' => en = .returned (cfgv 0 1 3 1 1 8 8) ∧ Below w.heap.size w w' := by
  have h := cfg12C_holds [] rfl w
  refine h.mono fun en w' ⟨he, hb⟩ => ⟨?_, hb⟩
  rw [he]
  show Ending.returned (.agg #[.int .i64 cfg12F0, .int .i64 cfg12F1, .int .i64 cfg12F2, .int .i64 cfg12F3, .int .i64 cfg12F4, .int .i64 cfg12F5, .int .i64 cfg12F6]) = _
  rw [cfg12F0_eq, cfg12F1_eq, cfg12F2_eq, cfg12F3_eq, cfg12F4_eq, cfg12F5_eq, cfg12F6_eq]; rfl
theorem box12_any (a b : Int) (w : World) : Calls Try.prog 31 #[.int .i64 a, .int .i64 b] w fun en w' => en = .returned (.agg #[.int .i64 a, .int .i64 0, .int .i64 0, .int .i64 7, .int .i64 7, .int .i64 (-9), .int .i64 9, .int .i64 b]) ∧ Below w.heap.size w w' := by
  have h := box12C_holds [.int .i64 a, .int .i64 b] ⟨a, _, rfl, b, _, rfl, rfl⟩ w
  refine h.mono fun en w' ⟨he, hb⟩ => ⟨?_, hb⟩
  rw [he]
  show Ending.returned (.agg #[.int .i64 (box12F0 a b), .int .i64 (box12F1 a b), .int .i64 (box12F2 a b), .int .i64 (box12F3 a b), .int .i64 (box12F4 a b), .int .i64 (box12F5 a b), .int .i64 (box12F6 a b), .int .i64 (box12F7 a b)]) = _
  rw [box12F0_eq, box12F1_eq, box12F2_eq, box12F3_eq, box12F4_eq, box12F5_eq, box12F6_eq, box12F7_eq]
def wkBoxes : List B8 := [⟨5, 0, 0, 7, 7, -9, 9, 4⟩, ⟨3, 0, 0, 7, 7, -9, 9, 2⟩]
theorem wk_check : checkF 0 1 3 1 1 8 8 = 0 := by rw [check_val]; decide
theorem wk_bad1 : badB 8 8 ⟨5, 0, 0, 7, 7, -9, 9, 4⟩ = false := by kernel_rfl
theorem wk_bad2 : badB 8 8 ⟨3, 0, 0, 7, 7, -9, 9, 2⟩ = false := by kernel_rfl
theorem wk_row (a : Int) (h0 : 0 ≤ a) (h7 : a ≤ 7) : rowOk [⟨2, 9, a⟩] := by
  refine ⟨fun k f hf => ?_, by simp⟩
  cases k with
  | zero => simp at hf; subst hf; simp [floorOk, lastOf]; omega
  | succ k => simp at hf
theorem wk_grid (a : Int) (h0 : 0 ≤ a) (h7 : a ≤ 7) : gridOk 0 0 1 1 [[⟨2, 9, a⟩]] := by
  refine ⟨by decide, by decide, by decide, by decide, by decide, by decide, by decide, by decide, by simp, fun r hr => ?_⟩
  simp at hr
  subst hr
  exact wk_row a h0 h7
theorem wk_ok1 : markOk 8 8 0 0 1 1 [[⟨2, 9, 1⟩]] wkBoxes := by
  refine ⟨wk_grid 1 (by decide) (by decide), by decide, fun b hb => ?_⟩
  simp [wkBoxes] at hb
  rcases hb with rfl | rfl
  · exact wk_bad1
  · exact wk_bad2
theorem wk_ok2 : markOk 8 8 0 0 1 1 [[⟨2, 9, 4⟩]] [] := ⟨wk_grid 4 (by decide) (by decide), by decide, fun b hb => by cases hb⟩
theorem wk_mark1 : markF wkBoxes 0 0 1 [[⟨2, 9, 1⟩]] = [[⟨2, 9, 4⟩]] := by decide
theorem wk_mark2 : markF [] 0 0 1 [[⟨2, 9, 4⟩]] = [[⟨2, 9, 1⟩]] := by decide
theorem wk_lens (a : Int) : lensOk [[⟨2, 9, a⟩]] := ⟨by simp, fun r hr => by simp at hr; subst hr; simp⟩
/-- area.Mark where the marks are told. -/
theorem mark_good {a b c d e f g X Z W D : Int} {rows rows' : List (List V3)} {l : List B8} (hc : checkF a b c d e f g = 0) (hok : markOk f g X Z W D rows l) (hm : markF l X Z W rows = rows') (A : Option Addr) (cap : Nat) (Al : Option Addr) (cl : Nat) (w : World)
    (hr : RowsAt w w.heap.size A rows) (hl : lensOk rows) (hb : Reads w w.heap.size 8 Al l.length (bcs l)) :
    Calls Try.prog 22 #[cfgv a b c d e f g, gridv X Z W D A rows.length cap, .slice Al l.length cl] w fun en w' =>
      ∃ M, en = .returned (.tuple #[gridv X Z W D (some ⟨M, 0, none⟩) rows.length rows.length, .int .i64 0]) ∧ RowsIn w' w.heap.size w'.heap.size (some ⟨M, 0, none⟩) rows' ∧ Below w.heap.size w w' := by
  have hl16 := hok.2.1
  refine (mark_any a b c d e f g X Z W D rows A cap l Al cl w hr hl hb (by omega)).mono fun en w' ⟨h, hbw⟩ => ?_
  rcases h with ⟨h, _⟩ | ⟨_, h, _⟩ | ⟨_, _, M, he, hr'⟩
  · exact absurd hc h
  · exact absurd hok h
  · exact ⟨M, he, hm ▸ hr', hbw⟩
end Go.Proofs.Ytbjbiimkhpfieaa
