/- (links.model).diagonal by a walk: both ways round. The grid may be; the place is not far off. -/
import Derived.Test.YtbjbiimkhpfieaaMg
namespace Go.Proofs.Ytbjbiimkhpfieaa
open Go Go.RowKit Go.Sx
set_option maxHeartbeats 1000000 in
set_option maxRecDepth 100000 in
theorem round_any (a b c d e f g : Int) (B : Nat) (X Z W D x z k d1 d2 dx dz : Int) (rows : List (List V3)) (A : Option Addr) (cap : Nat) (w : World) (hg : GAt B X Z W D A rows.length cap w) (hr : RowsAt w w.heap.size A rows) (ho : gridOk X Z W D rows) (hx : -800 ≤ x ∧ x ≤ 800) (hz : -800 ≤ z ∧ z ≤ 800) (hdx : -1 ≤ dx ∧ dx ≤ 1) (hdz : -1 ≤ dz ∧ dz ≤ 1)
    (M K : Nat) (hm : CfgB M a b c d e f g w) (hp : w.cell? ⟨M, 7, none⟩ = some (.pointer (some ⟨B, 0, none⟩))) (hM : M < w.heap.size) (hk : w.cell? ⟨K, 0, none⟩ = some (.int .i64 k)) :
    Calls Try.prog 41 #[.int .i64 x, .int .i64 z, .int .i64 d1, .int .i64 d2, .int .i64 dx, .int .i64 dz, .pointer (some ⟨M, 0, none⟩), .pointer (some ⟨K, 0, none⟩)] w fun en w' =>
      OptRet en (roundF (lkF a b c d e f g) (colOf X Z W D rows) x z k d1 d2 dx dz) ∧ Below w.heap.size w w' := by
  have h1 := to_any a b c d e f g B X Z W D x z k d1 rows A cap w hg hr ho (by omega) (by omega)
  have h2 := fun (n : Nat) (W' : World) (hb : Below w.heap.size w W') => to_any a b c d e f g B X Z W D (x + dx) (z + dz) n d2 rows A cap W' (hg.below hb hg.lt) ((hr.below hb).more hb.size) ho (by omega) (by omega)
  obtain ⟨q0, q1, q2, q3, q4, q5, q6⟩ := id hm
  obtain ⟨e1, e1'⟩ := w64e (n := x + dx) (by omega) (by omega)
  obtain ⟨e2, e2'⟩ := w64e (n := z + dz) (by omega) (by omega)
  unfold modv at h1 h2
  have hro : roundF (lkF a b c d e f g) (colOf X Z W D rows) x z k d1 d2 dx dz = (match toF (lkF a b c d e f g) (colOf X Z W D rows) x z k d1 with
    | none => none
    | some n => toF (lkF a b c d e f g) (colOf X Z W D rows) (x + dx) (z + dz) n d2) := by
    unfold roundF
    cases toF (lkF a b c d e f g) (colOf X Z W D rows) x z k d1 with
    | none => rfl
    | some p => rfl
  rw [hro]
  generalize toF (lkF a b c d e f g) (colOf X Z W D rows) x z k d1 = o1 at h1
  go_enter Try.func41, Try.ntmps41
  cases o1 with
  | none =>
    go_wp2_with (go_at_call 27; refine h1.mono ?_; rintro en w1 ⟨rfl, hb1⟩)
    refine bodyPost_ret (results_tmp2 rfl _ _ _) rfl ?_
    exact ⟨rfl, hb1⟩
  | some n =>
    have h3 := h2 n
    dsimp only
    generalize toF (lkF a b c d e f g) (colOf X Z W D rows) (x + dx) (z + dz) n d2 = o2 at h3 ⊢
    clear h2
    cases o2 with
    | none =>
      go_wp2_with (go_at_call 27; first | (refine h1.mono ?_; rintro en w1 ⟨rfl, hb1⟩; obtain ⟨s0, s1, s2, s3, s4, s5, s6⟩ := CfgB.below hm hb1 hM; have sp := (hb1.cell (p := ⟨M, 7, none⟩) hM).trans hp; have h3' := h3 w1 hb1; clear h1 h3) | (refine h3'.mono ?_; rintro en w2 ⟨rfl, hb2⟩))
      refine bodyPost_ret (results_tmp2 rfl _ _ _) rfl ?_
      exact ⟨rfl, hb1.trans (hb2.mono hb1.size)⟩
    | some m =>
      go_wp2_with (go_at_call 27; first | (refine h1.mono ?_; rintro en w1 ⟨rfl, hb1⟩; obtain ⟨s0, s1, s2, s3, s4, s5, s6⟩ := CfgB.below hm hb1 hM; have sp := (hb1.cell (p := ⟨M, 7, none⟩) hM).trans hp; have h3' := h3 w1 hb1; clear h1 h3) | (refine h3'.mono ?_; rintro en w2 ⟨rfl, hb2⟩))
      refine bodyPost_ret (results_tmp2 rfl _ _ _) rfl ?_
      exact ⟨rfl, hb1.trans (hb2.mono hb1.size)⟩
end Go.Proofs.Ytbjbiimkhpfieaa
