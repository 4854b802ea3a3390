/- (links.model).at by walks: a column's floors. The grid may be; the place is not far off. -/
import Derived.Test.YtcdfojfafnecdaaMd
namespace Go.Proofs.Ytcdfojfafnecdaa
open Go Go.RowKit Go.Sx
theorem w64e {n : Int} (h : -9223372036854775808 ≤ n) (h' : n ≤ 9223372036854775807) : wrap64 n = n ∧ IntKind.i64.wrap n = n := by
  refine ⟨?_, ?_⟩
  · unfold wrap64; omega
  · rw [IntKind.wrap_i64]; omega
/-- The model's value. -/
def modv (a b c d e f g : Int) (B : Nat) : Value := .agg #[.int .i64 a, .int .i64 b, .int .i64 c, .int .i64 d, .int .i64 e, .int .i64 f, .int .i64 g, .pointer (some ⟨B, 0, none⟩)]
theorem vcs_nil {w : World} {B : Nat} : Reads w B 3 none ([] : List V3).length (vcs []) := Reads.none_
theorem at_idx {X Z W D x z : Int} {n : Nat} (o1 : -64 ≤ X) (o2 : X ≤ 64) (o5 : 0 ≤ W) (o6 : W ≤ 64) (o8 : D ≤ 64) (o9 : (n : Int) = W * D) (h1 : X ≤ x) (h2 : x - X < W) (h3 : Z ≤ z) (h4 : z - Z < D) :
    ∃ (p q : Int) (k : Nat), (z - Z) * W + x - X = k ∧ k < n ∧ wrap64 ((z - Z) * W) = p ∧ IntKind.i64.wrap ((z - Z) * W) = p ∧ wrap64 (p + x) = q ∧ IntKind.i64.wrap (p + x) = q ∧ wrap64 (q - X) = k ∧ IntKind.i64.wrap (q - X) = k := by
  obtain ⟨i1, i2⟩ := index_ok (X := X) (Z := Z) (x := x) (z := z) o5 h1 h2 h3 h4
  have a3 : (z - Z) * W ≤ 64 * 64 := Int.mul_le_mul (by omega) (by omega) o5 (by omega)
  have a4 : 0 ≤ (z - Z) * W := Int.mul_nonneg (by omega) o5
  generalize (z - Z) * W = p at *
  obtain ⟨k, hk⟩ : ∃ k : Nat, p + x - X = k := ⟨(p + x - X).toNat, by omega⟩
  refine ⟨p, p + x, k, hk, by omega, (w64e (by omega) (by omega)).1, (w64e (by omega) (by omega)).2, (w64e (by omega) (by omega)).1, (w64e (by omega) (by omega)).2, ?_, ?_⟩
  · rw [hk]; exact (w64e (by omega) (by omega)).1
  · rw [hk]; exact (w64e (by omega) (by omega)).2
/-- What a column's floors are told as. -/
def RowRet (w w' : World) (e : Ending) (r : List V3) : Prop := ∃ A' c', e = .returned (.slice A' r.length c') ∧ Reads w' w'.heap.size 3 A' r.length (vcs r) ∧ Below w.heap.size w w'
set_option maxHeartbeats 2000000 in
set_option maxRecDepth 100000 in
theorem at_any (a b c d e f g : Int) (B : Nat) (X Z W D x z : Int) (rows : List (List V3)) (A : Option Addr) (cap : Nat) (w : World) (hg : GAt B X Z W D A rows.length cap w) (hr : RowsAt w w.heap.size A rows) (ho : gridOk X Z W D rows) (hx : -1000 ≤ x ∧ x ≤ 1000) (hz : -1000 ≤ z ∧ z ≤ 1000) :
    Calls Try.prog 49 #[modv a b c d e f g B, .int .i64 x, .int .i64 z] w fun en w' =>
      RowRet w w' en (colOf X Z W D rows x z) := by
  obtain ⟨o1, o2, o3, o4, o5, o6, o7, o8, o9, _⟩ := ho
  obtain ⟨g0, g1, g2, g3, g4, g5⟩ := hg
  have hlt : ∀ o : Obj, Below w.heap.size w (w.alloc o) := fun o => (Below.refl _ _).alloc (Nat.le_refl _) _
  obtain ⟨e1, e1'⟩ := w64e (n := x - X) (by omega) (by omega)
  obtain ⟨e2, e2'⟩ := w64e (n := z - Z) (by omega) (by omega)
  unfold modv
  go_enter Try.func49, Try.ntmps49
  go_wp2
  by_cases k0 : x < X
  · have hcol : colOf X Z W D rows x z = [] := by unfold colOf; rw [if_pos (by first | exact .inl k0 | exact .inr (.inl k1) | exact .inr (.inr (.inl k2)) | exact .inr (.inr (.inr k3)))]
    go_quiet (fail)
    go_wp2
    go_ret
    first | rw [hcol] | skip
    exact ⟨none, 0, rfl, vcs_nil, below_drewN (hlt _) _⟩
  have q0 : decide (x < X) = false := decide_eq_false k0
  by_cases k1 : W ≤ x - X
  · have hcol : colOf X Z W D rows x z = [] := by unfold colOf; rw [if_pos (by first | exact .inl k0 | exact .inr (.inl k1) | exact .inr (.inr (.inl k2)) | exact .inr (.inr (.inr k3)))]
    go_quiet (fail)
    go_wp2
    go_ret
    first | rw [hcol] | skip
    exact ⟨none, 0, rfl, vcs_nil, below_drewN (hlt _) _⟩
  have q1 : decide (W ≤ x - X) = false := decide_eq_false k1
  by_cases k2 : z < Z
  · have hcol : colOf X Z W D rows x z = [] := by unfold colOf; rw [if_pos (by first | exact .inl k0 | exact .inr (.inl k1) | exact .inr (.inr (.inl k2)) | exact .inr (.inr (.inr k3)))]
    go_quiet (fail)
    go_wp2
    go_ret
    first | rw [hcol] | skip
    exact ⟨none, 0, rfl, vcs_nil, below_drewN (hlt _) _⟩
  have q2 : decide (z < Z) = false := decide_eq_false k2
  by_cases k3 : D ≤ z - Z
  · have hcol : colOf X Z W D rows x z = [] := by unfold colOf; rw [if_pos (by first | exact .inl k0 | exact .inr (.inl k1) | exact .inr (.inr (.inl k2)) | exact .inr (.inr (.inr k3)))]
    go_quiet (fail)
    go_wp2
    go_ret
    first | rw [hcol] | skip
    exact ⟨none, 0, rfl, vcs_nil, below_drewN (hlt _) _⟩
  have q3 : decide (D ≤ z - Z) = false := decide_eq_false k3
  obtain ⟨p, q, k, hk, hkl, e3, e3', e4, e4', e6, e6'⟩ := at_idx (x := x) (z := z) o1 o2 o5 o6 o8 o9 (Int.not_lt.1 k0) (Int.not_le.1 k1) (Int.not_lt.1 k2) (Int.not_le.1 k3)
  have hkl' : (k : Int) < (rows.length : Int) := Int.ofNat_lt.2 hkl
  have hcol : colOf X Z W D rows x z = rows[k] := by
    unfold colOf
    rw [if_neg (by rintro (h | h | h | h); exact k0 h; exact k1 h; exact k2 h; exact k3 h), hk, Int.toNat_natCast, List.getD_eq_getElem?_getD, List.getElem?_eq_getElem hkl]; rfl
  obtain ⟨ad, Ai, ci, rfl, hbl, hc, hrr⟩ := hr.at_ hkl
  obtain ⟨r, hrk⟩ : ∃ r, rows[k] = r := ⟨_, rfl⟩
  rw [hrk] at hc hrr hcol
  clear hrk hk o9
  have hc2 : ∀ o : Obj, (w.alloc o).cell? (ad.add k) = some (.slice Ai r.length ci) := fun o => (World.cell?_alloc_lt w o _ (by rw [block_of_add]; exact hbl)).trans hc
  go_quiet (fail)
  go_wp2
  go_quiet (fail)
  go_wp2
  go_ret
  first | rw [hcol] | skip
  exact ⟨Ai, ci, rfl, (hrr.below (below_drewN (below_drewN (hlt _) _) _)).more (by simp), below_drewN (below_drewN (hlt _) _) _⟩
end Go.Proofs.Ytcdfojfafnecdaa
