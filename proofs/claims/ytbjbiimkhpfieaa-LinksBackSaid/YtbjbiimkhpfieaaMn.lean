/- footpathref11.At by walks: a column's floors. The grid may be; the place is not far off. -/
import Derived.Test.YtbjbiimkhpfieaaMk
namespace Go.Proofs.Ytbjbiimkhpfieaa
open Go Go.RowKit Go.Sx
set_option maxHeartbeats 4000000 in
set_option maxRecDepth 100000 in
theorem rat_any (X Z W D x z : Int) (rows : List (List V3)) (A : Option Addr) (cap : Nat) (w : World) (hr : RowsAt w w.heap.size A rows) (hl : lensOk rows) (ho : gridOk X Z W D rows) (_hx : -1000 ≤ x ∧ x ≤ 1000) (_hz : -1000 ≤ z ∧ z ≤ 1000) :
    Calls Try.prog 13 #[gridv X Z W D A rows.length cap, .int .i64 x, .int .i64 z] w fun en w' =>
      RowRet w w' en (colOf X Z W D rows x z) := by
  have hck := fun W' hb => rcheck_any X Z W D rows A cap W' ((hr.below hb).more hb.size) hl
  obtain ⟨o1, o2, o3, o4, o5, o6, o7, o8, o9, _⟩ := id ho
  obtain ⟨W0, hW0⟩ : ∃ W0, w.alloc (.cells #[.int .i64 X, .int .i64 Z, .int .i64 W, .int .i64 D, .slice A rows.length cap] 26) = W0 := ⟨_, rfl⟩
  have hg0 : GAt w.heap.size X Z W D A rows.length cap W0 := by rw [← hW0]; exact GAt.new X Z W D A rows.length cap w 26
  have hb0 : Below w.heap.size w W0 := by rw [← hW0]; exact (Below.refl _ _).alloc (Nat.le_refl _) _
  have hck0 := (hck W0 hb0)
  have hs0 : w.heap.size < W0.heap.size := hg0.lt
  obtain ⟨g0, g1, g2, g3, g4, g5⟩ := id hg0
  have hho := Lib.hid ho; clear ho; rename_i hrok; clear hrok
  obtain ⟨e1, e1'⟩ := w64e (n := X + W) (by omega) (by omega)
  obtain ⟨e2, e2'⟩ := w64e (n := Z + D) (by omega) (by omega)
  unfold gridv at hck0 ⊢
  clear hck
  by_cases k0 : x < X
  · have hcol : colOf X Z W D rows x z = [] := by unfold colOf; rw [if_pos (.inl k0)]
    have q0 : decide (x < X) = true := decide_eq_true k0
    rw [hcol]
    go_enter Try.func13, Try.ntmps13
    go_wp2_with (go_at_call 9; refine hck0.mono ?_; rintro en w1 ⟨⟨n, rfl, hn⟩, hb1⟩; obtain rfl : n = 0 := hn.2 hho.out; clear hn; have hb01 := hb0.trans (hb1.mono hb0.size); obtain ⟨h0, h1, h2, h3, h4, h5⟩ := hg0.below hb1 hs0)
    go_ret
    exact ⟨none, 0, rfl, vcs_nil, hb01⟩
  have q0 : decide (x < X) = false := decide_eq_false k0
  by_cases k1 : X + W ≤ x
  · have hcol : colOf X Z W D rows x z = [] := by unfold colOf; rw [if_pos (.inr (.inl (by omega)))]
    have q1 : decide (X + W ≤ x) = true := decide_eq_true k1
    rw [hcol]
    go_enter Try.func13, Try.ntmps13
    go_wp2_with (go_at_call 9; refine hck0.mono ?_; rintro en w1 ⟨⟨n, rfl, hn⟩, hb1⟩; obtain rfl : n = 0 := hn.2 hho.out; clear hn; have hb01 := hb0.trans (hb1.mono hb0.size); obtain ⟨h0, h1, h2, h3, h4, h5⟩ := hg0.below hb1 hs0)
    go_ret
    exact ⟨none, 0, rfl, vcs_nil, hb01⟩
  have q1 : decide (X + W ≤ x) = false := decide_eq_false k1
  by_cases k2 : z < Z
  · have hcol : colOf X Z W D rows x z = [] := by unfold colOf; rw [if_pos (.inr (.inr (.inl k2)))]
    have q2 : decide (z < Z) = true := decide_eq_true k2
    rw [hcol]
    go_enter Try.func13, Try.ntmps13
    go_wp2_with (go_at_call 9; refine hck0.mono ?_; rintro en w1 ⟨⟨n, rfl, hn⟩, hb1⟩; obtain rfl : n = 0 := hn.2 hho.out; clear hn; have hb01 := hb0.trans (hb1.mono hb0.size); obtain ⟨h0, h1, h2, h3, h4, h5⟩ := hg0.below hb1 hs0)
    go_ret
    exact ⟨none, 0, rfl, vcs_nil, hb01⟩
  have q2 : decide (z < Z) = false := decide_eq_false k2
  by_cases k3 : Z + D ≤ z
  · have hcol : colOf X Z W D rows x z = [] := by unfold colOf; rw [if_pos (.inr (.inr (.inr (by omega))))]
    have q3 : decide (Z + D ≤ z) = true := decide_eq_true k3
    rw [hcol]
    go_enter Try.func13, Try.ntmps13
    go_wp2_with (go_at_call 9; refine hck0.mono ?_; rintro en w1 ⟨⟨n, rfl, hn⟩, hb1⟩; obtain rfl : n = 0 := hn.2 hho.out; clear hn; have hb01 := hb0.trans (hb1.mono hb0.size); obtain ⟨h0, h1, h2, h3, h4, h5⟩ := hg0.below hb1 hs0)
    go_ret
    exact ⟨none, 0, rfl, vcs_nil, hb01⟩
  have q3 : decide (Z + D ≤ z) = false := decide_eq_false k3
  obtain ⟨p, q, k, hk, hkl, e3, e3', e4, e4', e6, e6'⟩ := at_idx (x := x) (z := z) o1 o2 o5 o6 o8 o9 (Int.not_lt.1 k0) (by omega) (Int.not_lt.1 k2) (by omega)
  obtain ⟨e7, e7'⟩ := w64e (n := z - Z) (by omega) (by omega)
  have hkl' : (k : Int) < (rows.length : Int) := Int.ofNat_lt.2 hkl
  have hcol : colOf X Z W D rows x z = rows[k] := by
    unfold colOf
    rw [if_neg (by rintro (h | h | h | h); exact k0 h; omega; exact k2 h; omega), hk, Int.toNat_natCast, List.getD_eq_getElem?_getD, List.getElem?_eq_getElem hkl]; rfl
  obtain ⟨r, hrk⟩ : ∃ r, rows[k] = r := ⟨_, rfl⟩
  have hrat : ∃ ad Ai ci, A = some ad ∧ ad.block < w.heap.size ∧ w.cell? (ad.add k) = some (.slice Ai r.length ci) ∧ Reads w w.heap.size 3 Ai r.length (vcs r) := by
    rw [← hrk]; exact hr.at_ hkl
  rw [hrk] at hcol
  obtain ⟨ad, Ai, ci, rfl, hbl, hc, hrr⟩ := hrat
  clear hrk hk o9
  rw [hcol]
  go_enter Try.func13, Try.ntmps13
  go_wp2_with (go_at_call 9; refine hck0.mono ?_; rintro en w1 ⟨⟨n, rfl, hn⟩, hb1⟩; obtain rfl : n = 0 := hn.2 hho.out; clear hn; have hb01 := hb0.trans (hb1.mono hb0.size); obtain ⟨h0, h1, h2, h3, h4, h5⟩ := hg0.below hb1 hs0; have hc1 := (hb01.cell (p := ad.add k) (by rw [block_of_add]; exact hbl)).trans hc)
  go_ret
  exact ⟨Ai, ci, rfl, (hrr.below hb01).more hb01.size, hb01⟩
set_option maxHeartbeats 4000000 in
set_option maxRecDepth 100000 in
/-- At a place in the grid: the very column's slice. -/
theorem rat_in (X Z W D x z : Int) (rows : List (List V3)) (ad : Addr) (cap : Nat) (Ai : Option Addr) (ci : Nat) (r : List V3) (k : Nat) (w : World) (hr : RowsAt w w.heap.size (some ad) rows) (hl : lensOk rows) (ho : gridOk X Z W D rows)
    (k0 : ¬ x < X) (k1 : ¬ X + W ≤ x) (k2 : ¬ z < Z) (k3 : ¬ Z + D ≤ z) (hk : (z - Z) * W + x - X = k) (hbl : ad.block < w.heap.size) (hc : w.cell? (ad.add k) = some (.slice Ai r.length ci)) :
    Calls Try.prog 13 #[gridv X Z W D (some ad) rows.length cap, .int .i64 x, .int .i64 z] w fun en w' =>
      en = .returned (.slice Ai r.length ci) ∧ Below w.heap.size w w' := by
  have hck := fun W' hb => rcheck_any X Z W D rows (some ad) cap W' ((hr.below hb).more hb.size) hl
  obtain ⟨o1, o2, o3, o4, o5, o6, o7, o8, o9, _⟩ := id ho
  obtain ⟨W0, hW0⟩ : ∃ W0, w.alloc (.cells #[.int .i64 X, .int .i64 Z, .int .i64 W, .int .i64 D, .slice (some ad) rows.length cap] 26) = W0 := ⟨_, rfl⟩
  have hg0 : GAt w.heap.size X Z W D (some ad) rows.length cap W0 := by rw [← hW0]; exact GAt.new X Z W D (some ad) rows.length cap w 26
  have hb0 : Below w.heap.size w W0 := by rw [← hW0]; exact (Below.refl _ _).alloc (Nat.le_refl _) _
  have hck0 := (hck W0 hb0)
  have hs0 : w.heap.size < W0.heap.size := hg0.lt
  obtain ⟨g0, g1, g2, g3, g4, g5⟩ := id hg0
  have hho := Lib.hid ho; clear ho; rename_i hrok; clear hrok
  obtain ⟨e1, e1'⟩ := w64e (n := X + W) (by omega) (by omega)
  obtain ⟨e2, e2'⟩ := w64e (n := Z + D) (by omega) (by omega)
  unfold gridv at hck0 ⊢
  clear hck
  have q0 : decide (x < X) = false := decide_eq_false k0
  have q1 : decide (X + W ≤ x) = false := decide_eq_false k1
  have q2 : decide (z < Z) = false := decide_eq_false k2
  have q3 : decide (Z + D ≤ z) = false := decide_eq_false k3
  obtain ⟨p, q, k', hk', hkl, e3, e3', e4, e4', e6, e6'⟩ := at_idx (x := x) (z := z) o1 o2 o5 o6 o8 o9 (Int.not_lt.1 k0) (by omega) (Int.not_lt.1 k2) (by omega)
  obtain rfl : k' = k := by have := hk'.symm.trans hk; omega
  obtain ⟨e7, e7'⟩ := w64e (n := z - Z) (by omega) (by omega)
  have hkl' : (k' : Int) < (rows.length : Int) := Int.ofNat_lt.2 hkl
  clear hk hk' o9
  go_enter Try.func13, Try.ntmps13
  go_wp2_with (go_at_call 9; refine hck0.mono ?_; rintro en w1 ⟨⟨n, rfl, hn⟩, hb1⟩; obtain rfl : n = 0 := hn.2 hho.out; clear hn; have hb01 := hb0.trans (hb1.mono hb0.size); obtain ⟨h0, h1, h2, h3, h4, h5⟩ := hg0.below hb1 hs0; have hc1 := (hb01.cell (p := ad.add k') (by rw [block_of_add]; exact hbl)).trans hc)
  go_ret
  exact ⟨rfl, hb01⟩
end Go.Proofs.Ytbjbiimkhpfieaa
