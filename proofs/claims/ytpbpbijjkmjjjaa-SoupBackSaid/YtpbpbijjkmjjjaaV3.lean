/- Floors, rows of floors, rows of rows, as they lie in memory. No conditions. -/
import Derived.Test.YtpbpbijjkmjjjaaProg
import Derived.Test.YtpbpbijjkmjjjaaWd
import Derived.KernelRfl
import Derived.WalkLawsBesides
import Derived.LoopTactic
import Derived.Lib.Hide
import Derived.Deep.QuietTactic
import Derived.BigQuiet
namespace Go.Proofs.Ytpbpbijjkmjjjaa
open Go Go.RowKit
structure V3 where
  x : Int
  y : Int
  z : Int
deriving DecidableEq
def V3.cs (v : V3) : List Value := [.int .i64 v.x, .int .i64 v.y, .int .i64 v.z]
def vcs (l : List V3) : List Value := l.flatMap V3.cs
theorem vcs_length (l : List V3) : (vcs l).length = l.length * 3 := by
  induction l with
  | nil => rfl
  | cons v l ih => simp [vcs, V3.cs] at *; omega
theorem vcs_get (l : List V3) (j : Nat) (h : j < l.length) : (vcs l)[j * 3]? = some (.int .i64 (l[j].x)) ∧ (vcs l)[j * 3 + 1]? = some (.int .i64 (l[j].y)) ∧ (vcs l)[j * 3 + 2]? = some (.int .i64 (l[j].z)) := by
  induction l generalizing j with
  | nil => simp at h
  | cons v l ih =>
    cases j with
    | zero => simp [vcs, V3.cs]
    | succ j =>
      have := ih j (by simpa using h)
      have e : vcs (v :: l) = .int .i64 v.x :: .int .i64 v.y :: .int .i64 v.z :: vcs l := rfl
      rw [e, show (j + 1) * 3 = j * 3 + 1 + 1 + 1 by omega]
      simpa using this
/-- A row of rows. -/
def RowsAt (w : World) (B : Nat) (A : Option Addr) (rows : List (List V3)) : Prop :=
  ∃ hd : List Value, Reads w B 1 A rows.length hd ∧ ∀ (i : Nat) (r : List V3), rows[i]? = some r → ∃ (Ai : Option Addr) (ci : Nat), hd[i]? = some (Value.slice Ai r.length ci) ∧ Reads w B 3 Ai r.length (vcs r)
theorem RowsAt.below {w w' : World} {B : Nat} {A : Option Addr} {rows : List (List V3)} (h : RowsAt w B A rows) (hb : Below B w w') : RowsAt w' B A rows := by
  obtain ⟨hd, h1, h2⟩ := h
  refine ⟨hd, h1.below hb, fun i r hr => ?_⟩
  obtain ⟨Ai, ci, h3, h5⟩ := h2 i r hr
  exact ⟨Ai, ci, h3, h5.below hb⟩
theorem RowsAt.more {w : World} {B B' : Nat} {A : Option Addr} {rows : List (List V3)} (h : RowsAt w B A rows) (hB : B ≤ B') : RowsAt w B' A rows := by
  obtain ⟨hd, h1, h2⟩ := h
  refine ⟨hd, h1.more hB, fun i r hr => ?_⟩
  obtain ⟨Ai, ci, h3, h5⟩ := h2 i r hr
  exact ⟨Ai, ci, h3, h5.more hB⟩
theorem RowsAt.at_ {w : World} {B : Nat} {A : Option Addr} {rows : List (List V3)} (h : RowsAt w B A rows) {i : Nat} (hi : i < rows.length) :
    ∃ ad Ai ci, A = some ad ∧ ad.block < B ∧ w.cell? (ad.add i) = some (.slice Ai rows[i].length ci) ∧ Reads w B 3 Ai rows[i].length (vcs rows[i]) := by
  obtain ⟨hd, h1, h2⟩ := h
  obtain ⟨Ai, ci, h3, h5⟩ := h2 i _ (List.getElem?_eq_getElem hi)
  obtain ⟨ad, u, rfl, hb, hu, hc⟩ := h1.at_ hi
  rw [h3] at hu
  injection hu with hu
  exact ⟨ad, Ai, ci, rfl, hb, by rw [hc, ← hu], h5⟩
theorem v3_at {w : World} {B : Nat} {A : Option Addr} {l : List V3} (h : Reads w B 3 A l.length (vcs l)) {j : Nat} (hj : j < l.length) :
    ∃ ad, A = some ad ∧ (ad.add (j * 3)).block < B ∧ w.cell? (ad.add (j * 3)) = some (.int .i64 l[j].x) ∧ w.cell? ⟨(ad.add (j * 3)).block, (ad.add (j * 3)).off + 1, none⟩ = some (.int .i64 l[j].y) ∧ w.cell? ⟨(ad.add (j * 3)).block, (ad.add (j * 3)).off + 2, none⟩ = some (.int .i64 l[j].z) := by
  obtain ⟨ad, rfl, hb, hc⟩ := h.2 (by omega)
  obtain ⟨g0, g1, g2⟩ := vcs_get l j hj
  have c0 := hc _ _ g0
  refine ⟨ad, rfl, by rw [block_of_add]; exact hb, c0, ?_, ?_⟩
  · have := hc _ _ g1
    rw [← add_of_add] at this
    exact this
  · have := hc _ _ g2
    rw [← add_of_add] at this
    exact this
end Go.Proofs.Ytpbpbijjkmjjjaa
