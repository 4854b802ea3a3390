/- footpathref06.All by a walk: the numbers of the tiles that a stretch touches, in order. No conditions. -/
import Derived.Test.YteneneadfpkahaaBrM
import Derived.Test.YteneneadfpkahaaIn
namespace Go.Proofs.Yteneneadfpkahaa
open Go Go.RowKit Go.Sx
def cfgv (a b c d e f g : Int) : Value := .agg #[.int .i64 a, .int .i64 b, .int .i64 c, .int .i64 d, .int .i64 e, .int .i64 f, .int .i64 g]
section
variable (a b c d e f g i x0 z0 x1 z1 : Int) (w : World)
theorem count_any : Calls Try.prog 23 #[cfgv a b c d e f g] w fun en w' => en = .returned (.int .i64 (countF a b c d e f g)) ∧ Below w.heap.size w w' :=
  countC_holds [.int .i64 a, .int .i64 b, .int .i64 c, .int .i64 d, .int .i64 e, .int .i64 f, .int .i64 g] ⟨a, _, rfl, b, _, rfl, c, _, rfl, d, _, rfl, e, _, rfl, f, _, rfl, g, _, rfl, rfl⟩ w
theorem rcount_any : Calls Try.prog 27 #[cfgv a b c d e f g] w fun en w' => en = .returned (.int .i64 (countF a b c d e f g)) ∧ Below w.heap.size w w' := by
  rw [← rcount_val]
  exact rCountC_holds [.int .i64 a, .int .i64 b, .int .i64 c, .int .i64 d, .int .i64 e, .int .i64 f, .int .i64 g] ⟨a, _, rfl, b, _, rfl, c, _, rfl, d, _, rfl, e, _, rfl, f, _, rfl, g, _, rfl, rfl⟩ w
theorem touch_any : Calls Try.prog 24 #[cfgv a b c d e f g, .int .i64 i, .int .i64 x0, .int .i64 z0, .int .i64 x1, .int .i64 z1] w fun en w' => en = .returned (.bool (touchF a b c d e f g i x0 z0 x1 z1)) ∧ Below w.heap.size w w' :=
  touchC_holds [.int .i64 a, .int .i64 b, .int .i64 c, .int .i64 d, .int .i64 e, .int .i64 f, .int .i64 g, .int .i64 i, .int .i64 x0, .int .i64 z0, .int .i64 x1, .int .i64 z1]
    ⟨a, _, rfl, b, _, rfl, c, _, rfl, d, _, rfl, e, _, rfl, f, _, rfl, g, _, rfl, i, _, rfl, x0, _, rfl, z0, _, rfl, x1, _, rfl, z1, _, rfl, rfl⟩ w
theorem rtouch_any : Calls Try.prog 29 #[cfgv a b c d e f g, .int .i64 i, .int .i64 x0, .int .i64 z0, .int .i64 x1, .int .i64 z1] w fun en w' => en = .returned (.bool (touchF a b c d e f g i x0 z0 x1 z1)) ∧ Below w.heap.size w w' := by
  rw [← rtouch_val]
  exact rTouchC_holds [.int .i64 a, .int .i64 b, .int .i64 c, .int .i64 d, .int .i64 e, .int .i64 f, .int .i64 g, .int .i64 i, .int .i64 x0, .int .i64 z0, .int .i64 x1, .int .i64 z1]
    ⟨a, _, rfl, b, _, rfl, c, _, rfl, d, _, rfl, e, _, rfl, f, _, rfl, g, _, rfl, i, _, rfl, x0, _, rfl, z0, _, rfl, x1, _, rfl, z1, _, rfl, rfl⟩ w
theorem wakes6_any : Calls Try.prog 25 #[] w fun en w' => en = .returned (.bool true) ∧ Below w.heap.size w w' := by
  rw [← wakes06_true]
  exact wakes06C_holds [] rfl w
end
theorem ownsRow_below {B : Nat} {e : TypeId} {k : Nat} {v : Value} {n : Nat} {xs : List Value} {w w' : World} (h : w.ownsRow B e k v n xs) (hb : Below w.heap.size w w') : w'.ownsRow B e k v n xs :=
  h.kept (row := none) ⟨hb.os, hb.tape, hb.output, hb.size, fun j hj _ => hb.block j hj⟩ (by cases hv : v.ownBlock <;> simp)
/-- Those of the first k numbers that T tells true of. -/
def hits (T : Int → Bool) : Nat → List Int
  | 0 => []
  | k + 1 => if T k then hits T k ++ [(k : Int)] else hits T k
theorem hits_le (T : Int → Bool) : ∀ k, (hits T k).length ≤ k
  | 0 => Nat.le_refl _
  | k + 1 => by
    have := hits_le T k
    unfold hits
    split
    · simp; omega
    · omega
theorem hits_hit {T : Int → Bool} {k : Nat} (h : T k = true) : hits T (k + 1) = hits T k ++ [(k : Int)] := by simp [hits, h]
theorem hits_miss {T : Int → Bool} {k : Nat} (h : T k = false) : hits T (k + 1) = hits T k := by simp [hits, h]
theorem below_round {B : Nat} {w0 wr w2 w3 : World} {o : Obj} {v : Value} {e : TypeId} {n : Nat} {xs : List Value} (hb : Below B w0 wr) (hB : B ≤ wr.heap.size) (hb2 : Below wr.heap.size wr w2) (ho : wr.ownsRow B e 1 v n xs)
    (hg : (w2.alloc o).grownBy w3 v.ownBlock) : Below B w0 w3 := by
  have h2 := hb2.size
  exact (hb.trans ((hb2.mono hB).alloc (by omega) _)).grown hg (by simp; omega) (fun g hg => (ho.lt g hg).1)
theorem ics_append (l m : List Int) : ics (l ++ m) = ics l ++ ics m := by simp [ics]
theorem info3 : (Try.prog.info? 3).map (fun i => (i.zero, i.size, i.bytes)) = some (some (.int .i64 0), 1, 8) := by kernel_rfl
/-- A box of a config. -/
def CfgAt (B : Nat) (a b c d e f g : Int) (w : World) : Prop :=
  w.cell? ⟨B, 0, none⟩ = some (.int .i64 a) ∧ w.cell? ⟨B, 1, none⟩ = some (.int .i64 b) ∧ w.cell? ⟨B, 2, none⟩ = some (.int .i64 c) ∧ w.cell? ⟨B, 3, none⟩ = some (.int .i64 d) ∧ w.cell? ⟨B, 4, none⟩ = some (.int .i64 e) ∧ w.cell? ⟨B, 5, none⟩ = some (.int .i64 f) ∧ w.cell? ⟨B, 6, none⟩ = some (.int .i64 g) ∧ B < w.heap.size
theorem CfgAt.new (a b c d e f g : Int) (w : World) (t : TypeId) : CfgAt w.heap.size a b c d e f g (w.alloc (.cells #[.int .i64 a, .int .i64 b, .int .i64 c, .int .i64 d, .int .i64 e, .int .i64 f, .int .i64 g] t)) := by
  refine ⟨?_, ?_, ?_, ?_, ?_, ?_, ?_, by simp⟩ <;> exact World.cell?_alloc_at _ _ _ _ rfl
theorem CfgAt.below {B N : Nat} {a b c d e f g : Int} {w w' : World} (h : CfgAt B a b c d e f g w) (hb : Below N w w') (hN : B < N) : CfgAt B a b c d e f g w' := by
  obtain ⟨h0, h1, h2, h3, h4, h5, h6, h7⟩ := h
  exact ⟨(hb.cell (by exact hN)).trans h0, (hb.cell (by exact hN)).trans h1, (hb.cell (by exact hN)).trans h2, (hb.cell (by exact hN)).trans h3, (hb.cell (by exact hN)).trans h4, (hb.cell (by exact hN)).trans h5, (hb.cell (by exact hN)).trans h6, Nat.lt_of_lt_of_le h7 hb.size⟩
end Go.Proofs.Yteneneadfpkahaa
