/- Tiles: what Check, Count, Touch of the bins tell. No conditions. -/
import Derived.Test.YtbjbiimkhpfieaaAa
import Derived.Test.YtbjbiimkhpfieaaMd
namespace Go.Proofs.Ytbjbiimkhpfieaa
open Go Go.RowKit Go.Sx
theorem inb (a lo hi : Int) (h : lo ≤ hi) : (!(a == wInF a lo hi)) = (decide (a < lo) || decide (hi < a)) := by
  rw [wInF_eq, Bool.eq_iff_iff]
  simp
  omega
theorem cond_or' {α : Type} (p q : Bool) (x y : α) : (bif (p || q) then x else y) = bif p then x else bif q then x else y := by cases p <;> rfl

theorem checkF_checkRF (a b c d e f g : Int) : checkF a b c d e f g = checkRF a b c d e f g := by
  rw [checkF_eq, checkRF_eq]
  simp only [inb _ _ _ (by decide : (0 : Int) ≤ 3), inb _ _ _ (by decide : (0 : Int) ≤ 8), inb _ _ _ (by decide : (0 : Int) ≤ 100), inb _ _ _ (by decide : (1 : Int) ≤ 100), inb _ _ _ (by decide : (1 : Int) ≤ 32), cond_or']
/-- Configs that may be. -/
def okC (a b c d e f g : Int) : Prop := 0 ≤ a ∧ a ≤ 3 ∧ 0 ≤ b ∧ b ≤ 8 ∧ b < c ∧ c ≤ 32 ∧ 0 ≤ d ∧ d ≤ 100 ∧ 1 ≤ e ∧ e ≤ 100 ∧ 1 ≤ f ∧ f ≤ 32 ∧ 1 ≤ g ∧ g ≤ 32
instance (a b c d e f g : Int) : Decidable (okC a b c d e f g) := by unfold okC; infer_instance
theorem check_val (a b c d e f g : Int) : checkF a b c d e f g = if okC a b c d e f g then 0 else 20 := by
  rw [checkF_checkRF, checkRF_eq]
  by_cases h : okC a b c d e f g
  · rw [if_pos h]
    unfold okC at h
    have hg : (((((((((((((decide (a < 0) || decide (3 < a)) || decide (b < 0)) || decide (8 < b)) || decide (c ≤ b)) || decide (32 < c)) || decide (d < 0)) || decide (100 < d)) || decide (e < 1)) || decide (100 < e)) || decide (f < 1)) || decide (32 < f)) || decide (g < 1)) || decide (32 < g)) = false := by
      simp only [Bool.or_eq_false_iff, decide_eq_false_iff_not]; omega
    rw [hg]; rfl
  · rw [if_neg h]
    unfold okC at h
    have hg : (((((((((((((decide (a < 0) || decide (3 < a)) || decide (b < 0)) || decide (8 < b)) || decide (c ≤ b)) || decide (32 < c)) || decide (d < 0)) || decide (100 < d)) || decide (e < 1)) || decide (100 < e)) || decide (f < 1)) || decide (32 < f)) || decide (g < 1)) || decide (32 < g)) = true := by
      simp only [Bool.or_eq_true, decide_eq_true_eq]; omega
    rw [hg]; rfl
/-- Tiles in so many columns. -/
def wd (n : Int) : Int := (n - 1) / 8 + 1
theorem wd_val {n : Int} (h1 : 1 ≤ n) (h2 : n ≤ 32) : w64 (w64 (Int.tdiv (w64 (n - 1)) 8) + 1) = wd n ∧ 1 ≤ wd n ∧ wd n ≤ 4 ∧ (wd n - 1) * 8 ≤ n - 1 ∧ n ≤ wd n * 8 := by
  have e1 : w64 (n - 1) = n - 1 := by rw [w64_id] <;> omega
  rw [e1, Int.tdiv_eq_ediv_of_nonneg (by omega)]
  have e2 : w64 ((n - 1) / 8) = (n - 1) / 8 := by rw [w64_id] <;> omega
  have e3 : w64 ((n - 1) / 8 + 1) = (n - 1) / 8 + 1 := by rw [w64_id] <;> omega
  rw [e2, e3]
  unfold wd
  refine ⟨rfl, ?_⟩
  omega
theorem tiles0_val (a b c d e f g : Int) : tilesF0 a b c d e f g = if okC a b c d e f g then wd f else 0 := by
  rw [tilesF0_eq, check_val]
  by_cases h : okC a b c d e f g
  · rw [if_pos h, if_pos h]
    unfold okC at h
    exact (wd_val (by omega) (by omega)).1
  · rw [if_neg h, if_neg h]; rfl
theorem tiles1_val (a b c d e f g : Int) : tilesF1 a b c d e f g = if okC a b c d e f g then wd g else 0 := by
  rw [tilesF1_eq, check_val]
  by_cases h : okC a b c d e f g
  · rw [if_pos h, if_pos h]
    unfold okC at h
    exact (wd_val (by omega) (by omega)).1
  · rw [if_neg h, if_neg h]; rfl
theorem wd_mul {f g : Int} (h1 : 1 ≤ wd f) (h2 : wd f ≤ 4) (h3 : 1 ≤ wd g) (h4 : wd g ≤ 4) : w64 (wd f * wd g) = wd f * wd g ∧ 1 ≤ wd f * wd g ∧ wd f * wd g ≤ 16 := by
  generalize wd f = x at *
  generalize wd g = y at *
  have hx : x = 1 ∨ x = 2 ∨ x = 3 ∨ x = 4 := by omega
  have : 1 ≤ x * y ∧ x * y ≤ 16 := by rcases hx with rfl | rfl | rfl | rfl <;> omega
  exact ⟨by rw [w64_id] <;> omega, this⟩
theorem count_val (a b c d e f g : Int) : countF a b c d e f g = if okC a b c d e f g then wd f * wd g else 0 := by
  rw [countF_eq, tiles0_val, tiles1_val]
  by_cases h : okC a b c d e f g
  · rw [if_pos h, if_pos h, if_pos h]
    unfold okC at h
    obtain ⟨_, h1, h2, _⟩ := wd_val (n := f) (by omega) (by omega)
    obtain ⟨_, h3, h4, _⟩ := wd_val (n := g) (by omega) (by omega)
    exact (wd_mul h1 h2 h3 h4).1
  · rw [if_neg h, if_neg h, if_neg h]; rw [w64_id] <;> omega
theorem count_bd (a b c d e f g : Int) : 0 ≤ countF a b c d e f g ∧ countF a b c d e f g ≤ 16 := by
  rw [count_val]
  by_cases h : okC a b c d e f g
  · rw [if_pos h]
    unfold okC at h
    obtain ⟨_, h1, h2, _⟩ := wd_val (n := f) (by omega) (by omega)
    obtain ⟨_, h3, h4, _⟩ := wd_val (n := g) (by omega) (by omega)
    have := (wd_mul h1 h2 h3 h4).2
    omega
  · rw [if_neg h]; omega
def ics (l : List Int) : List Value := l.map (Value.int .i64)
section
variable (a b c d e f g i x0 z0 x1 z1 : Int) (w : World)
theorem count_any : Calls Try.prog 53 #[cfgv a b c d e f g] w fun en w' => en = .returned (.int .i64 (countF a b c d e f g)) ∧ Below w.heap.size w w' :=
  countC_holds [.int .i64 a, .int .i64 b, .int .i64 c, .int .i64 d, .int .i64 e, .int .i64 f, .int .i64 g] ⟨a, _, rfl, b, _, rfl, c, _, rfl, d, _, rfl, e, _, rfl, f, _, rfl, g, _, rfl, rfl⟩ w
theorem touch_any : Calls Try.prog 54 #[cfgv a b c d e f g, .int .i64 i, .int .i64 x0, .int .i64 z0, .int .i64 x1, .int .i64 z1] w fun en w' => en = .returned (.bool (touchF a b c d e f g i x0 z0 x1 z1)) ∧ Below w.heap.size w w' :=
  touchC_holds [.int .i64 a, .int .i64 b, .int .i64 c, .int .i64 d, .int .i64 e, .int .i64 f, .int .i64 g, .int .i64 i, .int .i64 x0, .int .i64 z0, .int .i64 x1, .int .i64 z1]
    ⟨a, _, rfl, b, _, rfl, c, _, rfl, d, _, rfl, e, _, rfl, f, _, rfl, g, _, rfl, i, _, rfl, x0, _, rfl, z0, _, rfl, x1, _, rfl, z1, _, rfl, rfl⟩ w
end
theorem ownsRow_below {B : Nat} {e : TypeId} {k : Nat} {v : Value} {n : Nat} {xs : List Value} {w w' : World} (h : w.ownsRow B e k v n xs) (hb : Below w.heap.size w w') : w'.ownsRow B e k v n xs :=
  h.kept (row := none) ⟨hb.os, hb.tape, hb.output, hb.size, fun j hj _ => hb.block j hj⟩ (by cases hv : v.ownBlock <;> simp)
/-- Those of the first k numbers that T tells true of. -/
def hits (T : Int → Bool) : Nat → List Int
  | 0 => []
  | k + 1 => if T k then hits T k ++ [(k : Int)] else hits T k
theorem hits_le (T : Int → Bool) : ∀ k, (hits T k).length ≤ k
  | 0 => Nat.le_refl _
  | k + 1 => by
    have := hits_le T k
    unfold hits
    split
    · simp; omega
    · omega
theorem hits_hit {T : Int → Bool} {k : Nat} (h : T k = true) : hits T (k + 1) = hits T k ++ [(k : Int)] := by simp [hits, h]
theorem hits_miss {T : Int → Bool} {k : Nat} (h : T k = false) : hits T (k + 1) = hits T k := by simp [hits, h]
theorem below_round {B : Nat} {w0 wr w2 w3 : World} {o : Obj} {v : Value} {e : TypeId} {n : Nat} {xs : List Value} (hb : Below B w0 wr) (hB : B ≤ wr.heap.size) (hb2 : Below wr.heap.size wr w2) (ho : wr.ownsRow B e 1 v n xs)
    (hg : (w2.alloc o).grownBy w3 v.ownBlock) : Below B w0 w3 := by
  have h2 := hb2.size
  exact (hb.trans ((hb2.mono hB).alloc (by omega) _)).grown hg (by simp; omega) (fun g hg => (ho.lt g hg).1)
theorem ics_append (l m : List Int) : ics (l ++ m) = ics l ++ ics m := by simp [ics]
theorem info3 : (Try.prog.info? 3).map (fun i => (i.zero, i.size, i.bytes)) = some (some (.int .i64 0), 1, 8) := by kernel_rfl
/-- A box of a config. -/
def CfgAt (B : Nat) (a b c d e f g : Int) (w : World) : Prop :=
  w.cell? ⟨B, 0, none⟩ = some (.int .i64 a) ∧ w.cell? ⟨B, 1, none⟩ = some (.int .i64 b) ∧ w.cell? ⟨B, 2, none⟩ = some (.int .i64 c) ∧ w.cell? ⟨B, 3, none⟩ = some (.int .i64 d) ∧ w.cell? ⟨B, 4, none⟩ = some (.int .i64 e) ∧ w.cell? ⟨B, 5, none⟩ = some (.int .i64 f) ∧ w.cell? ⟨B, 6, none⟩ = some (.int .i64 g) ∧ B < w.heap.size
theorem CfgAt.new (a b c d e f g : Int) (w : World) (t : TypeId) : CfgAt w.heap.size a b c d e f g (w.alloc (.cells #[.int .i64 a, .int .i64 b, .int .i64 c, .int .i64 d, .int .i64 e, .int .i64 f, .int .i64 g] t)) := by
  refine ⟨?_, ?_, ?_, ?_, ?_, ?_, ?_, by simp⟩ <;> exact World.cell?_alloc_at _ _ _ _ rfl
theorem CfgAt.below {B N : Nat} {a b c d e f g : Int} {w w' : World} (h : CfgAt B a b c d e f g w) (hb : Below N w w') (hN : B < N) : CfgAt B a b c d e f g w' := by
  obtain ⟨h0, h1, h2, h3, h4, h5, h6, h7⟩ := h
  exact ⟨(hb.cell (by exact hN)).trans h0, (hb.cell (by exact hN)).trans h1, (hb.cell (by exact hN)).trans h2, (hb.cell (by exact hN)).trans h3, (hb.cell (by exact hN)).trans h4, (hb.cell (by exact hN)).trans h5, (hb.cell (by exact hN)).trans h6, Nat.lt_of_lt_of_le h7 hb.size⟩
theorem own_row1 {w : World} {base : Nat} {e : TypeId} {v : Value} {n : Nat} {xs : List Value} (h : w.ownsRow base e 1 v n xs) : ∃ A cap, v = .slice A n cap ∧ n ≤ cap ∧ Reads w w.heap.size 1 A n xs := by
  have h' := h
  rcases h.2 with ⟨rfl, rfl⟩ | ⟨g, cap, cur, rfl, _, _, hc, _⟩
  · exact ⟨none, 0, rfl, Nat.le_refl _, Reads.of_own h'⟩
  · exact ⟨_, cap, rfl, hc, Reads.of_own h'⟩
end Go.Proofs.Ytbjbiimkhpfieaa
