/- Words for the laws on fields: configs, great grids. No conditions but that the grid lies where it is said to lie. -/
import Derived.Test.YtcdfojfafnecdaaFo
import Derived.Test.YtcdfojfafnecdaaFq
namespace Go
theorem wpListIn_off {n : Nat} {P : Program} {w : World} {ops : Array Oper} {rest : List Oper} {o : Oper} {a : Act} {Q : Exit → Act → World → Prop} (hw : Region.wanted o (yielded ops a.tmps) = false) (h : wpListIn Fence.wide n P ops Q rest (a.put o.dst undef) w) : wpListIn Fence.wide n P ops Q (o :: rest) a w := by
  simp only [wpListIn, hw]
  exact ⟨fun _ _ => trivial, h⟩
end Go
namespace Go.Proofs.Ytcdfojfafnecdaa
open Go Go.RowKit Go.Sx Go.Mp
theorem inb14 (a lo hi : Int) (h : lo ≤ hi) : (!(a == wInF a lo hi)) = (decide (a < lo) || decide (hi < a)) := by
  rw [wInF_eq, Bool.eq_iff_iff]
  simp
  omega
theorem cond_or14 {α : Type} (p q : Bool) (x y : α) : (bif (p || q) then x else y) = bif p then x else bif q then x else y := by cases p <;> rfl
theorem checkF_R (a b c d e f g : Int) : checkF a b c d e f g = checkRF a b c d e f g := by
  rw [checkF_eq, checkRF_eq]
  simp only [inb14 _ _ _ (by decide : (0 : Int) ≤ 3), inb14 _ _ _ (by decide : (0 : Int) ≤ 8), inb14 _ _ _ (by decide : (0 : Int) ≤ 100), inb14 _ _ _ (by decide : (1 : Int) ≤ 100), inb14 _ _ _ (by decide : (1 : Int) ≤ 32), cond_or14]
theorem rcfg_any (a b c d e f g : Int) (w : World) : Calls Try.prog 19 #[cfgv a b c d e f g] w fun en w' => en = .returned (.int .i64 (checkF a b c d e f g)) ∧ Below w.heap.size w w' := by
  rw [checkF_R]
  exact checkRC_holds [.int .i64 a, .int .i64 b, .int .i64 c, .int .i64 d, .int .i64 e, .int .i64 f, .int .i64 g] ⟨a, _, rfl, b, _, rfl, c, _, rfl, d, _, rfl, e, _, rfl, f, _, rfl, g, _, rfl, rfl⟩ w
/-- Another clearance from 0 to 3: a config that may be still may be. -/
theorem check_other {a a' b c d e f g : Int} (h : checkF a b c d e f g = 0) (h0 : 0 ≤ a') (h3 : a' ≤ 3) : checkF a' b c d e f g = 0 := by
  have ha := check_clear h
  rw [checkF_eq] at h ⊢
  have e1 : ∀ x : Int, 0 ≤ x → x ≤ 3 → (!(x == wInF x 0 3)) = false := fun x h1 h2 => by
    rw [inb14 _ _ _ (by decide)]
    simp; omega
  rw [e1 a ha.1 ha.2] at h
  rw [e1 a' h0 h3]
  exact h
theorem lk_other {a a' b c d e f g : Int} (h : checkF a b c d e f g = 0) (h' : checkF a' b c d e f g = 0) : lkF a b c d e f g = lkF a' b c d e f g := by
  funext p q
  unfold lkF
  rw [linkedF_eq, linkedF_eq, h, h']
theorem lk_nine {a b c d e f g : Int} (h : checkF a b c d e f g = 0) : lkF a b c d e f g ⟨0, 9, 1⟩ ⟨0, 9, 1⟩ = decide (c ≤ 9) := by
  have hc := check_climb h
  unfold lkF
  rw [linkedF_eq, h]
  have e : decide (max (w64 (0 - 0)) (w64 (0 - 0)) ≤ b) = true := decide_eq_true (by rw [w64_id (by decide) (by decide)]; omega)
  have e2 : w64 (min 9 9 - max 0 0) = 9 := by kernel_rfl
  simp only [e, e2]
  rfl
/-- The lesser of a clearance and a number. -/
theorem min_cl (N : Nat × Nat → Option (List (Nat × Nat))) (c m : Nat) (s : Nat × Nat) : min (cl N c s) m = cl N (min c m) s := by
  have h : ∀ t, t < min (cl N c s) m ↔ t < cl N (min c m) s := fun t => by
    rw [lt_cl, Nat.lt_min, Nat.lt_min, lt_cl]
    constructor
    · rintro ⟨⟨h1, h2⟩, h3⟩; exact ⟨⟨h1, h3⟩, h2⟩
    · rintro ⟨⟨h1, h2⟩, h3⟩; exact ⟨⟨h1, h3⟩, h2⟩
  rcases Nat.lt_trichotomy (min (cl N c s) m) (cl N (min c m) s) with h1 | h1 | h1
  · have := (h _).2 h1; omega
  · exact h1
  · have := (h _).1 h1; omega
theorem cap_min (N : Nat × Nat → Option (List (Nat × Nat))) (c d : Nat) (s : Nat × Nat) : min ((cl N c s : Nat) : Int) (min (c : Int) d) = min ((cl N d s : Nat) : Int) (min (c : Int) d) := by
  have h1 := min_cl N c (min c d) s
  have h2 := min_cl N d (min c d) s
  rw [show min c (min c d) = min d (min c d) by omega, ← h2] at h1
  omega
set_option maxHeartbeats 1000000 in
set_option maxRecDepth 100000 in
theorem great14_any (X Z W D : Int) (rows : List (List V3)) (A : Option Addr) (cap : Nat) (w : World) (hr : RowsAt w w.heap.size A rows) (hl : lensOk rows) :
    Calls Try.prog 8 #[gridv X Z W D A rows.length cap] w fun e w' => (∃ b, e = .returned (.bool b)) ∧ Below w.heap.size w w' := by
  have hl1 := hl.1
  obtain ⟨W0, hW0⟩ : ∃ W0, w.alloc (.cells #[.int .i64 X, .int .i64 Z, .int .i64 W, .int .i64 D, .slice A rows.length cap] 26) = W0 := ⟨_, rfl⟩
  have hg0 : GAt w.heap.size X Z W D A rows.length cap W0 := by rw [← hW0]; exact GAt.new X Z W D A rows.length cap w 26
  have hb0 : Below w.heap.size w W0 := by rw [← hW0]; exact (Below.refl _ _).alloc (Nat.le_refl _) _
  obtain ⟨g0, g1, g2, g3, g4, g5⟩ := id hg0
  unfold gridv
  go_enter Try.func8, Try.ntmps8
  go_wp2
  all_goals first
    | (go_ret; exact ⟨⟨_, rfl⟩, hb0⟩)
    | skip
  all_goals
    go_loopw [3] (fun x wr => ∃ i : Nat, x = .int .i64 i ∧ i ≤ rows.length ∧ Below W0.heap.size W0 wr)
      (fun x _ => rows.length - (intOf x).toNat)
    case atStart => exact ⟨0, rfl, Nat.zero_le _, Below.refl _ _⟩
    case round =>
      obtain ⟨i, rfl, hi, hb⟩ := hrel
      have hbw : Below w.heap.size w wr := hb0.trans (hb.mono hb0.size)
      obtain ⟨G0, G1, G2, G3, G4, G5⟩ := hg0.below hb g5
      by_cases hin : i < rows.length
      · obtain ⟨ad, Ai, ci, rfl, hbl, hc, hrr⟩ := (hr.below hbw).at_ hin
        generalize rows[i] = r at hc hrr
        have hin' : (i : Int) < (rows.length : Int) := by omega
        go_wp2
        · go_ret
          exact ⟨⟨_, rfl⟩, hbw⟩
        · go_roundw
          case rel => exact ⟨i + 1, by go_num, by omega, hb⟩
          case measure => show rows.length - ((i : Int) + 1).toNat < rows.length - ((i : Int)).toNat; omega
      · have hie : i = rows.length := by omega
        subst hie
        go_wp2
        go_ret
        exact ⟨⟨_, rfl⟩, hbw⟩
/-- What stands in the boxes of a config and a grid. -/
theorem lensOk_g {X Z W D : Int} {rows : List (List V3)} (ho : gridOk X Z W D rows) : lensOk rows := by
  have := rows_len ho
  exact ⟨by omega, fun r hr => by have := (ho.2.2.2.2.2.2.2.2.2 r hr).2; omega⟩
end Go.Proofs.Ytcdfojfafnecdaa
