/- Contracts of the functions that the claim reaches, as the symbolic executor tells them. No conditions. -/
import Derived.Test.YteneneadfpkahaaProg
import Derived.Test.YteneneadfpkahaaSxCon
import Derived.Test.YteneneadfpkahaaSxLoop4
import Derived.Test.YteneneadfpkahaaBiM
namespace Go.Proofs.Yteneneadfpkahaa
open Go Go.RowKit Go.Sx
set_option maxRecDepth 100000
set_option linter.unusedVariables false

/-! footpath/footpathlaw06.BinsHalves, which has loops: heads 0: p13 n14 -/
noncomputable def binsHalvesΓ : List Con := [wakes06C, countC, touchC]
noncomputable def binsHalvesW : T := walk0 Try.prog binsHalvesΓ 4000 Try.f5 [(some 0, [.i, .i, .i, .i, .i, .i, .i]), int1, int1, int1, int1, int1, bool1]
noncomputable def binsHalvesX0 : Head × Nat := headAt [] [] 13 (standAt binsHalvesW 0)
noncomputable def binsHalvesV0 : T := binsHalvesX0.1.walk Try.prog binsHalvesΓ 4000
noncomputable def binsHalvesHs : List Head := [binsHalvesX0.1]
def binsHalvesI0 (a_Clear : Int) (a_Climb : Int) (a_Height : Int) (a_Rise : Int) (a_Run : Int) (a_W : Int) (a_D : Int) (b : Int) (c : Int) (d : Int) (e : Int) (f : Int) (g : Bool) (_p13 : Bool) (n14 : Int) : Prop := b ≤ d ∧ c ≤ e ∧ -1 ≤ n14 ∧ n14 ≤ countF a_Clear a_Climb a_Height a_Rise a_Run a_W a_D + 1
noncomputable def binsHalvesm0 (a_Clear : Int) (a_Climb : Int) (a_Height : Int) (a_Rise : Int) (a_Run : Int) (a_W : Int) (a_D : Int) (b : Int) (c : Int) (d : Int) (e : Int) (f : Int) (g : Bool) (_p13 : Bool) (n14 : Int) : Nat × Nat := ((countF a_Clear a_Climb a_Height a_Rise a_Run a_W a_D + 1 - n14).toNat, 0)
def binsHalvesStart (a_Clear : Int) (a_Climb : Int) (a_Height : Int) (a_Rise : Int) (a_Run : Int) (a_W : Int) (a_D : Int) (b : Int) (c : Int) (d : Int) (e : Int) (f : Int) (g : Bool) : Prop := ((((decide (d < b) || decide (e < c))) = true → (Value.bool (wakes06F) = Value.bool true)) ∧ (((decide (d < b) || decide (e < c))) = false → binsHalvesI0 a_Clear a_Climb a_Height a_Rise a_Run a_W a_D b c d e f g false ((-1))))
def binsHalvesStep0 (a_Clear : Int) (a_Climb : Int) (a_Height : Int) (a_Rise : Int) (a_Run : Int) (a_W : Int) (a_D : Int) (b : Int) (c : Int) (d : Int) (e : Int) (f : Int) (g : Bool) (p13 : Bool) (n14 : Int) : Prop := (((decide (n14 ≤ countF a_Clear a_Climb a_Height a_Rise a_Run a_W a_D)) = true → ((g = true → (((!(((touchF a_Clear a_Climb a_Height a_Rise a_Run a_W a_D n14 b c d e) == ((touchF a_Clear a_Climb a_Height a_Rise a_Run a_W a_D n14 b c (min (max f b) d) e || touchF a_Clear a_Climb a_Height a_Rise a_Run a_W a_D n14 (min (max f b) d) c d e))))) = true → (Value.bool (false) = Value.bool true)) ∧ ((!(((touchF a_Clear a_Climb a_Height a_Rise a_Run a_W a_D n14 b c d e) == ((touchF a_Clear a_Climb a_Height a_Rise a_Run a_W a_D n14 b c (min (max f b) d) e || touchF a_Clear a_Climb a_Height a_Rise a_Run a_W a_D n14 (min (max f b) d) c d e))))) = false → (binsHalvesI0 a_Clear a_Climb a_Height a_Rise a_Run a_W a_D b c d e f g p13 (w64 (n14 + 1)) ∧ lexLt (binsHalvesm0 a_Clear a_Climb a_Height a_Rise a_Run a_W a_D b c d e f g p13 (w64 (n14 + 1))) (binsHalvesm0 a_Clear a_Climb a_Height a_Rise a_Run a_W a_D b c d e f g p13 n14))))) ∧ (g = false → (((!(((touchF a_Clear a_Climb a_Height a_Rise a_Run a_W a_D n14 b c d e) == ((touchF a_Clear a_Climb a_Height a_Rise a_Run a_W a_D n14 b c d (min (max f c) e) || touchF a_Clear a_Climb a_Height a_Rise a_Run a_W a_D n14 b (min (max f c) e) d e))))) = true → (Value.bool (false) = Value.bool true)) ∧ ((!(((touchF a_Clear a_Climb a_Height a_Rise a_Run a_W a_D n14 b c d e) == ((touchF a_Clear a_Climb a_Height a_Rise a_Run a_W a_D n14 b c d (min (max f c) e) || touchF a_Clear a_Climb a_Height a_Rise a_Run a_W a_D n14 b (min (max f c) e) d e))))) = false → (binsHalvesI0 a_Clear a_Climb a_Height a_Rise a_Run a_W a_D b c d e f g p13 (w64 (n14 + 1)) ∧ lexLt (binsHalvesm0 a_Clear a_Climb a_Height a_Rise a_Run a_W a_D b c d e f g p13 (w64 (n14 + 1))) (binsHalvesm0 a_Clear a_Climb a_Height a_Rise a_Run a_W a_D b c d e f g p13 n14))))))) ∧ ((decide (n14 ≤ countF a_Clear a_Climb a_Height a_Rise a_Run a_W a_D)) = false → (Value.bool (wakes06F) = Value.bool true)))
def binsHalvesI (j : Nat) (ρ : Env) : Prop := match j with
  | 0 => binsHalvesI0 (ρ.i 0) (ρ.i 1) (ρ.i 2) (ρ.i 3) (ρ.i 4) (ρ.i 5) (ρ.i 6) (ρ.i 7) (ρ.i 8) (ρ.i 9) (ρ.i 10) (ρ.i 11) (ρ.b 12) (ρ.b 13) (ρ.i 14)
  | _ => False
noncomputable def binsHalvesm (j : Nat) (ρ : Env) : Nat × Nat := match j with
  | 0 => binsHalvesm0 (ρ.i 0) (ρ.i 1) (ρ.i 2) (ρ.i 3) (ρ.i 4) (ρ.i 5) (ρ.i 6) (ρ.i 7) (ρ.i 8) (ρ.i 9) (ρ.i 10) (ρ.i 11) (ρ.b 12) (ρ.b 13) (ρ.i 14)
  | _ => (0, 0)
noncomputable def binsHalvesC : Con := { f := 5, params := [(some 0, [.i, .i, .i, .i, .i, .i, .i]), int1, int1, int1, int1, int1, bool1], tup := false, res := [bool1], fi := fun _ _ => 0, fb := fun _ _ => true, fv := fun _ _ => .nilIface }
noncomputable def binsHalvesF (a_Clear : Int) (a_Climb : Int) (a_Height : Int) (a_Rise : Int) (a_Run : Int) (a_W : Int) (a_D : Int) (b : Int) (c : Int) (d : Int) (e : Int) (f : Int) (g : Bool) : Bool := binsHalvesC.fb [.int .i64 a_Clear, .int .i64 a_Climb, .int .i64 a_Height, .int .i64 a_Rise, .int .i64 a_Run, .int .i64 a_W, .int .i64 a_D, .int .i64 b, .int .i64 c, .int .i64 d, .int .i64 e, .int .i64 f, .bool g] 0
theorem binsHalvesF_eq (a_Clear : Int) (a_Climb : Int) (a_Height : Int) (a_Rise : Int) (a_Run : Int) (a_W : Int) (a_D : Int) (b : Int) (c : Int) (d : Int) (e : Int) (f : Int) (g : Bool) : binsHalvesF a_Clear a_Climb a_Height a_Rise a_Run a_W a_D b c d e f g = true := rfl
theorem binsHalves_true (a_Clear : Int) (a_Climb : Int) (a_Height : Int) (a_Rise : Int) (a_Run : Int) (a_W : Int) (a_D : Int) (b : Int) (c : Int) (d : Int) (e : Int) (f : Int) (g : Bool) : binsHalvesF a_Clear a_Climb a_Height a_Rise a_Run a_W a_D b c d e f g = true := rfl
theorem binsHalves_start (a_Clear : Int) (a_Climb : Int) (a_Height : Int) (a_Rise : Int) (a_Run : Int) (a_W : Int) (a_D : Int) (b : Int) (c : Int) (d : Int) (e : Int) (f : Int) (g : Bool) : binsHalvesStart a_Clear a_Climb a_Height a_Rise a_Run a_W a_D b c d e f g := by
  unfold binsHalvesStart
  refine ⟨fun _ => by rw [wakes06_true], fun h => ?_⟩
  simp only [Bool.or_eq_false_iff, decide_eq_false_iff_not] at h
  have := count_bd a_Clear a_Climb a_Height a_Rise a_Run a_W a_D
  exact ⟨by omega, by omega, by omega, by omega⟩
/-- Two stretches cut at a number between. -/
theorem hit_cut_x (ax az bx bz x0 z0 x1 z1 at_ : Int) (h : x0 ≤ at_) (h2 : at_ ≤ x1) (hb : ax ≤ bx) : hit ax az bx bz x0 z0 x1 z1 = (hit ax az bx bz x0 z0 at_ z1 || hit ax az bx bz at_ z0 x1 z1) := by
  unfold hit
  rw [← Bool.decide_or, decide_eq_decide]
  omega
theorem hit_cut_z (ax az bx bz x0 z0 x1 z1 at_ : Int) (h : z0 ≤ at_) (h2 : at_ ≤ z1) (hb : az ≤ bz) : hit ax az bx bz x0 z0 x1 z1 = (hit ax az bx bz x0 z0 x1 at_ || hit ax az bx bz x0 at_ x1 z1) := by
  unfold hit
  rw [← Bool.decide_or, decide_eq_decide]
  omega
theorem lo_hi {a f i : Int} (ha : 0 ≤ a) (ha2 : a ≤ 3) (hf : 1 ≤ f) (hf2 : f ≤ 32) (h0 : 0 ≤ i) (h1 : i < wd f) : loT a i ≤ hiT a f i := (pad_side ha ha2 hf hf2 h0 h1).2.2
theorem binsHalves_step0 (a_Clear : Int) (a_Climb : Int) (a_Height : Int) (a_Rise : Int) (a_Run : Int) (a_W : Int) (a_D : Int) (b : Int) (c : Int) (d : Int) (e : Int) (f : Int) (g : Bool) (p13 : Bool) (n14 : Int) (h : binsHalvesI0 a_Clear a_Climb a_Height a_Rise a_Run a_W a_D b c d e f g p13 n14) : binsHalvesStep0 a_Clear a_Climb a_Height a_Rise a_Run a_W a_D b c d e f g p13 n14 := by
  obtain ⟨h1, h2, h3, h4⟩ := h
  unfold binsHalvesStep0
  refine ⟨fun hc => ?_, fun _ => by rw [wakes06_true]⟩
  have hc : n14 ≤ countF a_Clear a_Climb a_Height a_Rise a_Run a_W a_D := by simpa using hc
  have hb := count_bd a_Clear a_Climb a_Height a_Rise a_Run a_W a_D
  have ew : w64 (n14 + 1) = n14 + 1 := by rw [w64_id] <;> omega
  have nxt : binsHalvesI0 a_Clear a_Climb a_Height a_Rise a_Run a_W a_D b c d e f g p13 (w64 (n14 + 1)) ∧ lexLt (binsHalvesm0 a_Clear a_Climb a_Height a_Rise a_Run a_W a_D b c d e f g p13 (w64 (n14 + 1))) (binsHalvesm0 a_Clear a_Climb a_Height a_Rise a_Run a_W a_D b c d e f g p13 n14) := by
    rw [ew]
    refine ⟨⟨h1, h2, by omega, by omega⟩, .inl ?_⟩
    simp only [binsHalvesm0]
    omega
  have key : ∀ (x0 z0 x1 z1 p0 q0 p1 q1 r0 s0 r1 s1 : Int), (∀ ax az bx bz : Int, ax ≤ bx → az ≤ bz → hit ax az bx bz x0 z0 x1 z1 = (hit ax az bx bz p0 q0 p1 q1 || hit ax az bx bz r0 s0 r1 s1)) →
      touchF a_Clear a_Climb a_Height a_Rise a_Run a_W a_D n14 x0 z0 x1 z1 = (touchF a_Clear a_Climb a_Height a_Rise a_Run a_W a_D n14 p0 q0 p1 q1 || touchF a_Clear a_Climb a_Height a_Rise a_Run a_W a_D n14 r0 s0 r1 s1) := by
    intro x0 z0 x1 z1 p0 q0 p1 q1 r0 s0 r1 s1 hh
    by_cases ho : n14 < 0 ∨ countF a_Clear a_Climb a_Height a_Rise a_Run a_W a_D ≤ n14
    · rw [touch_out ho, touch_out ho, touch_out ho]; rfl
    · obtain ⟨hk, hl⟩ := count_ok (i := n14) (by omega) (by omega : n14 < countF a_Clear a_Climb a_Height a_Rise a_Run a_W a_D)
      rw [touch_val hk (by omega) hl, touch_val hk (by omega) hl, touch_val hk (by omega) hl]
      unfold okC at hk
      have wf := wd_val (n := a_W) (by omega) (by omega)
      have wg := wd_val (n := a_D) (by omega) (by omega)
      have ht := tile_at wf.2.1 wf.2.2.1 wg.2.2.1 (by omega : 0 ≤ n14) hl
      exact hh _ _ _ _ (lo_hi (by omega) (by omega) (by omega) (by omega) (by omega) (by omega)) (lo_hi (by omega) (by omega) (by omega) (by omega) (by omega) (by omega))
  have cx : touchF a_Clear a_Climb a_Height a_Rise a_Run a_W a_D n14 b c d e = (touchF a_Clear a_Climb a_Height a_Rise a_Run a_W a_D n14 b c (min (max f b) d) e || touchF a_Clear a_Climb a_Height a_Rise a_Run a_W a_D n14 (min (max f b) d) c d e) :=
    key _ _ _ _ _ _ _ _ _ _ _ _ fun ax az bx bz hx _ => hit_cut_x ax az bx bz b c d e _ (by omega) (by omega) hx
  have cz : touchF a_Clear a_Climb a_Height a_Rise a_Run a_W a_D n14 b c d e = (touchF a_Clear a_Climb a_Height a_Rise a_Run a_W a_D n14 b c d (min (max f c) e) || touchF a_Clear a_Climb a_Height a_Rise a_Run a_W a_D n14 b (min (max f c) e) d e) :=
    key _ _ _ _ _ _ _ _ _ _ _ _ fun ax az bx bz _ hz => hit_cut_z ax az bx bz b c d e _ (by omega) (by omega) hz
  refine ⟨fun _ => ⟨fun hn => ?_, fun _ => nxt⟩, fun _ => ⟨fun hn => ?_, fun _ => nxt⟩⟩
  · rw [← cx, beq_self_eq_true] at hn; cases hn
  · rw [← cz, beq_self_eq_true] at hn; cases hn
theorem binsHalvesC_holds : binsHalvesC.holds Try.prog := by
  have hn : ∀ j, 13 ≤ nOf binsHalvesHs j ∨ binsHalvesHs.length ≤ j := by
    intro j
    match j with
    | 0 => exact .inl (by rw [show nOf binsHalvesHs 0 = 13 by kernel_rfl]; decide)
    | n + 1 => exact .inr (Nat.le_add_left _ _)
  refine con_of_heads (x := binsHalvesC) (Γ := binsHalvesΓ) (by exact (cons_holds wakes06C_holds (cons_holds countC_holds (cons_holds touchC_holds nil_holds)))) 4000 13 (fn := Try.f5) Try.func5 (by kernel_rfl) (by kernel_rfl) binsHalvesHs [0] [[0, 0]] hn (by kernel_rfl) (by kernel_rfl) binsHalvesI binsHalvesm ?_ ?_
  · rintro cs ⟨a_Clear, _, rfl, a_Climb, _, rfl, a_Height, _, rfl, a_Rise, _, rfl, a_Run, _, rfl, a_W, _, rfl, a_D, _, rfl, b, _, rfl, c, _, rfl, d, _, rfl, e, _, rfl, f, _, rfl, g, _, rfl, rfl⟩
    refine Eq.mpr (?_ : _ = binsHalvesStart a_Clear a_Climb a_Height a_Rise a_Run a_W a_D b c d e f g) (binsHalves_start a_Clear a_Climb a_Height a_Rise a_Run a_W a_D b c d e f g)
    kernel_rfl
  · rintro cs ⟨a_Clear, _, rfl, a_Climb, _, rfl, a_Height, _, rfl, a_Rise, _, rfl, a_Run, _, rfl, a_W, _, rfl, a_D, _, rfl, b, _, rfl, c, _, rfl, d, _, rfl, e, _, rfl, f, _, rfl, g, _, rfl, rfl⟩ j hd tgt hj ht ⟨fi, fb, fv, fns⟩ hag hI
    obtain rfl : fns = binsHalvesΓ := hag.fns
    match j, hj, ht, hI with
    | 0, hj, ht, hI =>
      obtain rfl : binsHalvesX0.1 = hd := Option.some.inj hj
      obtain rfl : [0, 0] = tgt := Option.some.inj ht
      have e0 : fi 0 = a_Clear := hag.i 0 (by decide)
      subst e0
      have e1 : fi 1 = a_Climb := hag.i 1 (by decide)
      subst e1
      have e2 : fi 2 = a_Height := hag.i 2 (by decide)
      subst e2
      have e3 : fi 3 = a_Rise := hag.i 3 (by decide)
      subst e3
      have e4 : fi 4 = a_Run := hag.i 4 (by decide)
      subst e4
      have e5 : fi 5 = a_W := hag.i 5 (by decide)
      subst e5
      have e6 : fi 6 = a_D := hag.i 6 (by decide)
      subst e6
      have e7 : fi 7 = b := hag.i 7 (by decide)
      subst e7
      have e8 : fi 8 = c := hag.i 8 (by decide)
      subst e8
      have e9 : fi 9 = d := hag.i 9 (by decide)
      subst e9
      have e10 : fi 10 = e := hag.i 10 (by decide)
      subst e10
      have e11 : fi 11 = f := hag.i 11 (by decide)
      subst e11
      have e12 : fb 12 = g := hag.b 12 (by decide)
      subst e12
      refine Eq.mpr (?_ : _ = binsHalvesStep0 (fi 0) (fi 1) (fi 2) (fi 3) (fi 4) (fi 5) (fi 6) (fi 7) (fi 8) (fi 9) (fi 10) (fi 11) (fb 12) (fb 13) (fi 14)) (binsHalves_step0 (fi 0) (fi 1) (fi 2) (fi 3) (fi 4) (fi 5) (fi 6) (fi 7) (fi 8) (fi 9) (fi 10) (fi 11) (fb 12) (fb 13) (fi 14) hI)
      kernel_rfl
    | n + 1, hj, _, _ => cases hj

end Go.Proofs.Yteneneadfpkahaa
