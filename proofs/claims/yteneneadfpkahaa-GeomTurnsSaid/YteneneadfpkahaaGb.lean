/- Contracts of the functions that the claim reaches, as the symbolic executor tells them. No conditions. -/
import Derived.Test.YteneneadfpkahaaProg
import Derived.Test.YteneneadfpkahaaSxCon
import Derived.Test.YteneneadfpkahaaSxLoop5
import Derived.Test.YteneneadfpkahaaGsL
namespace Go.Proofs.Yteneneadfpkahaa
open Go Go.RowKit Go.Sx
set_option maxRecDepth 100000
set_option linter.unusedVariables false

/-! footpath/footpathref02.In -/
noncomputable def rIn2C : Con := conOf Try.prog [rInC] 4000 101 [(some 0, [.i, .i])] false [(some 0, [.i, .i])]
noncomputable def rIn2F0 (a_X : Int) (a_Z : Int) : Int := rIn2C.fi [.int .i64 a_X, .int .i64 a_Z] 0
theorem rIn2F0_eq (a_X : Int) (a_Z : Int) : rIn2F0 a_X a_Z = rInF a_X (-1048576) 1048576 := by kernel_rfl
noncomputable def rIn2F1 (a_X : Int) (a_Z : Int) : Int := rIn2C.fi [.int .i64 a_X, .int .i64 a_Z] 1
theorem rIn2F1_eq (a_X : Int) (a_Z : Int) : rIn2F1 a_X a_Z = rInF a_Z (-1048576) 1048576 := by kernel_rfl
theorem rIn2C_holds : rIn2C.holds Try.prog := conOf_holds (cons_holds rInC_holds nil_holds) _ _ _ _ _ (by kernel_rfl)

/-! footpath/geom.Bounds, which reads slices: heads 0: n1 n2 n3 n4 n5 -/
noncomputable def gboundsΓ : List Con := [ginC]
noncomputable def gboundsW : T := walkS Try.prog gboundsΓ 4000 Try.f58 (symArgs 0 [val1]) [⟨0, 48, [.i, .i], none⟩]
noncomputable def gboundsX0 : Head × Nat := headAt [] [] 1 (standAt gboundsW 0)
noncomputable def gboundsV0 : T := gboundsX0.1.walk Try.prog gboundsΓ 4000
noncomputable def gboundsHs : List Head := [gboundsX0.1]
structure B4 where
  a : Int
  b : Int
  c : Int
  d : Int
noncomputable def px (xs : List Value) (k : Nat) : Int := ginF0 (intOf (xs.getD (k * 2 + 0) .nilIface)) (intOf (xs.getD (k * 2 + 1) .nilIface))
noncomputable def pz (xs : List Value) (k : Nat) : Int := ginF1 (intOf (xs.getD (k * 2 + 0) .nilIface)) (intOf (xs.getD (k * 2 + 1) .nilIface))
/-- The least and greatest of the first so many. -/
noncomputable def bnd (xs : List Value) : Nat → B4
  | 0 => ⟨0, 0, 0, 0⟩
  | k + 1 => if k = 0 then ⟨px xs 0, pz xs 0, px xs 0, pz xs 0⟩ else ⟨min (bnd xs k).a (px xs k), min (bnd xs k).b (pz xs k), max (bnd xs k).c (px xs k), max (bnd xs k).d (pz xs k)⟩
noncomputable def gboundsS0 (_a : Value) (xs : List Value) : Int := (bnd xs (xs.length / 2)).a
noncomputable def gboundsS1 (_a : Value) (xs : List Value) : Int := (bnd xs (xs.length / 2)).b
noncomputable def gboundsS2 (_a : Value) (xs : List Value) : Int := (bnd xs (xs.length / 2)).c
noncomputable def gboundsS3 (_a : Value) (xs : List Value) : Int := (bnd xs (xs.length / 2)).d
def gboundsS4 (_a : Value) (xs : List Value) : Bool := decide (0 < xs.length / 2)
def gboundsI0 (_a : Value) (xs : List Value) (n1 n2 n3 n4 n5 : Int) : Prop := ∃ k : Nat, n5 = k ∧ k ≤ xs.length / 2 ∧ n1 = (bnd xs k).a ∧ n2 = (bnd xs k).b ∧ n3 = (bnd xs k).c ∧ n4 = (bnd xs k).d ∧ xs.length / 2 ≤ 9223372036854775807
def gboundsm0 (_a : Value) (xs : List Value) (_n1 _n2 _n3 _n4 n5 : Int) : Nat × Nat := (((xs.length / 2 : Nat) - n5 : Int).toNat, 0)
def gboundsStart (a : Value) (a_s : List Value) : Prop := gboundsI0 a a_s 0 0 0 0 0
def gboundsStep0 (a : Value) (a_s : List Value) (n1 : Int) (n2 : Int) (n3 : Int) (n4 : Int) (n5 : Int) : Prop := (((decide (n5 < ((a_s.length / 2 : Nat) : Int))) = true → ((decide (0 ≤ n5)) = true ∧ ((decide (n5 < ((a_s.length / 2 : Nat) : Int))) = true ∧ ((decide (0 ≤ n5)) = true ∧ ((decide (n5 < ((a_s.length / 2 : Nat) : Int))) = true ∧ (((n5 == 0) = true → (gboundsI0 a a_s (min (ginF0 (intOf (a_s.getD (Int.toNat n5 * 2 + 0) .nilIface)) (intOf (a_s.getD (Int.toNat n5 * 2 + 1) .nilIface))) (ginF0 (intOf (a_s.getD (Int.toNat n5 * 2 + 0) .nilIface)) (intOf (a_s.getD (Int.toNat n5 * 2 + 1) .nilIface)))) (min (ginF1 (intOf (a_s.getD (Int.toNat n5 * 2 + 0) .nilIface)) (intOf (a_s.getD (Int.toNat n5 * 2 + 1) .nilIface))) (ginF1 (intOf (a_s.getD (Int.toNat n5 * 2 + 0) .nilIface)) (intOf (a_s.getD (Int.toNat n5 * 2 + 1) .nilIface)))) (max (ginF0 (intOf (a_s.getD (Int.toNat n5 * 2 + 0) .nilIface)) (intOf (a_s.getD (Int.toNat n5 * 2 + 1) .nilIface))) (ginF0 (intOf (a_s.getD (Int.toNat n5 * 2 + 0) .nilIface)) (intOf (a_s.getD (Int.toNat n5 * 2 + 1) .nilIface)))) (max (ginF1 (intOf (a_s.getD (Int.toNat n5 * 2 + 0) .nilIface)) (intOf (a_s.getD (Int.toNat n5 * 2 + 1) .nilIface))) (ginF1 (intOf (a_s.getD (Int.toNat n5 * 2 + 0) .nilIface)) (intOf (a_s.getD (Int.toNat n5 * 2 + 1) .nilIface)))) (w64 (n5 + 1)) ∧ lexLt (gboundsm0 a a_s (min (ginF0 (intOf (a_s.getD (Int.toNat n5 * 2 + 0) .nilIface)) (intOf (a_s.getD (Int.toNat n5 * 2 + 1) .nilIface))) (ginF0 (intOf (a_s.getD (Int.toNat n5 * 2 + 0) .nilIface)) (intOf (a_s.getD (Int.toNat n5 * 2 + 1) .nilIface)))) (min (ginF1 (intOf (a_s.getD (Int.toNat n5 * 2 + 0) .nilIface)) (intOf (a_s.getD (Int.toNat n5 * 2 + 1) .nilIface))) (ginF1 (intOf (a_s.getD (Int.toNat n5 * 2 + 0) .nilIface)) (intOf (a_s.getD (Int.toNat n5 * 2 + 1) .nilIface)))) (max (ginF0 (intOf (a_s.getD (Int.toNat n5 * 2 + 0) .nilIface)) (intOf (a_s.getD (Int.toNat n5 * 2 + 1) .nilIface))) (ginF0 (intOf (a_s.getD (Int.toNat n5 * 2 + 0) .nilIface)) (intOf (a_s.getD (Int.toNat n5 * 2 + 1) .nilIface)))) (max (ginF1 (intOf (a_s.getD (Int.toNat n5 * 2 + 0) .nilIface)) (intOf (a_s.getD (Int.toNat n5 * 2 + 1) .nilIface))) (ginF1 (intOf (a_s.getD (Int.toNat n5 * 2 + 0) .nilIface)) (intOf (a_s.getD (Int.toNat n5 * 2 + 1) .nilIface)))) (w64 (n5 + 1))) (gboundsm0 a a_s n1 n2 n3 n4 n5))) ∧ ((n5 == 0) = false → (gboundsI0 a a_s (min n1 (ginF0 (intOf (a_s.getD (Int.toNat n5 * 2 + 0) .nilIface)) (intOf (a_s.getD (Int.toNat n5 * 2 + 1) .nilIface)))) (min n2 (ginF1 (intOf (a_s.getD (Int.toNat n5 * 2 + 0) .nilIface)) (intOf (a_s.getD (Int.toNat n5 * 2 + 1) .nilIface)))) (max n3 (ginF0 (intOf (a_s.getD (Int.toNat n5 * 2 + 0) .nilIface)) (intOf (a_s.getD (Int.toNat n5 * 2 + 1) .nilIface)))) (max n4 (ginF1 (intOf (a_s.getD (Int.toNat n5 * 2 + 0) .nilIface)) (intOf (a_s.getD (Int.toNat n5 * 2 + 1) .nilIface)))) (w64 (n5 + 1)) ∧ lexLt (gboundsm0 a a_s (min n1 (ginF0 (intOf (a_s.getD (Int.toNat n5 * 2 + 0) .nilIface)) (intOf (a_s.getD (Int.toNat n5 * 2 + 1) .nilIface)))) (min n2 (ginF1 (intOf (a_s.getD (Int.toNat n5 * 2 + 0) .nilIface)) (intOf (a_s.getD (Int.toNat n5 * 2 + 1) .nilIface)))) (max n3 (ginF0 (intOf (a_s.getD (Int.toNat n5 * 2 + 0) .nilIface)) (intOf (a_s.getD (Int.toNat n5 * 2 + 1) .nilIface)))) (max n4 (ginF1 (intOf (a_s.getD (Int.toNat n5 * 2 + 0) .nilIface)) (intOf (a_s.getD (Int.toNat n5 * 2 + 1) .nilIface)))) (w64 (n5 + 1))) (gboundsm0 a a_s n1 n2 n3 n4 n5))))))))) ∧ ((decide (n5 < ((a_s.length / 2 : Nat) : Int))) = false → (Value.tuple #[Value.int .i64 (n1), Value.int .i64 (n2), Value.int .i64 (n3), Value.int .i64 (n4), Value.bool (decide (0 < ((a_s.length / 2 : Nat) : Int)))] = Value.tuple #[Value.int .i64 (gboundsS0 a a_s), Value.int .i64 (gboundsS1 a a_s), Value.int .i64 (gboundsS2 a a_s), Value.int .i64 (gboundsS3 a a_s), Value.bool (gboundsS4 a a_s)])))
def gboundsI (j : Nat) (ρ : Env) : Prop := match j with
  | 0 => gboundsI0 (ρ.v 0) (ρ.sl 0) (ρ.i 1) (ρ.i 2) (ρ.i 3) (ρ.i 4) (ρ.i 5)
  | _ => False
noncomputable def gboundsm (j : Nat) (ρ : Env) : Nat × Nat := match j with
  | 0 => gboundsm0 (ρ.v 0) (ρ.sl 0) (ρ.i 1) (ρ.i 2) (ρ.i 3) (ρ.i 4) (ρ.i 5)
  | _ => (0, 0)
theorem gbounds_start (a : Value) (a_s : List Value) (hb : a_s.length / 2 ≤ 9223372036854775807) : gboundsStart a a_s := ⟨0, rfl, Nat.zero_le _, rfl, rfl, rfl, rfl, hb⟩
theorem gbounds_step0 (a : Value) (a_s : List Value) (n1 n2 n3 n4 n5 : Int) (h : gboundsI0 a a_s n1 n2 n3 n4 n5) : gboundsStep0 a a_s n1 n2 n3 n4 n5 := by
  obtain ⟨k, rfl, hk, rfl, rfl, rfl, rfl, hb⟩ := h
  unfold gboundsStep0
  refine ⟨fun hn => ?_, fun hn => ?_⟩
  · have h0 : (decide ((0 : Int) ≤ (k : Int))) = true := by simp
    have hlt : k < a_s.length / 2 := by
      rw [decide_eq_true_eq] at hn
      exact Int.ofNat_lt.1 hn
    have ew : w64 ((k : Int) + 1) = ((k + 1 : Nat) : Int) := by rw [w64_id] <;> omega
    have et : ((k : Int)).toNat = k := Int.toNat_natCast k
    rw [ew, et]
    have hm : lexLt ((((a_s.length / 2 : Nat) : Int) - ((k + 1 : Nat) : Int)).toNat, 0) ((((a_s.length / 2 : Nat) : Int) - (k : Int)).toNat, 0) := .inl (by
      show (((a_s.length / 2 : Nat) : Int) - ((k + 1 : Nat) : Int)).toNat < (((a_s.length / 2 : Nat) : Int) - (k : Int)).toNat
      omega)
    refine ⟨h0, hn, h0, hn, fun hk0 => ?_, fun hk0 => ?_⟩
    · have hk0 : k = 0 := by
        have := eq_of_beq hk0
        omega
      subst hk0
      refine ⟨⟨1, rfl, hlt, ?_, ?_, ?_, ?_, hb⟩, hm⟩
      · show min (px a_s 0) (px a_s 0) = _
        rw [Int.min_self]; rfl
      · show min (pz a_s 0) (pz a_s 0) = _
        rw [Int.min_self]; rfl
      · show max (px a_s 0) (px a_s 0) = _
        rw [Int.max_self]; rfl
      · show max (pz a_s 0) (pz a_s 0) = _
        rw [Int.max_self]; rfl
    · have hk0 : k ≠ 0 := by
        intro e
        rw [e] at hk0
        exact absurd hk0 (by decide)
      have e : bnd a_s (k + 1) = ⟨min (bnd a_s k).a (px a_s k), min (bnd a_s k).b (pz a_s k), max (bnd a_s k).c (px a_s k), max (bnd a_s k).d (pz a_s k)⟩ := by
        rw [bnd, if_neg hk0]
      exact ⟨⟨k + 1, rfl, hlt, by rw [e]; rfl, by rw [e]; rfl, by rw [e]; rfl, by rw [e]; rfl, hb⟩, hm⟩
  · have hge : k = a_s.length / 2 := by
      rw [decide_eq_false_iff_not] at hn
      have : ¬ k < a_s.length / 2 := fun h => hn (Int.ofNat_lt.2 h)
      omega
    unfold gboundsS0 gboundsS1 gboundsS2 gboundsS3 gboundsS4
    rw [← hge]
    have e : decide ((0 : Int) < (k : Int)) = decide (0 < k) := by rw [decide_eq_decide]; omega
    rw [e]
theorem gbounds_calls (a : Value) (a_s : List Value) (w : World) (h_a : InVal w.heap.size w a a_s [.i, .i]) (hb_a : a_s.length / 2 ≤ 9223372036854775807) : Calls Try.prog 58 #[a] w fun e w2 => e = .returned (Value.tuple #[Value.int .i64 (gboundsS0 a a_s), Value.int .i64 (gboundsS1 a a_s), Value.int .i64 (gboundsS2 a a_s), Value.int .i64 (gboundsS3 a a_s), Value.bool (gboundsS4 a a_s)]) ∧ Below w.heap.size w w2 := by
  have hn : ∀ j, 1 ≤ nOf gboundsHs j ∨ gboundsHs.length ≤ j := by
    intro j
    match j with
    | 0 => exact .inl (by rw [show nOf gboundsHs 0 = 1 by kernel_rfl]; decide)
    | n + 1 => exact .inr (Nat.le_add_left _ _)
  have key := calls_of_heads (Γ := gboundsΓ) (by exact (cons_holds ginC_holds nil_holds)) (ρ0 := envS gboundsΓ [a] (fun k => if k = 0 then a_s else [])) rfl 4000 1 58 (fn := Try.f58) Try.func58 (by kernel_rfl) (symArgs 0 [val1]) [⟨0, 48, [.i, .i], none⟩] gboundsHs [0] [[0, 0]] hn (by kernel_rfl) (by kernel_rfl) gboundsI gboundsm (fun v => v = Value.tuple #[Value.int .i64 (gboundsS0 a a_s), Value.int .i64 (gboundsS1 a a_s), Value.int .i64 (gboundsS2 a a_s), Value.int .i64 (gboundsS3 a a_s), Value.bool (gboundsS4 a a_s)]) ?_ ?_ w (by
    intro s hs
    simp only [List.mem_cons, List.not_mem_nil, or_false] at hs
    subst hs; exact h_a)
  obtain ⟨A_a, len_a, c_a, e_a, _⟩ := h_a
  subst e_a
  · exact key.mono fun e w2 ⟨v, h1, h2, h3⟩ => ⟨by rw [h1, h2], h3⟩
  · refine Eq.mpr (?_ : _ = gboundsStart a a_s) (gbounds_start a a_s hb_a)
    kernel_rfl
  · rintro j hd tgt hj ht ⟨fi, fb, fv, fns, sl⟩ hag hI
    obtain rfl : fns = gboundsΓ := hag.fns
    obtain rfl : sl = (fun k => if k = 0 then a_s else []) := hag.sl
    match j, hj, ht, hI with
    | 0, hj, ht, hI =>
      obtain rfl : gboundsX0.1 = hd := Option.some.inj hj
      obtain rfl : [0, 0] = tgt := Option.some.inj ht
      have e0 : fv 0 = a := hag.v 0 (by decide)
      subst e0
      refine Eq.mpr (?_ : _ = gboundsStep0 (fv 0) a_s (fi 1) (fi 2) (fi 3) (fi 4) (fi 5)) (gbounds_step0 (fv 0) a_s (fi 1) (fi 2) (fi 3) (fi 4) (fi 5) hI)
      kernel_rfl
    | n + 1, hj, _, _ => cases hj

/-! footpath/footpathref02.Bounds, which reads slices: heads 0: n1 n2 n3 n4 n5 n6 n7 -/
noncomputable def rgboundsΓ : List Con := [rIn2C]
noncomputable def rgboundsW : T := walkS Try.prog rgboundsΓ 4000 Try.f59 (symArgs 0 [val1]) [⟨0, 48, [.i, .i], none⟩]
noncomputable def rgboundsX0 : Head × Nat := headAt [] [0] 1 (standAt rgboundsW 0)
noncomputable def rgboundsV0 : T := rgboundsX0.1.walk Try.prog rgboundsΓ 4000
noncomputable def rgboundsHs : List Head := [rgboundsX0.1]
theorem rIn_val (x lo hi : Int) : rInF x lo hi = min (max x lo) hi := rInF_eq x lo hi
theorem rIn2_gin (x z : Int) : rIn2F0 x z = ginF0 x z ∧ rIn2F1 x z = ginF1 x z := by
  rw [rIn2F0_eq, rIn2F1_eq, ginF0_eq, ginF1_eq, rIn_val, rIn_val]
  exact ⟨rfl, rfl⟩
noncomputable def rgboundsS0 (a : Value) (xs : List Value) : Int := gboundsS0 a xs
noncomputable def rgboundsS1 (a : Value) (xs : List Value) : Int := gboundsS1 a xs
noncomputable def rgboundsS2 (a : Value) (xs : List Value) : Int := gboundsS2 a xs
noncomputable def rgboundsS3 (a : Value) (xs : List Value) : Int := gboundsS3 a xs
def rgboundsS4 (a : Value) (xs : List Value) : Bool := gboundsS4 a xs
def rgboundsI0 (_a : Value) (xs : List Value) (n1 n2 n3 n4 n5 _n6 _n7 : Int) : Prop := ∃ k : Nat, n5 = k ∧ 1 ≤ k ∧ k ≤ xs.length / 2 ∧ n1 = (bnd xs k).a ∧ n2 = (bnd xs k).b ∧ n3 = (bnd xs k).c ∧ n4 = (bnd xs k).d ∧ xs.length / 2 ≤ 9223372036854775807
def rgboundsm0 (_a : Value) (xs : List Value) (_n1 _n2 _n3 _n4 n5 _n6 _n7 : Int) : Nat × Nat := (((xs.length / 2 : Nat) - n5 : Int).toNat, 0)
def rgboundsStart (a : Value) (a_s : List Value) : Prop := (((((((a_s.length / 2 : Nat) : Int)) == 0)) = true → (Value.tuple #[Value.int .i64 (0), Value.int .i64 (0), Value.int .i64 (0), Value.int .i64 (0), Value.bool (false)] = Value.tuple #[Value.int .i64 (rgboundsS0 a a_s), Value.int .i64 (rgboundsS1 a a_s), Value.int .i64 (rgboundsS2 a a_s), Value.int .i64 (rgboundsS3 a a_s), Value.bool (rgboundsS4 a a_s)])) ∧ ((((((a_s.length / 2 : Nat) : Int)) == 0)) = false → ((decide (0 ≤ 0)) = true ∧ ((decide (0 < ((a_s.length / 2 : Nat) : Int))) = true ∧ ((decide (0 ≤ 0)) = true ∧ ((decide (0 < ((a_s.length / 2 : Nat) : Int))) = true ∧ rgboundsI0 a a_s (rIn2F0 (intOf (a_s.getD (Int.toNat 0 * 2 + 0) .nilIface)) (intOf (a_s.getD (Int.toNat 0 * 2 + 1) .nilIface))) (rIn2F1 (intOf (a_s.getD (Int.toNat 0 * 2 + 0) .nilIface)) (intOf (a_s.getD (Int.toNat 0 * 2 + 1) .nilIface))) (rIn2F0 (intOf (a_s.getD (Int.toNat 0 * 2 + 0) .nilIface)) (intOf (a_s.getD (Int.toNat 0 * 2 + 1) .nilIface))) (rIn2F1 (intOf (a_s.getD (Int.toNat 0 * 2 + 0) .nilIface)) (intOf (a_s.getD (Int.toNat 0 * 2 + 1) .nilIface))) 1 (rIn2F0 (intOf (a_s.getD (Int.toNat 0 * 2 + 0) .nilIface)) (intOf (a_s.getD (Int.toNat 0 * 2 + 1) .nilIface))) (rIn2F1 (intOf (a_s.getD (Int.toNat 0 * 2 + 0) .nilIface)) (intOf (a_s.getD (Int.toNat 0 * 2 + 1) .nilIface)))))))))
def rgboundsStep0 (a : Value) (a_s : List Value) (n1 : Int) (n2 : Int) (n3 : Int) (n4 : Int) (n5 : Int) (n6 : Int) (n7 : Int) : Prop := (((decide (n5 < ((a_s.length / 2 : Nat) : Int))) = true → ((decide (0 ≤ n5)) = true ∧ ((decide (n5 < ((a_s.length / 2 : Nat) : Int))) = true ∧ ((decide (0 ≤ n5)) = true ∧ ((decide (n5 < ((a_s.length / 2 : Nat) : Int))) = true ∧ (rgboundsI0 a a_s (min n1 (rIn2F0 (intOf (a_s.getD (Int.toNat n5 * 2 + 0) .nilIface)) (intOf (a_s.getD (Int.toNat n5 * 2 + 1) .nilIface)))) (min n2 (rIn2F1 (intOf (a_s.getD (Int.toNat n5 * 2 + 0) .nilIface)) (intOf (a_s.getD (Int.toNat n5 * 2 + 1) .nilIface)))) (max n3 (rIn2F0 (intOf (a_s.getD (Int.toNat n5 * 2 + 0) .nilIface)) (intOf (a_s.getD (Int.toNat n5 * 2 + 1) .nilIface)))) (max n4 (rIn2F1 (intOf (a_s.getD (Int.toNat n5 * 2 + 0) .nilIface)) (intOf (a_s.getD (Int.toNat n5 * 2 + 1) .nilIface)))) (w64 (n5 + 1)) (rIn2F0 (intOf (a_s.getD (Int.toNat n5 * 2 + 0) .nilIface)) (intOf (a_s.getD (Int.toNat n5 * 2 + 1) .nilIface))) (rIn2F1 (intOf (a_s.getD (Int.toNat n5 * 2 + 0) .nilIface)) (intOf (a_s.getD (Int.toNat n5 * 2 + 1) .nilIface))) ∧ lexLt (rgboundsm0 a a_s (min n1 (rIn2F0 (intOf (a_s.getD (Int.toNat n5 * 2 + 0) .nilIface)) (intOf (a_s.getD (Int.toNat n5 * 2 + 1) .nilIface)))) (min n2 (rIn2F1 (intOf (a_s.getD (Int.toNat n5 * 2 + 0) .nilIface)) (intOf (a_s.getD (Int.toNat n5 * 2 + 1) .nilIface)))) (max n3 (rIn2F0 (intOf (a_s.getD (Int.toNat n5 * 2 + 0) .nilIface)) (intOf (a_s.getD (Int.toNat n5 * 2 + 1) .nilIface)))) (max n4 (rIn2F1 (intOf (a_s.getD (Int.toNat n5 * 2 + 0) .nilIface)) (intOf (a_s.getD (Int.toNat n5 * 2 + 1) .nilIface)))) (w64 (n5 + 1)) (rIn2F0 (intOf (a_s.getD (Int.toNat n5 * 2 + 0) .nilIface)) (intOf (a_s.getD (Int.toNat n5 * 2 + 1) .nilIface))) (rIn2F1 (intOf (a_s.getD (Int.toNat n5 * 2 + 0) .nilIface)) (intOf (a_s.getD (Int.toNat n5 * 2 + 1) .nilIface)))) (rgboundsm0 a a_s n1 n2 n3 n4 n5 n6 n7))))))) ∧ ((decide (n5 < ((a_s.length / 2 : Nat) : Int))) = false → (Value.tuple #[Value.int .i64 (n1), Value.int .i64 (n2), Value.int .i64 (n3), Value.int .i64 (n4), Value.bool (true)] = Value.tuple #[Value.int .i64 (rgboundsS0 a a_s), Value.int .i64 (rgboundsS1 a a_s), Value.int .i64 (rgboundsS2 a a_s), Value.int .i64 (rgboundsS3 a a_s), Value.bool (rgboundsS4 a a_s)])))
def rgboundsI (j : Nat) (ρ : Env) : Prop := match j with
  | 0 => rgboundsI0 (ρ.v 0) (ρ.sl 0) (ρ.i 1) (ρ.i 2) (ρ.i 3) (ρ.i 4) (ρ.i 5) (ρ.i 6) (ρ.i 7)
  | _ => False
noncomputable def rgboundsm (j : Nat) (ρ : Env) : Nat × Nat := match j with
  | 0 => rgboundsm0 (ρ.v 0) (ρ.sl 0) (ρ.i 1) (ρ.i 2) (ρ.i 3) (ρ.i 4) (ρ.i 5) (ρ.i 6) (ρ.i 7)
  | _ => (0, 0)
theorem rgbounds_start (a : Value) (a_s : List Value) (hb : a_s.length / 2 ≤ 9223372036854775807) : rgboundsStart a a_s := by
  unfold rgboundsStart rgboundsS0 rgboundsS1 rgboundsS2 rgboundsS3 rgboundsS4 gboundsS0 gboundsS1 gboundsS2 gboundsS3 gboundsS4
  refine ⟨fun h0 => ?_, fun h0 => ?_⟩
  · have h0 : a_s.length / 2 = 0 := by have := eq_of_beq h0; omega
    rw [h0]; rfl
  · have h1 : 0 < a_s.length / 2 := by
      have : a_s.length / 2 ≠ 0 := fun e => by rw [e] at h0; exact absurd h0 (by decide)
      omega
    have hd : decide ((0 : Int) < ((a_s.length / 2 : Nat) : Int)) = true := by simp only [decide_eq_true_eq]; omega
    refine ⟨by decide, hd, by decide, hd, 1, rfl, Nat.le_refl _, h1, ?_, ?_, ?_, ?_, hb⟩
    · exact (rIn2_gin _ _).1
    · exact (rIn2_gin _ _).2
    · exact (rIn2_gin _ _).1
    · exact (rIn2_gin _ _).2
theorem rgbounds_step0 (a : Value) (a_s : List Value) (n1 n2 n3 n4 n5 n6 n7 : Int) (h : rgboundsI0 a a_s n1 n2 n3 n4 n5 n6 n7) : rgboundsStep0 a a_s n1 n2 n3 n4 n5 n6 n7 := by
  obtain ⟨k, rfl, hk1, hk, rfl, rfl, rfl, rfl, hb⟩ := h
  unfold rgboundsStep0
  refine ⟨fun hn => ?_, fun hn => ?_⟩
  · have h0 : (decide ((0 : Int) ≤ (k : Int))) = true := by simp
    have hlt : k < a_s.length / 2 := by
      rw [decide_eq_true_eq] at hn
      exact Int.ofNat_lt.1 hn
    have ew : w64 ((k : Int) + 1) = ((k + 1 : Nat) : Int) := by rw [w64_id] <;> omega
    have et : ((k : Int)).toNat = k := Int.toNat_natCast k
    rw [ew, et, (rIn2_gin _ _).1, (rIn2_gin _ _).2]
    have hm : lexLt ((((a_s.length / 2 : Nat) : Int) - ((k + 1 : Nat) : Int)).toNat, 0) ((((a_s.length / 2 : Nat) : Int) - (k : Int)).toNat, 0) := .inl (by
      show (((a_s.length / 2 : Nat) : Int) - ((k + 1 : Nat) : Int)).toNat < (((a_s.length / 2 : Nat) : Int) - (k : Int)).toNat
      omega)
    have e : bnd a_s (k + 1) = ⟨min (bnd a_s k).a (px a_s k), min (bnd a_s k).b (pz a_s k), max (bnd a_s k).c (px a_s k), max (bnd a_s k).d (pz a_s k)⟩ := by
      rw [bnd, if_neg (by omega)]
    exact ⟨h0, hn, h0, hn, ⟨k + 1, rfl, by omega, hlt, by rw [e]; rfl, by rw [e]; rfl, by rw [e]; rfl, by rw [e]; rfl, hb⟩, hm⟩
  · have hge : k = a_s.length / 2 := by
      rw [decide_eq_false_iff_not] at hn
      have : ¬ k < a_s.length / 2 := fun h => hn (Int.ofNat_lt.2 h)
      omega
    unfold rgboundsS0 rgboundsS1 rgboundsS2 rgboundsS3 rgboundsS4 gboundsS0 gboundsS1 gboundsS2 gboundsS3 gboundsS4
    rw [← hge]
    have e : decide (0 < k) = true := by simp; omega
    rw [e]
theorem rgbounds_calls (a : Value) (a_s : List Value) (w : World) (h_a : InVal w.heap.size w a a_s [.i, .i]) (hb_a : a_s.length / 2 ≤ 9223372036854775807) : Calls Try.prog 59 #[a] w fun e w2 => e = .returned (Value.tuple #[Value.int .i64 (rgboundsS0 a a_s), Value.int .i64 (rgboundsS1 a a_s), Value.int .i64 (rgboundsS2 a a_s), Value.int .i64 (rgboundsS3 a a_s), Value.bool (rgboundsS4 a a_s)]) ∧ Below w.heap.size w w2 := by
  have hn : ∀ j, 1 ≤ nOf rgboundsHs j ∨ rgboundsHs.length ≤ j := by
    intro j
    match j with
    | 0 => exact .inl (by rw [show nOf rgboundsHs 0 = 1 by kernel_rfl]; decide)
    | n + 1 => exact .inr (Nat.le_add_left _ _)
  have key := calls_of_heads (Γ := rgboundsΓ) (by exact (cons_holds rIn2C_holds nil_holds)) (ρ0 := envS rgboundsΓ [a] (fun k => if k = 0 then a_s else [])) rfl 4000 1 59 (fn := Try.f59) Try.func59 (by kernel_rfl) (symArgs 0 [val1]) [⟨0, 48, [.i, .i], none⟩] rgboundsHs [0] [[0]] hn (by kernel_rfl) (by kernel_rfl) rgboundsI rgboundsm (fun v => v = Value.tuple #[Value.int .i64 (rgboundsS0 a a_s), Value.int .i64 (rgboundsS1 a a_s), Value.int .i64 (rgboundsS2 a a_s), Value.int .i64 (rgboundsS3 a a_s), Value.bool (rgboundsS4 a a_s)]) ?_ ?_ w (by
    intro s hs
    simp only [List.mem_cons, List.not_mem_nil, or_false] at hs
    subst hs; exact h_a)
  obtain ⟨A_a, len_a, c_a, e_a, _⟩ := h_a
  subst e_a
  · exact key.mono fun e w2 ⟨v, h1, h2, h3⟩ => ⟨by rw [h1, h2], h3⟩
  · refine Eq.mpr (?_ : _ = rgboundsStart a a_s) (rgbounds_start a a_s hb_a)
    kernel_rfl
  · rintro j hd tgt hj ht ⟨fi, fb, fv, fns, sl⟩ hag hI
    obtain rfl : fns = rgboundsΓ := hag.fns
    obtain rfl : sl = (fun k => if k = 0 then a_s else []) := hag.sl
    match j, hj, ht, hI with
    | 0, hj, ht, hI =>
      obtain rfl : rgboundsX0.1 = hd := Option.some.inj hj
      obtain rfl : [0] = tgt := Option.some.inj ht
      have e0 : fv 0 = a := hag.v 0 (by decide)
      subst e0
      refine Eq.mpr (?_ : _ = rgboundsStep0 (fv 0) a_s (fi 1) (fi 2) (fi 3) (fi 4) (fi 5) (fi 6) (fi 7)) (rgbounds_step0 (fv 0) a_s (fi 1) (fi 2) (fi 3) (fi 4) (fi 5) (fi 6) (fi 7) hI)
      kernel_rfl
    | n + 1, hj, _, _ => cases hj

/-! footpath/footpathref02.Turn -/
noncomputable def rTurnC : Con := conOf Try.prog [rIn2C, rSignC] 4000 60 [(some 0, [.i, .i]), (some 0, [.i, .i]), (some 0, [.i, .i])] false [int1]
noncomputable def rTurnF (a_X : Int) (a_Z : Int) (b_X : Int) (b_Z : Int) (c_X : Int) (c_Z : Int) : Int := rTurnC.fi [.int .i64 a_X, .int .i64 a_Z, .int .i64 b_X, .int .i64 b_Z, .int .i64 c_X, .int .i64 c_Z] 0
theorem rTurnF_eq (a_X : Int) (a_Z : Int) (b_X : Int) (b_Z : Int) (c_X : Int) (c_Z : Int) : rTurnF a_X a_Z b_X b_Z c_X c_Z = rSignF (w64 (w64 (w64 (rIn2F0 b_X b_Z - rIn2F0 a_X a_Z) * w64 (rIn2F1 c_X c_Z - rIn2F1 a_X a_Z)) - w64 (w64 (rIn2F1 b_X b_Z - rIn2F1 a_X a_Z) * w64 (rIn2F0 c_X c_Z - rIn2F0 a_X a_Z)))) := by kernel_rfl
theorem rTurnC_holds : rTurnC.holds Try.prog := conOf_holds (cons_holds rIn2C_holds (cons_holds rSignC_holds nil_holds)) _ _ _ _ _ (by kernel_rfl)

/-! footpath/footpathref02.On -/
noncomputable def rOnC : Con := conOf Try.prog [rIn2C, rTurnC] 4000 61 [(some 0, [.i, .i]), (some 0, [.i, .i]), (some 0, [.i, .i])] false [bool1]
noncomputable def rOnF (a_X : Int) (a_Z : Int) (b_X : Int) (b_Z : Int) (c_X : Int) (c_Z : Int) : Bool := rOnC.fb [.int .i64 a_X, .int .i64 a_Z, .int .i64 b_X, .int .i64 b_Z, .int .i64 c_X, .int .i64 c_Z] 0
theorem rOnF_eq (a_X : Int) (a_Z : Int) (b_X : Int) (b_Z : Int) (c_X : Int) (c_Z : Int) : rOnF a_X a_Z b_X b_Z c_X c_Z = (((((((rTurnF (rIn2F0 a_X a_Z) (rIn2F1 a_X a_Z) (rIn2F0 b_X b_Z) (rIn2F1 b_X b_Z) (rIn2F0 c_X c_Z) (rIn2F1 c_X c_Z)) == 0) && decide (min (rIn2F0 a_X a_Z) (rIn2F0 b_X b_Z) ≤ rIn2F0 c_X c_Z)) && decide (rIn2F0 c_X c_Z ≤ max (rIn2F0 a_X a_Z) (rIn2F0 b_X b_Z))) && decide (min (rIn2F1 a_X a_Z) (rIn2F1 b_X b_Z) ≤ rIn2F1 c_X c_Z)) && decide (rIn2F1 c_X c_Z ≤ max (rIn2F1 a_X a_Z) (rIn2F1 b_X b_Z))) && (!((((rIn2F0 a_X a_Z) == (rIn2F0 b_X b_Z)) && ((rIn2F1 a_X a_Z) == (rIn2F1 b_X b_Z)))) || (((rIn2F0 c_X c_Z) == (rIn2F0 a_X a_Z)) && ((rIn2F1 c_X c_Z) == (rIn2F1 a_X a_Z))))) := by kernel_rfl
theorem rOnC_holds : rOnC.holds Try.prog := conOf_holds (cons_holds rIn2C_holds (cons_holds rTurnC_holds nil_holds)) _ _ _ _ _ (by kernel_rfl)

/-! footpath/footpathref02.Far -/
noncomputable def rFarC : Con := conOf Try.prog [rIn2C] 4000 62 [(some 0, [.i, .i]), (some 0, [.i, .i])] false [int1]
noncomputable def rFarF (a_X : Int) (a_Z : Int) (b_X : Int) (b_Z : Int) : Int := rFarC.fi [.int .i64 a_X, .int .i64 a_Z, .int .i64 b_X, .int .i64 b_Z] 0
theorem rFarF_eq (a_X : Int) (a_Z : Int) (b_X : Int) (b_Z : Int) : rFarF a_X a_Z b_X b_Z = w64 (w64 (w64 (rIn2F0 a_X a_Z - rIn2F0 b_X b_Z) * w64 (rIn2F0 a_X a_Z - rIn2F0 b_X b_Z)) + w64 (w64 (rIn2F1 a_X a_Z - rIn2F1 b_X b_Z) * w64 (rIn2F1 a_X a_Z - rIn2F1 b_X b_Z))) := by kernel_rfl
theorem rFarC_holds : rFarC.holds Try.prog := conOf_holds (cons_holds rIn2C_holds nil_holds) _ _ _ _ _ (by kernel_rfl)

end Go.Proofs.Yteneneadfpkahaa
