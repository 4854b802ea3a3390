/- What the law of turns and bounds does: walked. No conditions. -/
import Derived.Test.YteneneadfpkahaaGbL
import Derived.Test.YteneneadfpkahaaSxLaw2
namespace Go.Proofs.Yteneneadfpkahaa
open Go Go.RowKit Go.Sx
set_option maxRecDepth 100000
set_option maxHeartbeats 0
noncomputable def gtG : List Con := [wakes02C, turnC, onC, farC, rTurnC, rOnC, rFarC]
noncomputable def gtIns : List InS := [⟨6, 48, [.i, .i], none⟩,
  ⟨0, 0, [], some (58, [.one (.atom .v 6)], .tup [.one (.atom .i 7), .one (.atom .i 8), .one (.atom .i 9), .one (.atom .i 10), .one (.atom .b 11)])⟩,
  ⟨0, 0, [], some (59, [.one (.atom .v 6)], .tup [.one (.atom .i 12), .one (.atom .i 13), .one (.atom .i 14), .one (.atom .i 15), .one (.atom .b 16)])⟩]
noncomputable def gtArgs : List SV := symArgs 0 [(some 0, [.i, .i]), (some 0, [.i, .i]), (some 0, [.i, .i]), val1]
noncomputable def gtW : T := walkS Try.prog gtG 4000 Try.f15 gtArgs gtIns
def GtSays (xs : List Value) (ax az bx bz cx cz : Int) (S0 S1 S2 S3 R0 R1 R2 R3 : Int) (S4 R4 : Bool) : Prop :=
  (decide ((100 : Int) < ((xs.length / 2 : Nat) : Int)) = true → Value.bool wakes02F = Value.bool true) ∧
  (decide ((100 : Int) < ((xs.length / 2 : Nat) : Int)) = false → Value.bool ((((((((((turnF ax az bx bz cx cz == rTurnF ax az bx bz cx cz) && (onF ax az bx bz cx cz == rOnF ax az bx bz cx cz)) && (farF ax az bx bz == rFarF ax az bx bz)) && (S0 == R0)) && (S1 == R1)) && (S2 == R2)) && (S3 == R3)) && (S4 == R4)) && wakes02F)) = Value.bool true)
theorem gtG_holds : ∀ y ∈ gtG, y.holds Try.prog := cons_holds wakes02C_holds (cons_holds turnC_holds (cons_holds onC_holds (cons_holds farC_holds (cons_holds rTurnC_holds (cons_holds rOnC_holds (cons_holds rFarC_holds nil_holds))))))
theorem geomTurns_calls (ax az bx bz cx cz : Int) (l : Value) (xs : List Value) (w : World) (h : InVal w.heap.size w l xs [.i, .i]) (hb : xs.length / 2 ≤ 9223372036854775807) :
    Calls Try.prog 15 #[.agg #[.int .i64 ax, .int .i64 az], .agg #[.int .i64 bx, .int .i64 bz], .agg #[.int .i64 cx, .int .i64 cz], l] w fun e w2 => e = .returned (.bool true) ∧ Below w.heap.size w w2 := by
  have h' := h
  obtain ⟨A, len, c, e_a, _⟩ := h'
  subst e_a
  have key := calls_of_heads (Γ := gtG) gtG_holds (ρ0 := envS gtG [.int .i64 ax, .int .i64 az, .int .i64 bx, .int .i64 bz, .int .i64 cx, .int .i64 cz, (.slice A len c),
      .int .i64 (gboundsS0 (.slice A len c) xs), .int .i64 (gboundsS1 (.slice A len c) xs), .int .i64 (gboundsS2 (.slice A len c) xs), .int .i64 (gboundsS3 (.slice A len c) xs), .bool (gboundsS4 (.slice A len c) xs),
      .int .i64 (rgboundsS0 (.slice A len c) xs), .int .i64 (rgboundsS1 (.slice A len c) xs), .int .i64 (rgboundsS2 (.slice A len c) xs), .int .i64 (rgboundsS3 (.slice A len c) xs), .bool (rgboundsS4 (.slice A len c) xs)] (fun k => if k = 6 then xs else [])) rfl 4000 17 15
    (fn := Try.f15) Try.func15 (by kernel_rfl) gtArgs gtIns [] [] [] (fun j => .inr (Nat.zero_le _)) (by kernel_rfl) rfl (fun _ _ => False) (fun _ _ => (0, 0)) (fun v => v = .bool true) ?_ (fun j h tgt hj => by cases hj) w (by
      intro s hs
      simp only [gtIns, List.mem_cons, List.not_mem_nil, or_false] at hs
      rcases hs with rfl | rfl | rfl
      · exact h
      · exact inAt_loc (va := #[.slice A len c]) (vr := .tuple #[.int .i64 (gboundsS0 (.slice A len c) xs), .int .i64 (gboundsS1 (.slice A len c) xs), .int .i64 (gboundsS2 (.slice A len c) xs), .int .i64 (gboundsS3 (.slice A len c) xs), .bool (gboundsS4 (.slice A len c) xs)]) rfl (by kernel_rfl) (fun _ => by kernel_rfl) fun w' hbl hsz => gbounds_calls (.slice A len c) xs w' ((h.below hbl).up hsz) hb
      · exact inAt_loc (va := #[.slice A len c]) (vr := .tuple #[.int .i64 (rgboundsS0 (.slice A len c) xs), .int .i64 (rgboundsS1 (.slice A len c) xs), .int .i64 (rgboundsS2 (.slice A len c) xs), .int .i64 (rgboundsS3 (.slice A len c) xs), .bool (rgboundsS4 (.slice A len c) xs)]) rfl (by kernel_rfl) (fun _ => by kernel_rfl) fun w' hbl hsz => rgbounds_calls (.slice A len c) xs w' ((h.below hbl).up hsz) hb)
  · exact key.mono fun e w2 ⟨v, h1, h2, h3⟩ => ⟨by rw [h1, h2], h3⟩
  · refine Eq.mpr (?_ : _ = GtSays xs ax az bx bz cx cz (gboundsS0 (.slice A len c) xs) (gboundsS1 (.slice A len c) xs) (gboundsS2 (.slice A len c) xs) (gboundsS3 (.slice A len c) xs) (rgboundsS0 (.slice A len c) xs) (rgboundsS1 (.slice A len c) xs) (rgboundsS2 (.slice A len c) xs) (rgboundsS3 (.slice A len c) xs) (gboundsS4 (.slice A len c) xs) (rgboundsS4 (.slice A len c) xs)) ?_
    · kernel_rfl
    · refine ⟨fun _ => by rw [wakes02_true], fun _ => ?_⟩
      rw [rTurn_eq, rOn_eq, rFar_eq, wakes02_true]
      simp [rgboundsS0, rgboundsS1, rgboundsS2, rgboundsS3, rgboundsS4]
end Go.Proofs.Yteneneadfpkahaa
