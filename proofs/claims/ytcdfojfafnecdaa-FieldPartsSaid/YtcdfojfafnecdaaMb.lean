/- Whether a grid may be, by walks: all columns. No conditions but that the rows lie where they are said to lie. -/
import Derived.Test.YtcdfojfafnecdaaMa
namespace Go.Proofs.Ytcdfojfafnecdaa
open Go Go.RowKit Go.Sx
/-- It returns a number that is not below 0 just where p. -/
def IntIff (e : Ending) (p : Prop) : Prop := ∃ n, e = .returned (.int .i64 n) ∧ (0 ≤ n ↔ p)
def lensOk (rows : List (List V3)) : Prop := rows.length ≤ 9223372036854775807 ∧ ∀ r ∈ rows, r.length ≤ 9223372036854775807
set_option maxHeartbeats 1000000 in
set_option maxRecDepth 100000 in
theorem index_any (rows : List (List V3)) (A : Option Addr) (cap : Nat) (w : World) (hr : RowsAt w w.heap.size A rows) (hl : lensOk rows) :
    Calls Try.prog 55 #[.slice A rows.length cap, .func (.func 54) #[] #[]] w fun e w' => IntIff e (∃ r ∈ rows, ¬ rowOk r) ∧ Below w.heap.size w w' := by
  go_enter Try.func55, Try.ntmps55
  have hl1 := hl.1
  go_wp2
  go_loopw [8] (fun x wr => ∃ k : Nat, x = .int .i64 k ∧ k ≤ rows.length ∧ (∀ j (r : List V3), j < k → rows[j]? = some r → rowOk r) ∧ Below w.heap.size w wr)
    (fun x _ => rows.length - (intOf x).toNat)
  case atStart => exact ⟨0, rfl, Nat.zero_le _, fun j r hj => by omega, Below.refl _ _⟩
  case round =>
    obtain ⟨k, rfl, hk, hall, hb⟩ := hrel
    by_cases hkn : k < rows.length
    · obtain ⟨ad, Ai, ci, rfl, hbl, hc, hrr⟩ := (hr.below hb).at_ hkn
      have hf : rows[k]? = some rows[k] := List.getElem?_eq_getElem hkn
      have hlr := hl.2 _ (List.getElem_mem hkn)
      generalize rows[k] = r at hf hc hrr hlr
      have hkn' : (k : Int) < (rows.length : Int) := by omega
      by_cases hro : rowOk r
      · go_wp2_with (go_at_call 54; refine (may1_any r Ai ci _ (hrr.more hb.size) hlr).mono ?_; rintro en w1 ⟨⟨b, rfl, hbi⟩, hb1⟩; obtain rfl : b = false := by cases b; rfl; exact absurd hro (hbi.1 rfl))
        exact ⟨⟨k + 1, by go_num, by omega, fun j r' hj hjr => by
          by_cases hjk : j < k
          · exact hall j r' hjk hjr
          · obtain rfl : j = k := by omega
            rw [hf] at hjr
            injection hjr with hjr
            subst hjr; exact hro, hb.trans (hb1.mono hb.size)⟩, by simp [intOf]; omega⟩
      · go_wp2_with (go_at_call 54; refine (may1_any r Ai ci _ (hrr.more hb.size) hlr).mono ?_; rintro en w1 ⟨⟨b, rfl, hbi⟩, hb1⟩; obtain rfl : b = true := hbi.2 hro)
        go_ret
        exact ⟨⟨k, rfl, ⟨fun _ => ⟨r, List.mem_of_getElem? hf, hro⟩, fun _ => by omega⟩⟩, hb.trans (hb1.mono hb.size)⟩
    · have hke : k = rows.length := by omega
      subst hke
      go_wp2
      go_ret
      refine ⟨⟨-1, rfl, ⟨fun h => by omega, fun ⟨r, hm, hro⟩ => ?_⟩⟩, hb⟩
      obtain ⟨j, hj⟩ := List.getElem?_of_mem hm
      exact absurd (hall j r (List.getElem?_eq_some_iff.1 hj).1 hj) hro
set_option maxHeartbeats 1000000 in
theorem contains_any (rows : List (List V3)) (A : Option Addr) (cap : Nat) (w : World) (hr : RowsAt w w.heap.size A rows) (hl : lensOk rows) :
    Calls Try.prog 53 #[.slice A rows.length cap, .func (.func 54) #[] #[]] w fun e w' => BoolIff e (∃ r ∈ rows, ¬ rowOk r) ∧ Below w.heap.size w w' := by
  have hi := index_any rows A cap w hr hl
  go_enter Try.func53, Try.ntmps53
  go_wp2_with (go_at_call 55; refine hi.mono ?_; rintro en w1 ⟨⟨n, rfl, hni⟩, hb1⟩)
  go_ret
  refine ⟨⟨decide (0 ≤ n), rfl, ?_⟩, hb1⟩
  rw [decide_eq_true_eq]; exact hni
/-- A grid in a box. -/
structure GAt (B : Nat) (X Z W D : Int) (A : Option Addr) (n c : Nat) (w : World) : Prop where
  hx : w.cell? ⟨B, 0, none⟩ = some (.int .i64 X)
  hz : w.cell? ⟨B, 1, none⟩ = some (.int .i64 Z)
  hw : w.cell? ⟨B, 2, none⟩ = some (.int .i64 W)
  hd : w.cell? ⟨B, 3, none⟩ = some (.int .i64 D)
  hf : w.cell? ⟨B, 4, none⟩ = some (.slice A n c)
  lt : B < w.heap.size
theorem GAt.new (X Z W D : Int) (A : Option Addr) (n c : Nat) (w : World) (t : TypeId) : GAt w.heap.size X Z W D A n c (w.alloc (.cells #[.int .i64 X, .int .i64 Z, .int .i64 W, .int .i64 D, .slice A n c] t)) := by
  refine ⟨?_, ?_, ?_, ?_, ?_, by simp⟩ <;> exact World.cell?_alloc_at _ _ _ _ rfl
theorem GAt.below {B N : Nat} {X Z W D : Int} {A : Option Addr} {n c : Nat} {w w' : World} (h : GAt B X Z W D A n c w) (hb : Below N w w') (hN : B < N) : GAt B X Z W D A n c w' := by
  obtain ⟨h0, h1, h2, h3, h4, h5⟩ := h
  have e : ∀ q, w'.cell? ⟨B, q, none⟩ = w.cell? ⟨B, q, none⟩ := fun q => hb.cell (by exact hN)
  exact ⟨(e _).trans h0, (e _).trans h1, (e _).trans h2, (e _).trans h3, (e _).trans h4, Nat.lt_of_lt_of_le h5 hb.size⟩
end Go.Proofs.Ytcdfojfafnecdaa
