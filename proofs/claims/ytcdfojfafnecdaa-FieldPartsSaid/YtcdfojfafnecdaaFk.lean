/- Where floors lead lies in the grid; field.Cap by a walk. No conditions. -/
import Derived.Test.YtcdfojfafnecdaaFj
namespace Go.Proofs.Ytcdfojfafnecdaa
open Go Go.RowKit Go.Sx Go.Mp
theorem check_clear {a b c d e f g : Int} (h : checkF a b c d e f g = 0) : 0 ≤ a ∧ a ≤ 3 := by
  rw [checkF_eq, wInF_eq, wInF_eq] at h
  by_cases h1 : (!(a == min (max a 0) 3)) = true
  · rw [h1, cond_true] at h; cases h
  · rw [Bool.not_eq_true] at h1
    simp only [Bool.not_eq_false', beq_iff_eq] at h1
    omega
/-- The cap. -/
noncomputable def capF (a b c d e f g : Int) : Int := if checkF a b c d e f g = 0 then a + 3 else 0
set_option maxHeartbeats 1000000 in
set_option maxRecDepth 100000 in
theorem cap_any (a b c d e f g : Int) (w : World) : Calls Try.prog 13 #[cfgv a b c d e f g] w fun en w' => en = .returned (.int .i64 (capF a b c d e f g)) ∧ Below w.heap.size w w' := by
  have hba : Below w.heap.size w (w.alloc (.cells #[.int .i64 a, .int .i64 b, .int .i64 c, .int .i64 d, .int .i64 e, .int .i64 f, .int .i64 g] 23)) := (Below.refl _ _).alloc (Nat.le_refl _) _
  have hc := chk_any a b c d e f g (w.alloc (.cells #[.int .i64 a, .int .i64 b, .int .i64 c, .int .i64 d, .int .i64 e, .int .i64 f, .int .i64 g] 23))
  have hB := World.alloc_heap_new w (.cells #[.int .i64 a, .int .i64 b, .int .i64 c, .int .i64 d, .int .i64 e, .int .i64 f, .int .i64 g] 23)
  unfold cfgv at hc ⊢
  unfold capF
  by_cases hk : checkF a b c d e f g = 0
  · have ha := check_clear hk
    have e1 : IntKind.i64.wrap (a + 3) = a + 3 := by rw [IntKind.wrap_i64]; omega
    rw [if_pos hk]
    rw [hk] at hc
    refine (callsIn_wide (n := 6)).1 ?_
    refine callsIn_of_wp Try.func13 rfl trivial ?_
    simp only [Try.ntmps13, List.size_toArray, List.length_cons, List.length_nil, Nat.reduceAdd, Nat.reduceSub, Array.replicate_succ, Array.replicate_zero, List.push_toArray, List.append_toArray, List.nil_append, List.cons_append]
    gi_wp2_with (refine ⟨trivial, ?_⟩; gi_at_call 32; refine (callsIn_wide.2 hc).mono ?_; rintro en w3 ⟨rfl, hb3⟩; have c0 : w3.cell? ⟨w.heap.size, 0, none⟩ = some (.int .i64 a) := cell_of ((hb3.block _ (lt_of_block hB)).trans hB) rfl)
    go_ret
    exact ⟨rfl, hba.trans (hb3.mono hba.size)⟩
  · have hne : (checkF a b c d e f g != 0) = true := by simpa using hk
    rw [if_neg hk]
    generalize checkF a b c d e f g = er at hc hne hk
    refine (callsIn_wide (n := 6)).1 ?_
    refine callsIn_of_wp Try.func13 rfl trivial ?_
    simp only [Try.ntmps13, List.size_toArray, List.length_cons, List.length_nil, Nat.reduceAdd, Nat.reduceSub, Array.replicate_succ, Array.replicate_zero, List.push_toArray, List.append_toArray, List.nil_append, List.cons_append]
    gi_wp2_with (refine ⟨trivial, ?_⟩; gi_at_call 32; refine (callsIn_wide.2 hc).mono ?_; rintro en w3 ⟨rfl, hb3⟩)
    go_ret
    exact ⟨rfl, hba.trans (hb3.mono hba.size)⟩
section
variable {X Z W D : Int} {rows : List (List V3)}
/-- How many floors a column has. -/
def lenF (rows : List (List V3)) (i : Nat) : Nat := (rows.getD i []).length
/-- Where the floors of a grid lead. -/
def ttF (lk : V3 → V3 → Bool) (X Z W D : Int) (rows : List (List V3)) (i k d : Nat) : Option Nat := toF lk (colOf X Z W D rows) (X + (i : Int) % W) (Z + (i : Int) / W) k d
theorem colOf_spot (ho : gridOk X Z W D rows) {c : Nat} (hc : c < rows.length) {dx dz : Int} {k : Nat} {f : V3} (h : (colOf X Z W D rows (X + (c : Int) % W + dx) (Z + (c : Int) / W + dz))[k]? = some f) :
    0 ≤ (c : Int) + dz * W + dx ∧ (c : Int) + dz * W + dx < rows.length ∧ colOf X Z W D rows (X + (c : Int) % W + dx) (Z + (c : Int) / W + dz) = rows.getD ((c : Int) + dz * W + dx).toNat [] ∧
      0 ≤ (c : Int) % W + dx ∧ (c : Int) % W + dx < W ∧ 0 ≤ (c : Int) / W + dz ∧ (c : Int) / W + dz < D := by
  obtain ⟨hW, h1, h2, h3, h4⟩ := spot_bd ho hc
  obtain ⟨_, _, _, _, o5, o6, o7, o8, o9, _⟩ := ho
  unfold colOf at h ⊢
  split at h
  · simp at h
  · rename_i hn
    rw [if_neg hn]
    have e : (Z + (c : Int) / W + dz - Z) * W + (X + (c : Int) % W + dx) - X = (c : Int) + dz * W + dx := by
      have e1 := Int.mul_ediv_add_emod (c : Int) W
      have e2 : (Z + (c : Int) / W + dz - Z) * W = W * ((c : Int) / W) + dz * W := by
        rw [show Z + (c : Int) / W + dz - Z = (c : Int) / W + dz by omega, Int.add_mul, Int.mul_comm]
      omega
    have hi := index_ok (X := X) (Z := Z) (W := W) (D := D) (x := X + (c : Int) % W + dx) (z := Z + (c : Int) / W + dz) o5 (by omega) (by omega) (by omega) (by omega)
    rw [e] at hi ⊢
    exact ⟨hi.1, by omega, rfl, by omega, by omega, by omega, by omega⟩
theorem tt_inside (lk : V3 → V3 → Bool) (ho : gridOk X Z W D rows) {Wn : Nat} (hW : W = Wn) : Inside Wn rows.length (lenF rows) (ttF lk X Z W D rows) := by
  intro c k d m dx dz hc hk hd h
  obtain ⟨_, a, f, h1, h2, _⟩ := toF_some lk (colOf X Z W D rows) hd h
  obtain ⟨g1, g2, g3, _⟩ := colOf_spot ho hc h2
  rw [← hW]
  refine ⟨g1, g2, ?_⟩
  rw [g3] at h2
  exact (List.getElem?_eq_some_iff.1 h2).1
end
end Go.Proofs.Ytcdfojfafnecdaa
