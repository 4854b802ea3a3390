/- whole.RootUp (by sort.Search over a closure) and the document's Root: what they tell. No conditions. -/
import Derived.Test.YteneneadfpkahaaProg
import Derived.Test.YteneneadfpkahaaSxCon
import Derived.WalkKit
import Derived.WalkLawsBesides
import Derived.LoopTactic
import Derived.Lib.Hide
namespace Go.Proofs.Yteneneadfpkahaa
open Go Go.RowKit Go.Sx
def rtGo (n : Int) : Nat → Int → Int → Int
  | 0, i, _ => i
  | f + 1, i, j => if i < j then (if n ≤ (i + j) / 2 * ((i + j) / 2) then rtGo n f i ((i + j) / 2) else rtGo n f ((i + j) / 2 + 1) j) else i
theorem rtGo_done (n : Int) (f : Nat) (i : Int) : rtGo n f i i = i := by cases f <;> simp [rtGo]
def rtUp (n : Int) : Int := rtGo n 32 0 2147483648
theorem rt_step (n : Int) (f : Nat) (i j : Int) (hf : j - i < 2 ^ f) (hlt : i < j) : ∃ f' : Nat, Hid ((i + j) / 2 - i < 2 ^ f') ∧ (n ≤ (i + j) / 2 * ((i + j) / 2) → rtGo n f' i ((i + j) / 2) = rtGo n f i j) ∧
    (¬ n ≤ (i + j) / 2 * ((i + j) / 2) → Hid (j - ((i + j) / 2 + 1) < 2 ^ f') ∧ rtGo n f' ((i + j) / 2 + 1) j = rtGo n f i j) := by
  cases f with
  | zero => simp at hf; omega
  | succ f =>
    rw [Int.pow_succ] at hf
    refine ⟨f, Lib.hid (by omega), fun h => by rw [rtGo, if_pos hlt, if_pos h], fun h => ⟨Lib.hid (by omega), by rw [rtGo, if_pos hlt, if_neg h]⟩⟩

theorem sq_wrap (k : Int) (h0 : 0 ≤ k) (h1 : k ≤ 2147483648) : IntKind.i64.wrap (k * k) = k * k := by
  have : k * k ≤ 2147483648 * 2147483648 := Int.mul_le_mul h1 h1 h0 (by omega)
  have : 0 ≤ k * k := Int.mul_nonneg h0 h0
  exact w64_id (by omega) (by omega)
theorem rootUp1_any (k n : Int) (a : Addr) (w : World) (hc : w.cell? a = some (.int .i64 n)) (h0 : 0 ≤ k) (h1 : k ≤ 2147483648) :
    Calls Try.prog 86 #[.int .i64 k, .pointer (some a)] w fun e w' => e = .returned (.bool (decide (n ≤ k * k))) ∧ w = w' := by
  have hw := sq_wrap k h0 h1
  go_enter Try.func86, Try.ntmps86
  go_wp2
  go_ret
  exact ⟨rfl, rfl⟩
set_option maxHeartbeats 400000 in
theorem search_any (n : Int) (a : Addr) (w : World) (hc : w.cell? a = some (.int .i64 n)) :
    Calls Try.prog 87 #[.int .i64 2147483648, .func (.func 86) #[] #[.pointer (some a)]] w fun e w' => e = .returned (.int .i64 (rtUp n)) ∧ w = w' := by
  go_enter Try.func87, Try.ntmps87
  go_wp2
  go_loop [5, 6] (fun x y => ∃ (i j : Int) (f : Nat), x = .int .i64 i ∧ y = .int .i64 j ∧ 0 ≤ i ∧ i ≤ j ∧ j ≤ 2147483648 ∧ Hid (j - i < 2 ^ f) ∧ Hid (rtGo n f i j = rtUp n)) (fun x y => (intOf y - intOf x).toNat)
  case atStart => exact ⟨0, 2147483648, 32, rfl, rfl, by omega, by omega, by omega, (by decide : (2147483648 : Int) - 0 < 2 ^ 32), rfl⟩
  case round =>
    obtain ⟨i, j, f, rfl, rfl, h0, h1, h2, hf, hr⟩ := hrel
    by_cases hlt : i < j
    · have hh0 : 0 ≤ (i + j) / 2 := by omega
      have hh1 : (i + j) / 2 < j := by omega
      have hh2 : i ≤ (i + j) / 2 := by omega
      have hsq := Lib.hid (sq_wrap ((i + j) / 2) hh0 (by omega))
      have hst := Lib.hid (rt_step n f i j hf.out hlt)
      go_wp2
      all_goals
        rename_i hc2
        obtain ⟨f', hf1, hf23⟩ := hst.out
        have hsq' : wrap64 ((i + j) / 2 * ((i + j) / 2)) = (i + j) / 2 * ((i + j) / 2) := by
          have h2 : ((i + j) / 2 * ((i + j) / 2)) ≤ 2147483648 * 2147483648 := Int.mul_le_mul (by omega) (by omega) (by omega) (by omega)
          have h3 := Int.mul_nonneg hh0 hh0
          unfold wrap64
          generalize ((i + j) / 2 * ((i + j) / 2)) = z at h2 h3 ⊢
          omega
        rw [hsq'] at hc2
      · have hle : ¬ n ≤ (i + j) / 2 * ((i + j) / 2) := by simp at hc2; omega
        exact ⟨⟨_, _, f', rfl, rfl, by omega, by omega, by omega, (hf23.2 hle).1, by show _ = _; rw [(hf23.2 hle).2]; exact hr.out⟩, by simp [intOf]; omega⟩
      · have hle : n ≤ (i + j) / 2 * ((i + j) / 2) := by simp at hc2; omega
        exact ⟨⟨_, _, f', rfl, rfl, h0, hh2, by omega, hf1, by show _ = _; rw [hf23.1 hle]; exact hr.out⟩, by simp [intOf]; omega⟩
    · go_wp2
      go_ret
      have hij : i = j := by omega
      subst hij
      have := hr.out
      rw [rtGo_done] at this
      exact ⟨by rw [← this]; rfl, rfl⟩

def cl61 (n : Int) : Int := min (max n (-2305843009213693952)) 2305843009213693952
theorem cl61_any (n : Int) (w : World) : Calls Try.prog 85 #[.int .i64 n, .int .i64 (-2305843009213693952), .int .i64 2305843009213693952] w fun e w' => e = .returned (.int .i64 (cl61 n)) ∧ w = w' := by
  go_enter Try.func85, Try.ntmps85
  go_wp2
  all_goals go_ret
  all_goals
    refine ⟨?_, rfl⟩
    have hv : ∀ x y : Int, x = y → Ending.returned (Value.int .i64 x) = Ending.returned (Value.int .i64 y) := fun _ _ h => by rw [h]
    refine hv _ _ ?_
    unfold cl61
    simp only [Int.min_def, Int.max_def]
    omega
def rootUpI (n : Int) (j : Nat) : Int :=
  match j with
  | 0 => if cl61 n < 0 then 0 else rtUp (cl61 n)
  | _ => if cl61 n < 0 then 2 else 0
def rootUpC : Con := { f := 37, params := [int1], tup := true, res := [int1, int1], fi := fun cs j => rootUpI (intOf (cs.getD 0 .nilIface)) j, fb := fun _ _ => false, fv := fun _ _ => .nilIface }
def rootUpF0 (n : Int) : Int := rootUpI n 0
def rootUpF1 (n : Int) : Int := rootUpI n 1
theorem rootUpC_holds : rootUpC.holds Try.prog := by
  rintro cs ⟨n, _, rfl, rfl⟩ w
  show Calls Try.prog 37 #[.int .i64 n] w fun e w' => e = .returned (.tuple #[.int .i64 (rootUpI n 0), .int .i64 (rootUpI n 1)]) ∧ Below w.heap.size w w'
  have hcl := cl61_any n
  have h0 : rootUpI n 0 = if cl61 n < 0 then 0 else rtUp (cl61 n) := rfl
  have h1 : rootUpI n 1 = if cl61 n < 0 then 2 else 0 := rfl
  rw [h0, h1]
  clear h0 h1
  generalize cl61 n = m at hcl ⊢
  have hs := search_any m ⟨w.heap.size, 0, none⟩ (w.alloc (Obj.cells #[Value.int IntKind.i64 m] 3)) (by simp)
  have hbel : Below w.heap.size w (w.alloc (Obj.cells #[Value.int IntKind.i64 m] 3)) := (Below.refl _ w).alloc (Nat.le_refl _) _
  by_cases hm : m < 0
  · rw [if_pos hm, if_pos hm]
    go_enter Try.func37, Try.ntmps37
    go_wp2_with (go_at_call 85; refine (hcl _).mono ?_; rintro e w2 ⟨rfl, rfl⟩)
    go_ret2
    exact ⟨rfl, hbel⟩
  · rw [if_neg hm, if_neg hm]
    go_enter Try.func37, Try.ntmps37
    go_wp2_with (first | (go_at_call 85; refine (hcl _).mono ?_; rintro e w2 ⟨rfl, rfl⟩) | (go_at_call 87; refine hs.mono ?_; rintro e w2 ⟨rfl, rfl⟩))
    go_ret2
    exact ⟨rfl, hbel⟩

def rdGo (n : Int) : Nat → Int → Int → Int
  | 0, i, _ => i
  | f + 1, i, j => if 1 < j - i then (if (i + j) / 2 * ((i + j) / 2) ≤ n then rdGo n f ((i + j) / 2) j else rdGo n f i ((i + j) / 2)) else i
theorem rdGo_done (n : Int) (f : Nat) (i j : Int) (h : ¬ 1 < j - i) : rdGo n f i j = i := by cases f <;> simp [rdGo, h]
def rtDn (n : Int) : Int := rdGo n 32 0 2147483648
theorem rd_step (n : Int) (f : Nat) (i j : Int) (hf : j - i ≤ 2 ^ f) (hlt : 1 < j - i) : ∃ f' : Nat,
    ((i + j) / 2 * ((i + j) / 2) ≤ n → Hid (j - (i + j) / 2 ≤ 2 ^ f') ∧ rdGo n f' ((i + j) / 2) j = rdGo n f i j) ∧
    (¬ (i + j) / 2 * ((i + j) / 2) ≤ n → Hid ((i + j) / 2 - i ≤ 2 ^ f') ∧ rdGo n f' i ((i + j) / 2) = rdGo n f i j) := by
  cases f with
  | zero => simp at hf; omega
  | succ f =>
    rw [Int.pow_succ] at hf
    refine ⟨f, fun h => ⟨Lib.hid (by omega), by rw [rdGo, if_pos hlt, if_pos h]⟩, fun h => ⟨Lib.hid (by omega), by rw [rdGo, if_pos hlt, if_neg h]⟩⟩
theorem rIn61_any (n : Int) (w : World) : Calls Try.prog 102 #[.int .i64 n, .int .i64 (-2305843009213693952), .int .i64 2305843009213693952] w fun e w' => e = .returned (.int .i64 (cl61 n)) ∧ w = w' := by
  go_enter Try.func102, Try.ntmps102
  go_wp2
  all_goals go_ret
  all_goals
    refine ⟨?_, rfl⟩
    have hv : ∀ x y : Int, x = y → Ending.returned (Value.int .i64 x) = Ending.returned (Value.int .i64 y) := fun _ _ h => by rw [h]
    refine hv _ _ ?_
    unfold cl61
    simp only [Int.min_def, Int.max_def]
    omega
def rRootI (n : Int) (j : Nat) : Int :=
  match j with
  | 0 => if cl61 n < 0 then 0 else rtDn (cl61 n)
  | _ => if cl61 n < 0 then 2 else 0
def rRootC : Con := { f := 71, params := [int1], tup := true, res := [int1, int1], fi := fun cs j => rRootI (intOf (cs.getD 0 .nilIface)) j, fb := fun _ _ => false, fv := fun _ _ => .nilIface }
def rRootF0 (n : Int) : Int := rRootI n 0
def rRootF1 (n : Int) : Int := rRootI n 1
theorem rRootC_holds : rRootC.holds Try.prog := by
  rintro cs ⟨n, _, rfl, rfl⟩ w
  show Calls Try.prog 71 #[.int .i64 n] w fun e w' => e = .returned (.tuple #[.int .i64 (rRootI n 0), .int .i64 (rRootI n 1)]) ∧ Below w.heap.size w w'
  have hcl := rIn61_any n
  have h0 : rRootI n 0 = if cl61 n < 0 then 0 else rtDn (cl61 n) := rfl
  have h1 : rRootI n 1 = if cl61 n < 0 then 2 else 0 := rfl
  rw [h0, h1]
  clear h0 h1
  generalize cl61 n = m at hcl ⊢
  by_cases hm : m < 0
  · rw [if_pos hm, if_pos hm]
    go_enter Try.func71, Try.ntmps71
    go_wp2_with (go_at_call 102; refine (hcl _).mono ?_; rintro e w2 ⟨rfl, rfl⟩)
    go_ret2
    exact ⟨rfl, Below.refl _ _⟩
  · rw [if_neg hm, if_neg hm]
    go_enter Try.func71, Try.ntmps71
    go_wp2_with (go_at_call 102; refine (hcl _).mono ?_; rintro e w2 ⟨rfl, rfl⟩)
    go_loop [4, 5] (fun x y => ∃ (i j : Int) (f : Nat), x = .int .i64 i ∧ y = .int .i64 j ∧ 0 ≤ i ∧ i < j ∧ j ≤ 2147483648 ∧ Hid (j - i ≤ 2 ^ f) ∧ Hid (rdGo m f i j = rtDn m)) (fun x y => (intOf y - intOf x).toNat)
    case atStart => exact ⟨0, 2147483648, 32, rfl, rfl, by omega, by omega, by omega, (by decide : (2147483648 : Int) - 0 ≤ 2 ^ 32), rfl⟩
    case round =>
      obtain ⟨i, j, f, rfl, rfl, h0, h1, h2, hf, hr⟩ := hrel
      by_cases hlt : 1 < j - i
      · have hh0 : 0 ≤ (i + j) / 2 := by omega
        have hh1 : (i + j) / 2 < j := by omega
        have hh2 : i < (i + j) / 2 := by omega
        have hst := Lib.hid (rd_step m f i j hf.out hlt)
        go_wp2
        all_goals
          rename_i hc2
          obtain ⟨f', hf1, hf2⟩ := hst.out
          have hsq' : wrap64 ((i + j) / 2 * ((i + j) / 2)) = (i + j) / 2 * ((i + j) / 2) := by
            have h2 : ((i + j) / 2 * ((i + j) / 2)) ≤ 2147483648 * 2147483648 := Int.mul_le_mul (by omega) (by omega) (by omega) (by omega)
            have h3 := Int.mul_nonneg hh0 hh0
            unfold wrap64
            generalize ((i + j) / 2 * ((i + j) / 2)) = z at h2 h3 ⊢
            omega
          rw [hsq'] at hc2
        · have hle : (i + j) / 2 * ((i + j) / 2) ≤ m := by omega
          exact ⟨⟨_, _, f', rfl, rfl, by omega, by omega, by omega, (hf1 hle).1, by show _ = _; rw [(hf1 hle).2]; exact hr.out⟩, by simp [intOf]; omega⟩
        · have hle : ¬ (i + j) / 2 * ((i + j) / 2) ≤ m := by omega
          exact ⟨⟨_, _, f', rfl, rfl, by omega, by omega, by omega, (hf2 hle).1, by show _ = _; rw [(hf2 hle).2]; exact hr.out⟩, by simp [intOf]; omega⟩
      · go_wp2
        go_ret2
        have := hr.out
        rw [rdGo_done _ _ _ _ (by omega)] at this
        exact ⟨by rw [← this]; rfl, Below.refl _ _⟩
end Go.Proofs.Yteneneadfpkahaa
