/- footpathref01.Ints by a walk: whether two rows of numbers are the same. No conditions but that they lie where they are said to lie. -/
import Derived.Test.YteneneadfpkahaaProg
import Derived.Test.YteneneadfpkahaaWd
import Derived.KernelRfl
import Derived.WalkLawsBesides
import Derived.LoopTactic
import Derived.Lib.Hide
import Derived.Deep.QuietTactic
import Derived.BigQuiet
namespace Go.Proofs.Yteneneadfpkahaa
open Go Go.RowKit
def ics (l : List Int) : List Value := l.map (Value.int .i64)
theorem ics_at {w : World} {B : Nat} {A : Option Addr} {l : List Int} (h : Reads w B 1 A l.length (ics l)) {k : Nat} (hk : k < l.length) : ∃ ad, A = some ad ∧ ad.block < B ∧ w.cell? (ad.add k) = some (.int .i64 l[k]) := by
  obtain ⟨ad, u, e, hb, hu, hc⟩ := h.at_ hk
  refine ⟨ad, e, hb, ?_⟩
  rw [hc, ← hu]
  simp [ics, hk]
theorem take_eq_succ {xs ys : List Int} {k : Nat} (hx : k < xs.length) (hy : k < ys.length) (h : xs.take k = ys.take k) : xs.take (k + 1) = ys.take (k + 1) ↔ xs[k] = ys[k] := by
  rw [List.take_succ_eq_append_getElem hx, List.take_succ_eq_append_getElem hy, ← h]
  rw [List.append_cancel_left_eq]; simp
set_option maxHeartbeats 1000000 in
set_option maxRecDepth 100000 in
theorem ints_any (xs ys : List Int) (A B : Option Addr) (ca cb : Nat) (w : World) (hA : Reads w w.heap.size 1 A xs.length (ics xs)) (hB : Reads w w.heap.size 1 B ys.length (ics ys)) (hx : xs.length < 4611686018427387904) :
    Calls Try.prog 106 #[.slice A xs.length ca, .slice B ys.length cb] w fun e w' => e = .returned (.bool (decide (xs = ys))) ∧ ∃ n, w' = w.drewN n := by
  by_cases hl : xs.length = ys.length
  · go_enter Try.func106, Try.ntmps106
    go_wp2
    go_loopw [5] (fun x wr => ∃ k : Nat, x = .int .i64 k ∧ k ≤ xs.length ∧ xs.take k = ys.take k ∧ ∃ n, wr = w.drewN n)
      (fun x _ => xs.length - (intOf x).toNat)
    case atStart => exact ⟨0, rfl, Nat.zero_le _, rfl, 0, rfl⟩
    case round =>
      obtain ⟨k, rfl, hk, ht, n, rfl⟩ := hrel
      by_cases hkx : k < xs.length
      · obtain ⟨ad, rfl, hbl, hc⟩ := ics_at hA hkx
        obtain ⟨bd, rfl, hbl2, hc2⟩ := ics_at hB (by omega : k < ys.length)
        have hs := take_eq_succ hkx (by omega : k < ys.length) ht
        have hky : k < ys.length := by omega
        have hkx' : (k : Int) < (xs.length : Int) := by omega
        have hky' : (k : Int) < (ys.length : Int) := by omega
        go_wp2
        go_quiet (fail)
        go_wp2
        · have hne : xs ≠ ys := fun e => by subst e; simp_all
          go_ret
          exact ⟨by rw [decide_eq_false hne]; rfl, n + nq, World.drewN_drewN ..⟩
        · have he : xs[k] = ys[k] := by simp_all
          exact ⟨⟨k + 1, by go_num, by omega, hs.2 he, _, rfl⟩, by simp [intOf]; omega⟩
      · have hke : k = xs.length := by omega
        subst hke
        have he : xs = ys := by rw [List.take_length, hl, List.take_length] at ht; exact ht
        go_wp2
        go_ret
        exact ⟨by rw [decide_eq_true he]; rfl, n, rfl⟩
  · have hne : xs ≠ ys := fun e => hl (by rw [e])
    go_enter Try.func106, Try.ntmps106
    go_wp2
    go_ret
    exact ⟨by rw [decide_eq_false hne]; rfl, 0, rfl⟩
set_option maxHeartbeats 1000000 in
theorem ints6_any (xs ys : List Int) (A B : Option Addr) (ca cb : Nat) (w : World) (hA : Reads w w.heap.size 1 A xs.length (ics xs)) (hB : Reads w w.heap.size 1 B ys.length (ics ys)) (hx : xs.length < 4611686018427387904) :
    Calls Try.prog 77 #[.slice A xs.length ca, .slice B ys.length cb] w fun e w' => e = .returned (.bool (decide (xs = ys))) ∧ ∃ n, w' = w.drewN n := by
  go_enter Try.func77, Try.ntmps77
  go_wp2_with (go_at_call 106; refine (ints_any xs ys A B ca cb _ hA hB hx).mono ?_; rintro e w' ⟨rfl, n, rfl⟩)
  go_ret
  exact ⟨rfl, n, rfl⟩
end Go.Proofs.Yteneneadfpkahaa
