/- Whether a grid may be, by walks: a column's check. No conditions but that the row lies where it is said to lie. -/
import Derived.Test.YtcdfojfafnecdaaLc
namespace Go.Proofs.Ytcdfojfafnecdaa
open Go Go.RowKit Go.Sx
/-- It returns a Bool that tells p. -/
def BoolIff (e : Ending) (p : Prop) : Prop := ∃ b, e = .returned (.bool b) ∧ (b = true ↔ p)
theorem BoolIff.t {p : Prop} (h : p) : BoolIff (.returned (.bool true)) p := ⟨true, rfl, by simp [h]⟩
theorem BoolIff.f {p : Prop} (h : ¬ p) : BoolIff (.returned (.bool false)) p := ⟨false, rfl, by simp [h]⟩
theorem rowOk_of {r : List V3} (h : ∀ k (f : V3), r[k]? = some f → floorOk (lastOf r k) f) (h8 : r.length ≤ 8) : rowOk r := ⟨h, h8⟩
theorem rowOk_not {r : List V3} {k : Nat} {f : V3} (hf : r[k]? = some f) (h : ¬ floorOk (lastOf r k) f) : ¬ rowOk r := fun hr => h (hr.1 k f hf)
set_option maxHeartbeats 1000000 in
set_option maxRecDepth 100000 in
theorem may1_any (r : List V3) (A : Option Addr) (cap : Nat) (w : World) (hr : Reads w w.heap.size 3 A r.length (vcs r)) (hlen : r.length ≤ 9223372036854775807) :
    Calls Try.prog 54 #[.slice A r.length cap] w fun e w' => BoolIff e (¬ rowOk r) ∧ Below w.heap.size w w' := by
  go_enter Try.func54, Try.ntmps54
  go_wp2
  go_loopw [3, 8] (fun l x wr => ∃ k : Nat, x = .int .i64 k ∧ k ≤ r.length ∧ l = .int .i64 (lastOf r k) ∧ (∀ j (f : V3), j < k → r[j]? = some f → floorOk (lastOf r j) f) ∧ Below w.heap.size w wr)
    (fun _ x _ => r.length - (intOf x).toNat)
  case atStart => exact ⟨0, rfl, Nat.zero_le _, rfl, fun j f hj => by omega, Below.refl _ _⟩
  case round =>
    obtain ⟨k, rfl, hk, rfl, hall, hb⟩ := hrel
    by_cases hkn : k < r.length
    · obtain ⟨ad, rfl, hbl, c0, c1, c2⟩ := v3_at (hr.below hb) hkn
      have hf : r[k]? = some r[k] := List.getElem?_eq_getElem hkn
      have hnx := lastOf_succ hf
      generalize r[k] = fl at hf c0 c1 c2 hnx
      generalize hP : ad.add (k * 3) = P at c0 c1 c2 hbl
      obtain ⟨fx, fy, fz⟩ := fl
      dsimp only at c0 c1 c2 hnx
      have hkn' : (k : Int) < (r.length : Int) := by omega
      generalize hlast : lastOf r k = la at *
      go_wp2
      all_goals first
        | (go_ret; exact ⟨BoolIff.t (rowOk_not hf (by unfold floorOk; rw [hlast]; dsimp only; omega)), hb.alloc hb.size _⟩)
        | exact ⟨⟨k + 1, by go_num, by omega, by rw [hnx], fun j f hj hjf => by
            by_cases hjk : j < k
            · exact hall j f hjk hjf
            · obtain rfl : j = k := by omega
              rw [hf] at hjf
              injection hjf with hjf
              subst hjf
              unfold floorOk
              rw [hlast]
              dsimp only
              omega, hb.alloc hb.size _⟩, by simp [intOf]; omega⟩
    · have hke : k = r.length := by omega
      subst hke
      have hall' : ∀ k (f : V3), r[k]? = some f → floorOk (lastOf r k) f := fun k f hf => hall k f (List.getElem?_eq_some_iff.1 hf).1 hf
      by_cases h8 : r.length ≤ 8
      · have hd : decide ((8 : Int) < (r.length : Int)) = false := decide_eq_false (by omega)
        go_wp2
        go_ret
        have h9 : BoolIff (.returned (.bool (decide ((8 : Int) < (r.length : Int))))) (¬ rowOk r) := by rw [hd]; exact BoolIff.f (fun h => h ⟨hall', h8⟩)
        first | exact ⟨h9, hb⟩ | exact ⟨BoolIff.f (fun h => h ⟨hall', h8⟩), hb⟩
      · have hd : decide ((8 : Int) < (r.length : Int)) = true := decide_eq_true (by omega)
        go_wp2
        go_ret
        have h9 : BoolIff (.returned (.bool (decide ((8 : Int) < (r.length : Int))))) (¬ rowOk r) := by rw [hd]; exact BoolIff.t (fun h => h8 h.2)
        first | exact ⟨h9, hb⟩ | exact ⟨BoolIff.t (fun h => h8 h.2), hb⟩
end Go.Proofs.Ytcdfojfafnecdaa
