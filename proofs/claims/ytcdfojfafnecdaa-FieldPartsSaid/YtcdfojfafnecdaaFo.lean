/- footpathlaw14.wakes by a walk: it is true. No conditions. -/
import Derived.Test.YtcdfojfafnecdaaFn
namespace Go.Proofs.Ytcdfojfafnecdaa
open Go Go.RowKit Go.Sx Go.Mp
attribute [local go_sem] Oper.semAt_some
def rows25 : List (List V3) := List.replicate 25 [flatV]
theorem lk_flat : lkF 1 1 3 1 1 32 32 flatV flatV = true := by kernel_rfl
theorem check_flat : checkF 1 1 3 1 1 32 32 = 0 := by kernel_rfl
theorem firstF_flat {lk : V3 → V3 → Bool} (hlk : lk flatV flatV = true) : ∀ (l : List V3) (i : Nat), (∀ f ∈ l, f = flatV) → firstF (fun f => lk flatV f) l i = firstF (fun _ => true) l i
  | [], _, _ => rfl
  | f :: l, i, h => by
    have := h f (by simp)
    subst this
    simp [firstF, hlk]
theorem col_flat (x z : Int) : ∀ f ∈ colOf 0 0 5 5 rows25 x z, f = flatV := by
  unfold colOf
  split
  · simp
  · intro f hf
    rw [List.getD_eq_getElem?_getD] at hf
    cases h : rows25[((z - 0) * 5 + x - 0).toNat]? with
    | none => rw [h] at hf; simp at hf
    | some r =>
      rw [h] at hf
      have hr : r ∈ rows25 := List.mem_of_getElem? h
      have := (List.mem_replicate.1 hr).2
      subst this
      simpa using hf
theorem tt_flat {lk : V3 → V3 → Bool} (hlk : lk flatV flatV = true) : ttF lk 0 0 5 5 rows25 = ttF (fun _ _ => true) 0 0 5 5 rows25 := by
  funext i k d
  unfold ttF toF
  cases stepD d with
  | none => rfl
  | some p =>
    obtain ⟨dx, dz⟩ := p
    simp only
    split
    · rfl
    · cases h : (colOf 0 0 5 5 rows25 (0 + (i : Int) % 5) (0 + (i : Int) / 5))[(k : Int).toNat]? with
      | none => rfl
      | some a =>
        have := col_flat _ _ a (List.mem_of_getElem? h)
        subst this
        exact firstF_flat hlk _ _ (col_flat _ _)
theorem cl_flat0 : cl (eightF 5 (ttF (fun _ _ => true) 0 0 5 5 rows25)) 4 (0, 0) = 0 := by decide +kernel
theorem cl_flat6 : cl (eightF 5 (ttF (fun _ _ => true) 0 0 5 5 rows25)) 4 (6, 0) = 1 := by decide +kernel
theorem cl_flat12 : cl (eightF 5 (ttF (fun _ _ => true) 0 0 5 5 rows25)) 4 (12, 0) = 2 := by decide +kernel
theorem len_flat (i : Nat) (h : i < 25) : lenF rows25 i = 1 := by
  unfold lenF rows25
  rw [List.getD_eq_getElem?_getD, List.getElem?_replicate, if_pos h]
  rfl
theorem grid_flat : gridOk 0 0 5 5 rows25 := by
  refine ⟨by omega, by omega, by omega, by omega, by omega, by omega, by omega, by omega, rfl, fun r hr => ?_⟩
  have := (List.mem_replicate.1 hr).2
  subst this
  refine ⟨fun k f hf => ?_, by decide⟩
  cases k with
  | zero =>
    simp at hf
    subst hf
    simp [floorOk, lastOf, flatV]
  | succ k => simp at hf
set_option maxHeartbeats 2000000 in
set_option maxRecDepth 100000 in
theorem wakes14_any (w : World) : Calls Try.prog 9 #[] w fun en w' => en = .returned (.bool true) ∧ Below w.heap.size w w' := by
  refine (callsIn_wide (n := 6)).1 ?_
  refine callsIn_of_wp Try.func9 rfl trivial ?_
  simp only [Try.ntmps9, List.size_toArray, List.length_nil, Nat.reduceSub, Array.replicate_succ, Array.replicate_zero, List.push_toArray, List.append_toArray, List.nil_append, List.cons_append]
  gi_wp2
  refine ⟨trivial, (callsIn_wide.2 (cfg14_any _)).mono ?_⟩
  rintro en w1 ⟨rfl, hb1⟩
  gi_wp2
  refine ⟨trivial, (callsIn_wide.2 (flat_any _)).mono ?_⟩
  rintro en w2 ⟨A, cap, rfl, hR, hb2⟩
  gi_wp2
  have hb := fbuild_ok 1 1 3 1 1 32 32 0 0 5 5 rows25 A cap w2 hR ⟨by decide, fun r hr => by have := (List.mem_replicate.1 hr).2; subst this; decide⟩ check_flat grid_flat
  refine ⟨trivial, (callsIn_wide.2 hb).mono ?_⟩
  rintro en w3 ⟨A3, c3, rfl, hI, hb3⟩
  obtain ⟨F, hF⟩ : ∃ F : Nat → Nat → Int, (fun i k => ((cl (eightF 5 (ttF (fun _ _ => true) 0 0 5 5 rows25)) 4 (i, k) : Nat) : Int)) = F := ⟨_, rfl⟩
  rw [tt_flat lk_flat] at hI
  replace hI : IntsAt w3 w3.heap.size A3 25 (lenF rows25) F := by rw [← hF]; exact hI
  have F0 : F 0 0 = 0 := by rw [← hF]; simp only; rw [cl_flat0]; rfl
  have F6 : F 6 0 = 1 := by rw [← hF]; simp only; rw [cl_flat6]; rfl
  have F12 : F 12 0 = 2 := by rw [← hF]; simp only; rw [cl_flat12]; rfl
  have Fp : ∀ i k, 0 ≤ F i k := fun i k => by rw [← hF]; simp only; omega
  have hmin : minL (F 0 0) ((List.range 25).map fun i => F i 0) = 0 := by
    have h1 := (minL_le ((List.range 25).map fun i => F i 0) (F 0 0)).1
    have h2 := minL_ge (b := 0) ((List.range 25).map fun i => F i 0) (F 0 0) (Fp 0 0) (fun x hx => by obtain ⟨j, _, rfl⟩ := List.mem_map.1 hx; exact Fp j 0)
    omega
  clear hF hb
  have hl25 : rows25.length = 25 := rfl
  rw [hl25]
  have hls := least_any 25 (lenF rows25) F A3 c3 w3 (by omega) (by omega) len_flat hI
  rw [hmin] at hls
  gi_wp2
  refine ⟨trivial, (callsIn_wide.2 hls).mono ?_⟩
  rintro en w4 ⟨rfl, hb4⟩
  have hI4 := hI.below hb4
  obtain ⟨ad, A0, k0, rfl, _, hc0, hr0⟩ := hI4.at_ (i := 0) (by omega)
  obtain ⟨ad', A6, k6, e6, _, hc6, hr6⟩ := hI4.at_ (i := 6) (by omega)
  obtain ⟨ad'', A12, k12, e12, _, hc12, hr12⟩ := hI4.at_ (i := 12) (by omega)
  injection e6 with e6
  injection e12 with e12
  subst e6; subst e12
  rw [len_flat 0 (by omega)] at hc0 hr0
  rw [len_flat 6 (by omega)] at hc6 hr6
  rw [len_flat 12 (by omega)] at hc12 hr12
  obtain ⟨a0, rfl, _, d0⟩ := hr0.2 (by omega)
  obtain ⟨a6, rfl, _, d6⟩ := hr6.2 (by omega)
  obtain ⟨a12, rfl, _, d12⟩ := hr12.2 (by omega)
  have ha0 : ∀ a : Addr, a.add 0 = a := fun a => by unfold Addr.add; simp
  have m0 := d0 0 _ rfl
  have m6 := d6 0 _ rfl
  have m12 := d12 0 _ rfl
  rw [ha0] at m0 m6 m12 hc0
  simp only at m0 m6 m12
  rw [show ad.add 6 = ⟨ad.block, ad.off + 6, none⟩ by unfold Addr.add; simp] at hc6
  rw [show ad.add 12 = ⟨ad.block, ad.off + 12, none⟩ by unfold Addr.add; simp] at hc12
  rw [F0] at m0
  rw [F6] at m6
  rw [F12] at m12
  have hcap := fun w => cap_any 1 1 3 1 1 32 32 w
  have hcv : capF 1 1 3 1 1 32 32 = 4 := by unfold capF; rw [if_pos check_flat]; rfl
  rw [hcv] at hcap
  clear hI hI4 hr0 hr6 hr12 d0 d6 d12 hls F0 F6 F12 Fp hmin hR
  gi_wp2
  refine ⟨trivial, (callsIn_wide.2 (cfg14_any _)).mono ?_⟩
  rintro en w5 ⟨rfl, hb5⟩
  gi_wp2
  refine ⟨trivial, (callsIn_wide.2 (hcap _)).mono ?_⟩
  rintro en w6 ⟨rfl, hb6⟩
  gi_wp2
  go_ret
  exact ⟨rfl, hb1.trans ((hb2.trans ((hb3.trans ((hb4.trans ((hb5.trans (hb6.mono hb5.size)).mono hb4.size)).mono hb3.size)).mono hb2.size)).mono hb1.size)⟩
end Go.Proofs.Ytcdfojfafnecdaa
