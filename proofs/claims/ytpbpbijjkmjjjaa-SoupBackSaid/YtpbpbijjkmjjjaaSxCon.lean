/- The symbolic executor: a contract whose answer is the run's own tree. No conditions. -/
import Derived.Test.YtpbpbijjkmjjjaaSxUse
namespace Go.Sx
open Go Go.RowKit
variable {P : Program}

def cellE (l : List SV) (j : Nat) : E := (l.flatMap SV.cells).getD j .nil
def R.cellI (ρ : Env) (j : Nat) : R → Int
  | .val l => intOf ((cellE l j).den ρ)
  | .br c t e => bif boolOf (c.den ρ) then t.cellI ρ j else e.cellI ρ j
  | .need _ t => t.cellI ρ j
  | .bad => 0
def R.cellB (ρ : Env) (j : Nat) : R → Bool
  | .val l => boolOf ((cellE l j).den ρ)
  | .br c t e => bif boolOf (c.den ρ) then t.cellB ρ j else e.cellB ρ j
  | .need _ t => t.cellB ρ j
  | .bad => false
def R.cellV (ρ : Env) (j : Nat) : R → Value
  | .val l => (cellE l j).den ρ
  | .br c t e => bif boolOf (c.den ρ) then t.cellV ρ j else e.cellV ρ j
  | .need _ t => t.cellV ρ j
  | .bad => .nilIface

/-- Every leaf is a result of the right shape. -/
def R.shaped (tup : Bool) (res : List (Option Nat × List Ty)) : R → Bool
  | .val l => svsOk res l && (tup != Nat.beq l.length 1)
  | .br _ t e => t.shaped tup res && e.shaped tup res
  | .need _ t => t.shaped tup res
  | .bad => false
def R.needs (ρ : Env) : R → Prop
  | .val _ => True
  | .br c t e => (boolOf (c.den ρ) = true → t.needs ρ) ∧ (boolOf (c.den ρ) = false → e.needs ρ)
  | .need c t => boolOf (c.den ρ) = true ∧ t.needs ρ
  | .bad => True
def R.noNeed : R → Bool
  | .val _ | .bad => true
  | .br _ t e => t.noNeed && e.noNeed
  | .need _ _ => false
theorem R.needs_of_no {ρ : Env} : ∀ {t : R}, t.noNeed = true → t.needs ρ
  | .val _, _ => trivial
  | .bad, _ => trivial
  | .br c t e, h => by
    simp only [R.noNeed, Bool.and_eq_true] at h
    exact ⟨fun _ => R.needs_of_no h.1, fun _ => R.needs_of_no h.2⟩
  | .need _ _, h => by simp [R.noNeed] at h

def conRun (P : Program) (Γ : List Con) (n f : Nat) (params : List (Option Nat × List Ty)) : R := run P Γ n f (symArgs 0 params)
/-- The contract of function f: what its run tells. -/
def conOf (P : Program) (Γ : List Con) (n f : Nat) (params : List (Option Nat × List Ty)) (tup : Bool) (res : List (Option Nat × List Ty)) : Con :=
  { f := f, params := params, tup := tup, res := res,
    fi := fun cs j => (conRun P Γ n f params).cellI (envOf Γ cs) j,
    fb := fun cs j => (conRun P Γ n f params).cellB (envOf Γ cs) j,
    fv := fun cs j => (conRun P Γ n f params).cellV (envOf Γ cs) j }

theorem resCells_of {ρ : Env} {x : Con} {cs : List Value} : ∀ {ts : List Ty} {es : List E} {j : Nat}, tysOk ts es = true → (∀ i e, es[i]? = some e → cellVal x cs e.ty (j + i) = e.den ρ) → resCells x cs j ts = es.map (E.den ρ)
  | [], [], _, _, _ => rfl
  | [], _ :: _, _, h, _ => by simp [tysOk] at h
  | _ :: _, [], _, h, _ => by simp [tysOk] at h
  | t :: ts, e :: es, j, h, hc => by
    simp only [tysOk, Bool.and_eq_true] at h
    have ht := Ty.same_eq h.1
    have h0 := hc 0 e rfl
    simp only [resCells, List.map_cons]
    rw [resCells_of h.2 (fun i e' hi => by have := hc (i + 1) e' (by simpa using hi); rwa [show j + (i + 1) = j + 1 + i by omega] at this)]
    congr 1
    rw [ht]; exact h0

theorem tysOk_len : ∀ {ts : List Ty} {es : List E}, tysOk ts es = true → ts.length = es.length
  | [], [], _ => rfl
  | [], _ :: _, h => by simp [tysOk] at h
  | _ :: _, [], h => by simp [tysOk] at h
  | t :: ts, e :: es, h => by
    simp only [tysOk, Bool.and_eq_true] at h
    simp [tysOk_len h.2]

theorem resVals_of {ρ : Env} {x : Con} {cs : List Value} : ∀ {rs : List (Option Nat × List Ty)} {l : List SV} {j : Nat}, svsOk rs l = true → (∀ i e, (l.flatMap SV.cells)[i]? = some e → cellVal x cs e.ty (j + i) = e.den ρ) → resVals x cs j rs = l.map (SV.den ρ)
  | [], [], _, _, _ => rfl
  | [], _ :: _, _, h, _ => by simp [svsOk] at h
  | _ :: _, [], _, h, _ => by simp [svsOk] at h
  | (o, ts) :: rs, v :: l, j, h, hc => by
    simp only [svsOk, Bool.and_eq_true] at h
    obtain ⟨hv, hr⟩ := h
    have hty : tysOk ts v.cells = true := by cases o <;> cases v <;> first | exact hv | simp [svOk] at hv
    have hlen := tysOk_len hty
    have h1 : resCells x cs j ts = v.cells.map (E.den ρ) := resCells_of hty (fun i e hi => hc i e (by
      rw [List.flatMap_cons, List.getElem?_append_left (List.getElem?_eq_some_iff.1 hi).1]; exact hi))
    have h2 : resVals x cs (j + ts.length) rs = l.map (SV.den ρ) := resVals_of hr (fun i e hi => by
      have := hc (ts.length + i) e (by
        rw [List.flatMap_cons, hlen, List.getElem?_append_right (by omega)]
        simpa using hi)
      rwa [show j + (ts.length + i) = j + ts.length + i by omega] at this)
    cases o with
    | none =>
      cases v with
      | one e => simp only [resVals, h1, h2, SV.cells, List.map_cons, List.map_nil, SV.den]
      | agg es => simp [svOk] at hv
    | some n =>
      cases v with
      | one e => simp [svOk] at hv
      | agg es => simp only [resVals, h1, h2, SV.cells, List.map_cons, SV.den]

theorem ok_of_shaped {ρ : Env} {x : Con} {cs : List Value} : ∀ (t : R), t.shaped x.tup x.res = true → t.needs ρ → (∀ j, x.fi cs j = t.cellI ρ j ∧ x.fb cs j = t.cellB ρ j ∧ x.fv cs j = t.cellV ρ j) → t.ok ρ (fun v => v = x.out cs)
  | .val l, hs, _, hc => by
    simp only [R.shaped, Bool.and_eq_true] at hs
    obtain ⟨h1, h2⟩ := hs
    have hr := resVals_of (ρ := ρ) (x := x) (cs := cs) (j := 0) h1 (fun i e hi => by
      have hce : cellE l i = e := by simp [cellE, hi]
      obtain ⟨c1, c2, c3⟩ := hc i
      simp only [R.cellI, R.cellB, R.cellV, hce] at c1 c2 c3
      rw [Nat.zero_add]
      cases ht : e.ty with
      | i => rw [cellVal, c1]; exact (den_i ht).symm
      | b => rw [cellVal, c2]; exact (den_b ht).symm
      | v => rw [cellVal, c3]; exact oc_of_one (den_one e))
    show resVal ρ l = x.out cs
    unfold Con.out
    rw [hr]
    cases htup : x.tup with
    | true =>
      rw [htup] at h2
      have hl : l.length ≠ 1 := fun e => by rw [e] at h2; simp at h2
      match l, hl with
      | [], _ => rfl
      | [_], hl => exact absurd rfl hl
      | _ :: _ :: _, _ => rfl
    | false =>
      rw [htup] at h2
      have hl : l.length = 1 := by
        apply Nat.eq_of_beq_eq_true
        simpa using h2
      match l, hl with
      | [_], _ => rfl
  | .br c t e, hs, hn, hc => by
    simp only [R.shaped, Bool.and_eq_true] at hs
    refine ⟨fun h => ok_of_shaped t hs.1 (hn.1 h) fun j => ?_, fun h => ok_of_shaped e hs.2 (hn.2 h) fun j => ?_⟩
    · have := hc j
      simp only [R.cellI, R.cellB, R.cellV, h, cond_true] at this
      exact this
    · have := hc j
      simp only [R.cellI, R.cellB, R.cellV, h, cond_false] at this
      exact this
  | .need c t, hs, hn, hc => ⟨hn.1, ok_of_shaped t hs hn.2 hc⟩
  | .bad, hs, _, _ => by simp [R.shaped] at hs

theorem conOf_holds_need {Γ : List Con} (hΓ : ∀ y ∈ Γ, y.holds P) (n f : Nat) (params : List (Option Nat × List Ty)) (tup : Bool) (res : List (Option Nat × List Ty))
    (h : (paramsOk params && (conRun P Γ n f params).shaped tup res) = true) (hn : ∀ cs, typed (params.flatMap (·.2)) cs → (conRun P Γ n f params).needs (envOf Γ cs)) : (conOf P Γ n f params tup res).holds P := by
  simp only [Bool.and_eq_true] at h
  exact holds_of_run (x := conOf P Γ n f params tup res) Γ hΓ n h.1 rfl fun cs hc => ok_of_shaped (x := conOf P Γ n f params tup res) _ h.2 (hn cs hc) fun j => ⟨rfl, rfl, rfl⟩

theorem conOf_holds {Γ : List Con} (hΓ : ∀ y ∈ Γ, y.holds P) (n f : Nat) (params : List (Option Nat × List Ty)) (tup : Bool) (res : List (Option Nat × List Ty))
    (h : (paramsOk params && (conRun P Γ n f params).shaped tup res && (conRun P Γ n f params).noNeed) = true) : (conOf P Γ n f params tup res).holds P := by
  rw [Bool.and_eq_true] at h
  exact conOf_holds_need hΓ n f params tup res h.1 fun _ _ => R.needs_of_no h.2

theorem w64_eq (n : Int) : w64 n = (n + 9223372036854775808) % 18446744073709551616 - 9223372036854775808 := by
  unfold w64
  rw [IntKind.wrap_i64]
theorem w64_id {n : Int} (h : -9223372036854775808 ≤ n) (h' : n ≤ 9223372036854775807) : w64 n = n := by
  rw [w64_eq]; omega
abbrev int1 : Option Nat × List Ty := (none, [.i])
abbrev bool1 : Option Nat × List Ty := (none, [.b])
abbrev val1 : Option Nat × List Ty := (none, [.v])
end Go.Sx
