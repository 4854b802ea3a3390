/- The symbolic executor: a function with one loop. No conditions. -/
import Derived.Test.YtbjbiimkhpfieaaSxLoop2
namespace Go.Sx
open Go Go.RowKit
variable {P : Program}

def asgSl (N : Nat) : List Sl → List Sl → List (Nat × E)
  | .full (.sv (.one (.atom _ n))) :: ps, .full (.sv (.one e)) :: es => if Nat.blt n N then asgSl N ps es else (n, e) :: asgSl N ps es
  | _ :: ps, _ :: es => asgSl N ps es
  | _, _ => []
def asgEs (N : Nat) : List E → List E → List (Nat × E)
  | .atom _ n :: ps, e :: es => if Nat.blt n N then asgEs N ps es else (n, e) :: asgEs N ps es
  | _ :: ps, _ :: es => asgEs N ps es
  | _, _ => []
def asgMem (N : Nat) : List (List E × Nat) → List (List E × Nat) → List (Nat × E)
  | (p, _) :: ps, (e, _) :: es => asgEs N p e ++ asgMem N ps es
  | _, _ => []
def asgOf (N : Nat) (S st : St) : List (Nat × E) := asgSl N S.tmps st.tmps ++ asgMem N S.mem st.mem

def R.rl : R → RL
  | .val l => .val l
  | .br c t e => .br c t.rl e.rl
  | .need c t => .need c t.rl
  | .bad => .bad
theorem R.rl_ok {ρ : Env} {G : Nat → Prop} {A : List (Nat × E) → Prop} {F : Value → Prop} : ∀ {r : R}, r.rl.ok ρ G A F → r.ok ρ F
  | .val _, h => h
  | .br _ _ _, h => ⟨fun hc => R.rl_ok (h.1 hc), fun hc => R.rl_ok (h.2 hc)⟩
  | .need _ _, h => ⟨h.1, R.rl_ok h.2⟩
  | .bad, h => h.elim

/-- A round's walk. -/
def T.rnd (P : Program) (Γ : List Con) (fn : Func) (n N : Nat) (S : St) (k : List K) : T → RL
  | .leaf [] .normal st => if matchSt N (asgOf N S st) S st then .again (asgOf N S st) else .bad
  | .leaf [] .ret st => match resultsE P st fn.results.toList with
    | some l => .val l
    | none => .bad
  | .leaf [] (.exit id) st => match unwind id k with
    | some k' => ((exec P Γ true n k' st).fin P fn).rl
    | none => .bad
  | .leaf _ _ _ => .bad
  | .br c t e => .br c (t.rnd P Γ fn n N S k) (e.rnd P Γ fn n N S k)
  | .need c t => .need c (t.rnd P Γ fn n N S k)

/-- How else a round may end. -/
def OutOk (P : Program) (Γ : List Con) (fn : Func) (n : Nat) (k : List K) (F : Value → Prop) (ρ : Env) (x : X) (st : St) : Prop :=
  (x = .ret ∧ ∃ l, resultsE P st fn.results.toList = some l ∧ F (resVal ρ l)) ∨ (∃ id k', x = .exit id ∧ unwind id k = some k' ∧ ((exec P Γ true n k' st).fin P fn).ok ρ F)
theorem rnd_ok {Γ : List Con} {fn : Func} {n N : Nat} {S : St} {k : List K} {ρ : Env} {G : Nat → Prop} {A : List (Nat × E) → Prop} {F : Value → Prop} : ∀ (t : T), (t.rnd P Γ fn n N S k).ok ρ G A F →
    t.ok ρ (fun k' x st => k' = [] ∧ ((x = .normal ∧ ∃ asg, matchSt N asg S st = true ∧ A asg) ∨ (x ≠ .normal ∧ OutOk P Γ fn n k F ρ x st))) := by
  intro t
  induction t with
  | leaf k' x st =>
    intro h
    unfold T.rnd at h
    split at h
    · split at h
      · rename_i hc hm
        injection hc with h1 h2 h3; subst h1; subst h2; subst h3
        exact ⟨rfl, .inl ⟨rfl, _, hm, h⟩⟩
      · exact h.elim
    · split at h
      · rename_i hc _ l hl
        injection hc with h1 h2 h3; subst h1; subst h2; subst h3
        exact ⟨rfl, .inr ⟨by simp, .inl ⟨rfl, l, hl, h⟩⟩⟩
      · exact h.elim
    · split at h
      · rename_i hc _ k2 hu
        injection hc with h1 h2 h3; subst h1; subst h2; subst h3
        exact ⟨rfl, .inr ⟨by simp, .inr ⟨_, k2, rfl, hu, R.rl_ok h⟩⟩⟩
      · exact h.elim
    · exact h.elim
    · rename_i hc; cases hc
    · rename_i hc; cases hc
  | br c t e iht ihe => intro h; exact ⟨fun hc => iht (h.1 hc), fun hc => ihe (h.2 hc)⟩
  | need c t iht => intro h; exact ⟨h.1, iht h.2⟩
end Go.Sx
