/- The symbolic executor: a function with a loop whose bound is no literal. No conditions. -/
import Derived.Test.YtbjbiimkhpfieaaSxLoop
namespace Go.Sx
open Go Go.RowKit
variable {P : Program}

def loopLeaves : T → List (Code × List K × St)
  | .leaf (.code (.loop c) :: k) .normal st => [(c, k, st)]
  | .leaf _ _ _ => []
  | .br _ t e => loopLeaves t ++ loopLeaves e
  | .need _ t => loopLeaves t

/-- A tree of results, of loops that are come to, of rounds that begin anew. -/
inductive RL where
  | val (l : List SV)
  | enter (j : Nat)
  | again (asg : List (Nat × E))
  | br (c : E) (t e : RL)
  | need (c : E) (t : RL)
  | bad
def RL.ok (ρ : Env) (G : Nat → Prop) (A : List (Nat × E) → Prop) (F : Value → Prop) : RL → Prop
  | .val l => F (resVal ρ l)
  | .enter j => G j
  | .again asg => A asg
  | .br c t e => (boolOf (c.den ρ) = true → t.ok ρ G A F) ∧ (boolOf (c.den ρ) = false → e.ok ρ G A F)
  | .need c t => boolOf (c.den ρ) = true ∧ t.ok ρ G A F
  | .bad => False

/-- The walk up to the loops: they are numbered from j on. -/
def T.enc (P : Program) (fn : Func) : Nat → T → RL
  | _, .leaf [] .normal st | _, .leaf [] .ret st => match resultsE P st fn.results.toList with
    | some l => .val l
    | none => .bad
  | j, .leaf (.code (.loop _) :: _) .normal _ => .enter j
  | _, .leaf _ _ _ => .bad
  | j, .br c t e => .br c (t.enc P fn j) (e.enc P fn (j + (loopLeaves t).length))
  | j, .need c t => .need c (t.enc P fn j)

/-- What a walk's end must be: the function's result, or a loop. -/
def EndOk (P : Program) (fn : Func) (ρ : Env) (F : Value → Prop) (L : Nat → Code → List K → St → Prop) (k : List K) (x : X) (st : St) : Prop :=
  (k = [] ∧ (x = .normal ∨ x = .ret) ∧ ∃ l, resultsE P st fn.results.toList = some l ∧ F (resVal ρ l)) ∨ (∃ j c k', k = .code (.loop c) :: k' ∧ x = .normal ∧ L j c k' st)

theorem EndOk.mono {fn : Func} {ρ : Env} {F : Value → Prop} {L L' : Nat → Code → List K → St → Prop} (h : ∀ j c k st, L j c k st → L' j c k st) {k : List K} {x : X} {st : St} (he : EndOk P fn ρ F L k x st) : EndOk P fn ρ F L' k x st := by
  rcases he with he | ⟨j, c, k', h1, h2, h3⟩
  · exact .inl he
  · exact .inr ⟨j, c, k', h1, h2, h _ _ _ _ h3⟩
theorem T.ok_mono {ρ : Env} {F F' : List K → X → St → Prop} (h : ∀ k x st, F k x st → F' k x st) : ∀ {t : T}, t.ok ρ F → t.ok ρ F'
  | .leaf _ _ _, ht => h _ _ _ ht
  | .br _ _ _, ht => ⟨fun hc => T.ok_mono h (ht.1 hc), fun hc => T.ok_mono h (ht.2 hc)⟩
  | .need _ _, ht => ⟨ht.1, T.ok_mono h ht.2⟩
theorem enc_ok {fn : Func} {ρ : Env} {G : Nat → Prop} {A : List (Nat × E) → Prop} {F : Value → Prop} : ∀ (t : T) (j : Nat), (t.enc P fn j).ok ρ G A F →
    t.ok ρ (EndOk P fn ρ F fun i c k st => G (j + i) ∧ (loopLeaves t)[i]? = some (c, k, st)) := by
  intro t
  induction t with
  | leaf k x st =>
    intro j h
    unfold T.enc at h
    split at h
    · split at h
      · rename_i hc _ l hl
        injection hc with h1 h2 h3; subst h1; subst h2; subst h3
        exact .inl ⟨rfl, .inl rfl, l, hl, h⟩
      · exact h.elim
    · split at h
      · rename_i hc _ l hl
        injection hc with h1 h2 h3; subst h1; subst h2; subst h3
        exact .inl ⟨rfl, .inr rfl, l, hl, h⟩
      · exact h.elim
    · rename_i hc
      injection hc with h1 h2 h3; subst h1; subst h2; subst h3
      exact .inr ⟨0, _, _, rfl, rfl, h, rfl⟩
    · exact h.elim
    · rename_i hc; cases hc
    · rename_i hc; cases hc
  | br c t e iht ihe =>
    intro j h
    constructor
    · intro hc
      refine T.ok_mono ?_ (iht j (h.1 hc))
      intro k x st
      refine EndOk.mono ?_
      intro i c k st h
      refine ⟨h.1, ?_⟩
      have hl : i < (loopLeaves t).length := by
        rcases Nat.lt_or_ge i (loopLeaves t).length with h1 | h1
        · exact h1
        · rw [List.getElem?_eq_none h1] at h; cases h.2
      simp only [loopLeaves]
      rw [List.getElem?_append_left hl]
      exact h.2
    · intro hc
      refine T.ok_mono ?_ (ihe _ (h.2 hc))
      intro k x st he
      rcases he with he | ⟨i, c, k', h1, h2, h3, h4⟩
      · exact .inl he
      · refine .inr ⟨(loopLeaves t).length + i, c, k', h1, h2, by rw [← Nat.add_assoc]; exact h3, ?_⟩
        simp only [loopLeaves]
        rw [List.getElem?_append_right (Nat.le_add_right _ _), Nat.add_sub_cancel_left]
        exact h4
  | need c t iht => intro j h; exact ⟨h.1, iht j h.2⟩

theorem calls_of_wpK {ρ : Env} {f : Nat} {fn : Func} {c : Code} (hf : P.funcs[f]? = some fn) (hb : fn.body = some c) {args : List SV} {R : Ending → World → Prop} (w : World)
    (h : ∀ a, Inv P w.heap.size w ρ (fun _ => 0) (startSt fn args) a w → wpK P (bodyPost P fn R) [.code c] .normal a w) : Calls P f (args.map (SV.den ρ)).toArray w R := by
  refine calls_of_wp hf hb ?_
  refine h _ ?_
  refine ⟨rfl, ⟨by simp [startSt], fun i s hi => ?_⟩, fun k c T hk => by simp [startSt] at hk, fun i j hi => by simp [startSt] at hi, fun i hi => by simp [startSt] at hi, Below.refl _ _, Nat.le_refl _, fun s hs => by simp [startSt] at hs⟩
  simp only [startSt] at hi
  by_cases hil : i < args.length
  · rw [List.getElem?_append_left (by simpa using hil)] at hi
    simp only [List.getElem?_map, Option.map_eq_some_iff] at hi
    obtain ⟨v, hv, rfl⟩ := hi
    refine ⟨?_, trivial⟩
    simp [Array.getD_eq_getD_getElem?, Array.getElem?_append, hil, S0.den]
    rw [List.getElem?_eq_getElem hil] at hv
    injection hv with hv
    rw [hv]
  · rw [List.getElem?_append_right (by simpa using hil)] at hi
    have := List.eq_of_mem_replicate (List.mem_of_getElem? hi)
    subst this
    trivial

/-- What the function's end must be. -/
def retPost (P : Program) (fn : Func) (B : Nat) (w0 : World) (F : Value → Prop) : Exit → Act → World → Prop := bodyPost P fn fun e w' => ∃ v, e = .returned v ∧ F v ∧ Below B w0 w'
theorem end_ret {B : Nat} {w0 : World} {ρ : Env} {fn : Func} {F : Value → Prop} {x : X} {st : St} (hx : x = .normal ∨ x = .ret) {l : List SV} (hl : resultsE P st fn.results.toList = some l) (hR : F (resVal ρ l)) {β : Nat → Nat} {a : Act} {w : World}
    (hi : Inv P B w0 ρ β st a w) : wpK P (retPost P fn B w0 F) [] x.to a w := by
  have hr := results_ok hi hl
  rcases hx with rfl | rfl
  · exact ⟨hi.defers, _, hr, _, rfl, hR, hi.below⟩
  · exact ⟨hi.defers, _, hr, _, rfl, hR, hi.below⟩
end Go.Sx
