/- The symbolic executor: a function with loops that reads slices which came in. No conditions. -/
import Derived.Test.YteneneadfpkahaaSxLoop4
namespace Go.Sx
open Go Go.RowKit
variable {P : Program}

def startS (fn : Func) (args : List SV) (ins : List InS) : St := { startSt fn args with ins := ins }
def envS (Γ : List Con) (cs : List Value) (sl : Nat → List Value) : Env := { envOf Γ cs with sl := sl }
def walkS (P : Program) (Γ : List Con) (n : Nat) (fn : Func) (args : List SV) (ins : List InS) : T := exec P Γ false n [.code (fn.body.getD .skip)] (startS fn args ins)

theorem calls_of_wpS {ρ : Env} {f : Nat} {fn : Func} {c : Code} (hf : P.funcs[f]? = some fn) (hb : fn.body = some c) {args : List SV} {ins : List InS} {R : Ending → World → Prop} (w : World) (hin : ∀ s ∈ ins, InAt P w.heap.size ρ w s)
    (h : ∀ a, Inv P w.heap.size w ρ (fun _ => 0) (startS fn args ins) a w → wpK P (bodyPost P fn R) [.code c] .normal a w) : Calls P f (args.map (SV.den ρ)).toArray w R := by
  refine calls_of_wp hf hb ?_
  refine h _ ?_
  refine ⟨rfl, ⟨by simp [startS, startSt], fun i s hi => ?_⟩, fun k c T hk => by simp [startS, startSt] at hk, fun i j hi => by simp [startS, startSt] at hi, fun i hi => by simp [startS, startSt] at hi, Below.refl _ _, Nat.le_refl _, hin⟩
  simp only [startS, startSt] at hi
  by_cases hil : i < args.length
  · rw [List.getElem?_append_left (by simpa using hil)] at hi
    simp only [List.getElem?_map, Option.map_eq_some_iff] at hi
    obtain ⟨v, hv, rfl⟩ := hi
    refine ⟨?_, trivial⟩
    simp [Array.getD_eq_getD_getElem?, Array.getElem?_append, hil, S0.den]
    rw [List.getElem?_eq_getElem hil] at hv
    injection hv with hv
    rw [hv]
  · rw [List.getElem?_append_right (by simpa using hil)] at hi
    have := List.eq_of_mem_replicate (List.mem_of_getElem? hi)
    subst this
    trivial

/-- **What such a function returns.** -/
theorem calls_of_heads {Γ : List Con} (hΓ : ∀ y ∈ Γ, y.holds P) {ρ0 : Env} (hρ : ρ0.fns = Γ) (n M f : Nat) {fn : Func} (hf : P.funcs[f]? = some fn) (hb : fn.body.isSome = true) (args : List SV) (ins : List InS) (hs : List Head) (tgt0 : List Nat) (tgts : List (List Nat))
    (hM : ∀ j, M ≤ nOf hs j ∨ hs.length ≤ j)
    (hs0 : standsAt (walkS P Γ n fn args ins) = tgt0.map (headOf hs)) (hsj : hs.map (fun h => standsAt (h.walk P Γ n)) = tgts.map (List.map (headOf hs)))
    (I : Nat → Env → Prop) (m : Nat → Env → Nat × Nat) (F : Value → Prop)
    (h0 : ((walkS P Γ n fn args ins).gr P fn hs tgt0 0).ok ρ0 (fun j asg => I j (nxt (nOf hs j) asg ρ0)) F)
    (hj : ∀ j h tgt, hs[j]? = some h → tgts[j]? = some tgt → ∀ ρ, ρ.agree M ρ0 → I j ρ →
      ((h.walk P Γ n).gr P fn hs tgt 0).ok ρ (fun j' asg => I j' (nxt (nOf hs j') asg ρ) ∧ lexLt (m j' (nxt (nOf hs j') asg ρ)) (m j ρ)) F) (w : World) (hin : ∀ s ∈ ins, InAt P w.heap.size ρ0 w s) :
    Calls P f (args.map (SV.den ρ0)).toArray w fun e w' => ∃ v, e = .returned v ∧ F v ∧ Below w.heap.size w w' := by
  have stand : ∀ (t : T) (tgt : List Nat), standsAt t = tgt.map (headOf hs) → ∀ n, n < (stands t).length → (standsAt t)[n]? = (tgt[n]?).map (headOf hs) := fun t tgt h n _ => by rw [h, List.getElem?_map]
  have ag : ∀ {j : Nat} {h : Head} (ρ : Env) (asg : List (Nat × E)), hs[j]? = some h → (nxt (nOf hs j) asg ρ).agree M ρ := fun {j h} ρ asg hj => by
    rcases hM j with h1 | h1
    · exact (nxt_agree _ asg ρ).low h1
    · rw [List.getElem?_eq_none h1] at hj; cases hj
  obtain ⟨c, hcb⟩ := Option.isSome_iff_exists.1 hb
  have step : ∀ j h, hs[j]? = some h → ∀ ρ, ρ.fns = Γ → (ρ.agree M ρ0 ∧ I j ρ) →
      (exec P Γ false n (.code h.c :: .inLoop h.c :: h.k) h.S).ok ρ (LeafOk P fn hs (fun j' asg => ((j' < hs.length → (nxt (nOf hs j') asg ρ).agree M ρ0) ∧ I j' (nxt (nOf hs j') asg ρ)) ∧ lexLt (m j' (nxt (nOf hs j') asg ρ)) (m j ρ)) F ρ) := by
    rintro j h hjh ρ hρ' ⟨hag, hI⟩
    have hlen : j < tgts.length := by
      have := congrArg List.length hsj
      simp only [List.length_map] at this
      rw [← this]; exact (List.getElem?_eq_some_iff.1 hjh).1
    have htg : tgts[j]? = some tgts[j] := List.getElem?_eq_getElem hlen
    have hst : standsAt (h.walk P Γ n) = tgts[j].map (headOf hs) := by
      have := congrArg (fun l => l[j]?) hsj
      simp only [List.getElem?_map, hjh, htg, Option.map_some, Option.some.injEq] at this
      exact this
    refine gr_ok _ 0 [] tgts[j] rfl rfl (stand _ _ hst) (GT.ok_mono ?_ (hj j h _ hjh htg ρ hag hI))
    rintro j' asg ⟨h1, h2⟩
    exact ⟨⟨fun hl => (ag ρ asg (List.getElem?_eq_getElem hl)).trans hag, h1⟩, h2⟩
  refine calls_of_wpS (ρ := ρ0) (R := fun e w' => ∃ v, e = .returned v ∧ F v ∧ Below w.heap.size w w') hf hcb (args := args) (ins := ins) w hin (fun a hi => ?_)
  have hw : walkS P Γ n fn args ins = exec P Γ false n [.code c] (startS fn args ins) := by simp [walkS, hcb]
  have g0 := gr_ok _ 0 [] tgt0 rfl rfl (stand _ _ hs0) h0
  have hG := fun (k' : List K) (x' : X) (st : St) (hl : LeafOk P fn hs (fun j asg => I j (nxt (nOf hs j) asg ρ0)) F ρ0 k' x' st) =>
    leaf_wp (P := P) (B := w.heap.size) (w0 := w) (fun j h asg hj' hA β a w' hi' =>
      heads_ok hΓ n (fun j ρ => (j < hs.length → ρ.agree M ρ0) ∧ I j ρ) m (fun j h hjh ρ hρ' hI => step j h hjh ρ hρ' ⟨hI.1 (List.getElem?_eq_some_iff.1 hjh).1, hI.2⟩) j h hj' (nxt h.N asg ρ0) hρ
        (by rw [← nOf_eq hj']; exact ⟨fun _ => ag _ asg hj', hA⟩) β a w' hi') hl
  rw [hw] at g0
  subst hρ
  exact exec_ok hΓ hG n [.code c] _ g0 (fun _ => 0) a w hi hG
end Go.Sx
