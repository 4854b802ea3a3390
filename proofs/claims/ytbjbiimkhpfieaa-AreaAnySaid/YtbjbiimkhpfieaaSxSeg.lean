/- The symbolic executor: a part of a function, up to a place; behind it one walks on by hand. No conditions. -/
import Derived.Test.YtbjbiimkhpfieaaSxLoop4
import Derived.Test.YtbjbiimkhpfieaaSxCon
namespace Go.Sx
open Go Go.RowKit
variable {P : Program} {ρ : Env}

/-- What stands at the part's end (true, sel, pr), or is returned ahead of that (false, pn, rsel). -/
def T.seg (P : Program) (m : Nat) (sel rsel : List ResultVar) (pn pr : List SV) : T → R
  | .leaf [] .normal st => match Nat.beq st.tmps.length m, resultsE P st sel with
    | true, some l => .val (.one (.bool true) :: (l ++ pr))
    | _, _ => .bad
  | .leaf [] .ret st => match resultsE P st rsel with
    | some l => .val (.one (.bool false) :: (pn ++ l))
    | none => .bad
  | .leaf _ _ _ => .bad
  | .br c t e => .br c (t.seg P m sel rsel pn pr) (e.seg P m sel rsel pn pr)
  | .need c t => .need c (t.seg P m sel rsel pn pr)

def SegLeaf (P : Program) (m : Nat) (sel rsel : List ResultVar) (pn pr : List SV) (ρ : Env) (G : Value → Prop) (k : List K) (x : X) (st : St) : Prop :=
  (k = [] ∧ x = .normal ∧ st.tmps.length = m ∧ ∃ l, resultsE P st sel = some l ∧ G (resVal ρ (.one (.bool true) :: (l ++ pr)))) ∨
  (k = [] ∧ x = .ret ∧ ∃ l, resultsE P st rsel = some l ∧ G (resVal ρ (.one (.bool false) :: (pn ++ l))))

theorem seg_leaf {m : Nat} {sel rsel : List ResultVar} {pn pr : List SV} {G : Value → Prop} : ∀ (t : T), (t.seg P m sel rsel pn pr).ok ρ G → t.ok ρ (SegLeaf P m sel rsel pn pr ρ G) := by
  intro t
  induction t with
  | leaf k x st =>
    intro h
    unfold T.seg at h
    split at h
    · split at h
      · rename_i hc _ _ l hlen hl
        injection hc with h1 h2 h3; subst h1; subst h2; subst h3
        exact .inl ⟨rfl, rfl, Nat.eq_of_beq_eq_true hlen, l, hl, h⟩
      · exact h.elim
    · split at h
      · rename_i hc _ l hl
        injection hc with h1 h2 h3; subst h1; subst h2; subst h3
        exact .inr ⟨rfl, rfl, l, hl, h⟩
      · exact h.elim
    · exact h.elim
    · rename_i hc; cases hc
    · rename_i hc; cases hc
  | br c t e iht ihe => intro h; exact ⟨fun hc => iht (h.1 hc), fun hc => ihe (h.2 hc)⟩
  | need c t iht => intro h; exact ⟨h.1, iht h.2⟩

theorem seg_wp (hΓ : ∀ x ∈ ρ.fns, x.holds P) {B : Nat} {w0 : World} {Q : Exit → Act → World → Prop} {n : Nat} {ks : List K} {st : St} {m : Nat} {sel rsel : List ResultVar} {pn pr : List SV} {G : Value → Prop}
    (h : ((exec P ρ.fns false n ks st).seg P m sel rsel pn pr).ok ρ G)
    (hN : ∀ st l β a w, st.tmps.length = m → resultsE P st sel = some l → G (resVal ρ (.one (.bool true) :: (l ++ pr))) → Inv P B w0 ρ β st a w → Q .normal a w)
    (hR : ∀ st l β a w, resultsE P st rsel = some l → G (resVal ρ (.one (.bool false) :: (pn ++ l))) → Inv P B w0 ρ β st a w → Q .ret a w)
    (β : Nat → Nat) (a : Act) (w : World) (hi : Inv P B w0 ρ β st a w) : wpK P Q ks .normal a w := by
  have hF : ∀ k x st, SegLeaf P m sel rsel pn pr ρ G k x st → ∀ β a w, Inv P B w0 ρ β st a w → wpK P Q k x.to a w := by
    rintro k x st (⟨rfl, rfl, hm, l, hl, hG⟩ | ⟨rfl, rfl, l, hl, hG⟩) β a w hi
    · exact hN st l β a w hm hl hG hi
    · exact hR st l β a w hl hG hi
  exact exec_ok hΓ hF n ks st (seg_leaf _ h) β a w hi hF

/-- A row of codes, and what stands behind it. -/
theorem seqs_wp {Q : Exit → Act → World → Prop} {tail : Code} : ∀ (cs : List Code) (a : Act) (w : World), wpK P (Exit.then (fun a w => tail.wp P Q a w) Q) (cs.map .code) .normal a w → (cs.foldr Code.seq tail).wp P Q a w
  | [], a, w, h => h
  | c :: cs, a, w, h => by
    refine wp_seq (Code.wp_mono ?_ h)
    intro e a w he
    have strip : ∀ (e : Exit) (hne : e ≠ .normal) (cs : List Code), wpK P (Exit.then (fun a w => tail.wp P Q a w) Q) (cs.map .code) e a w → Q e a w := by
      intro e hne cs
      induction cs with
      | nil =>
        intro h
        cases e <;> first | exact absurd rfl hne | exact h
      | cons c cs ih =>
        intro h
        apply ih
        cases e <;> first | exact absurd rfl hne | exact h
    cases e with
    | normal => exact seqs_wp cs a w he
    | _ => exact strip _ (by simp) cs he

/-- A box that is told of, by its cells. -/
theorem cell_facts {B : Nat} {w0 : World} {β : Nat → Nat} {st : St} {a : Act} {w : World} (h : Inv P B w0 ρ β st a w) {b t : Nat} {es : List E} (hr : resultE P st (.cell b t) = some (.agg es)) :
    ∃ bb off, a.tmps.getD b undef = .pointer (some ⟨bb, off, none⟩) ∧ B ≤ bb ∧ bb < w.heap.size ∧ ∀ j e, es[j]? = some e → w.cell? ⟨bb, off + j, none⟩ = some (e.den ρ) := by
  simp only [resultE] at hr
  split at hr
  · rename_i b o hp
    split at hr
    · rename_i cells T hm
      have hs := (h.fits.slot _ _ hp).1
      have hh := h.mem b cells T hm
      refine ⟨β b, o, hs, h.low b (List.getElem?_eq_some_iff.1 hm).1, (Array.getElem?_eq_some_iff.1 hh).1, fun j e he => ?_⟩
      unfold partE at hr
      split at hr
      · split at hr
        · split at hr
          · injection hr with hr
            injection hr with hr
            subst hr
            rw [List.getElem?_take] at he
            split at he
            · rw [List.getElem?_drop] at he
              simp [World.cell?, hh, he]
            · cases he
          · cases hr
        · cases hc : cells[o]? <;> rw [hc] at hr <;> simp at hr
      · cases hr
    · cases hr
  · cases hr

/-- An array of n, written out. -/
theorem expand (t : Array Value) (n : Nat) (h : t.size = n) : t = ((List.range n).map (fun i => t.getD i undef)).toArray := by
  apply Array.ext
  · simp [h]
  · intro i h1 h2
    simp [Array.getD, h1]
def cut : Nat → Code → List Code × Code
  | 0, c => ([], c)
  | n + 1, .seq a b => (a :: (cut n b).1, (cut n b).2)
  | _ + 1, c => ([], c)
theorem cut_eq : ∀ (n : Nat) (c : Code), (cut n c).1.foldr Code.seq (cut n c).2 = c
  | 0, _ => rfl
  | n + 1, c => by
    cases c with
    | seq a b => simp only [cut, List.foldr_cons, cut_eq n b]
    | _ => rfl
def segRun (P : Program) (Γ : List Con) (n k : Nat) (fn : Func) (params : List (Option Nat × List Ty)) (sel : List ResultVar) (pn pr : List SV) : R :=
  (exec P Γ false n ((cut k (fn.body.getD .skip)).1.map .code) (startSt fn (symArgs 0 params))).seg P fn.ntmps sel fn.results.toList pn pr
theorem calls_seg {Γ : List Con} (hΓ : ∀ y ∈ Γ, y.holds P) (n k : Nat) {f : Nat} {fn : Func} (hf : P.funcs[f]? = some fn) (hb : fn.body.isSome = true) (params : List (Option Nat × List Ty)) (sel : List ResultVar) (pn pr : List SV)
    (hp : paramsOk params = true) (cs : List Value) (hc : typed (params.flatMap (·.2)) cs) (G : Value → Prop) (hok : (segRun P Γ n k fn params sel pn pr).ok (envOf Γ cs) G) (w : World) (R : Ending → World → Prop)
    (hN : ∀ β st l a w', a.tmps.size = fn.ntmps → a.defers = [] → resultsE P st sel = some l → G (resVal (envOf Γ cs) (.one (.bool true) :: (l ++ pr))) → Inv P w.heap.size w (envOf Γ cs) β st a w' → (cut k (fn.body.getD .skip)).2.wp P (bodyPost P fn R) a w')
    (hR : ∀ l w', G (resVal (envOf Γ cs) (.one (.bool false) :: (pn ++ l))) → Below w.heap.size w w' → R (.returned (resVal (envOf Γ cs) l)) w') :
    Calls P f (groupArgs params cs).toArray w R := by
  obtain ⟨c, hcb⟩ := Option.isSome_iff_exists.1 hb
  have h3 := symArgs_den Γ params [] cs hp hc
  simp only [List.nil_append, List.length_nil] at h3
  rw [← h3]
  refine calls_of_wpK hf hcb w fun a hi => ?_
  show c.wp P (bodyPost P fn R) a w
  have hce : c = (cut k (fn.body.getD .skip)).1.foldr Code.seq (cut k (fn.body.getD .skip)).2 := by rw [cut_eq, hcb]; rfl
  rw [hce]
  refine seqs_wp _ _ _ ?_
  refine seg_wp (ρ := envOf Γ cs) hΓ hok ?_ ?_ (fun _ => 0) a w hi
  · intro st l β a w' hm hl hG hi'
    exact hN β st l a w' (hi'.fits.size.trans hm) hi'.defers hl hG hi'
  · intro st l β a w' hl hG hi'
    exact ⟨hi'.defers, _, results_ok hi' hl, hR l w' hG hi'.below⟩

theorem results_two {st : St} {r1 r2 : ResultVar} {l : List SV} (h : resultsE P st [r1, r2] = some l) : ∃ v1 v2, resultE P st r1 = some v1 ∧ resultE P st r2 = some v2 ∧ l = [v1, v2] := by
  simp only [resultsE] at h
  cases h1 : resultE P st r1 <;> cases h2 : resultE P st r2 <;> rw [h1, h2] at h <;> simp at h
  exact ⟨_, _, rfl, rfl, h.symm⟩
theorem results_three {st : St} {r1 r2 r3 : ResultVar} {l : List SV} (h : resultsE P st [r1, r2, r3] = some l) : ∃ v1 v2 v3, resultE P st r1 = some v1 ∧ resultE P st r2 = some v2 ∧ resultE P st r3 = some v3 ∧ l = [v1, v2, v3] := by
  simp only [resultsE] at h
  cases h1 : resultE P st r1 <;> cases h2 : resultE P st r2 <;> cases h3 : resultE P st r3 <;> rw [h1, h2, h3] at h <;> simp at h
  exact ⟨_, _, _, rfl, rfl, rfl, h.symm⟩
theorem resVal_two {l : List SV} {u v : Value} (h : l.map (SV.den ρ) = [u, v]) : resVal ρ l = .tuple #[u, v] := by
  match l, h with
  | [x, y], h =>
    simp only [List.map_cons, List.map_nil, List.cons.injEq, and_true] at h
    simp [resVal, h.1, h.2]
theorem cell_facts2 {B : Nat} {w0 : World} {β : Nat → Nat} {st : St} {a : Act} {w : World} (h : Inv P B w0 ρ β st a w) {b t : Nat} {v : SV} (hr : resultE P st (.cell b t) = some v) {us : List Value} (hv : v.den ρ = .agg us.toArray) :
    ∃ bb off, a.tmps.getD b undef = .pointer (some ⟨bb, off, none⟩) ∧ B ≤ bb ∧ bb < w.heap.size ∧ ∀ j u, us[j]? = some u → w.cell? ⟨bb, off + j, none⟩ = some u := by
  cases v with
  | one e =>
    have h1 := den_one e (ρ := ρ)
    simp only [SV.den] at hv
    rw [hv] at h1
    simp [Value.oneCell'] at h1
  | agg es =>
    obtain ⟨bb, off, h1, h2, h3, h4⟩ := cell_facts h hr
    refine ⟨bb, off, h1, h2, h3, fun j u hu => ?_⟩
    have he : es.map (E.den ρ) = us := by
      simp only [SV.den, Value.agg.injEq] at hv
      simpa using hv
    rw [← he, List.getElem?_map, Option.map_eq_some_iff] at hu
    obtain ⟨e, he1, he2⟩ := hu
    rw [← he2]
    exact h4 j e he1
end Go.Sx
