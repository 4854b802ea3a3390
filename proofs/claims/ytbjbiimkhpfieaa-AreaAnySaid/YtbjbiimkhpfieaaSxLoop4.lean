/- The symbolic executor: a function with loops: its loops' heads as a graph. No conditions. -/
import Derived.Test.YtbjbiimkhpfieaaSxLoop3
import Derived.Test.YtbjbiimkhpfieaaSxCon
namespace Go.Sx
open Go Go.RowKit
variable {P : Program}

/-- A loop's head: its body, what is to be done behind it, the pattern of the state, the number of its own first atom. -/
structure Head where
  c : Code
  k : List K
  S : St
  N : Nat

/-- All places where a walk stands at a loop: on its way into it, or at a round's end. -/
def stands : T → List (Code × List K × St)
  | .leaf (.code (.loop c) :: k) .normal st => [(c, k, st)]
  | .leaf (.inLoop c :: k) .normal st => [(c, k, st)]
  | .leaf _ _ _ => []
  | .br _ t e => stands t ++ stands e
  | .need _ t => stands t

inductive GT where
  | val (l : List SV)
  | goto (j : Nat) (asg : List (Nat × E))
  | br (c : E) (t e : GT)
  | need (c : E) (t : GT)
  | bad
def GT.ok (ρ : Env) (A : Nat → List (Nat × E) → Prop) (F : Value → Prop) : GT → Prop
  | .val l => F (resVal ρ l)
  | .goto j asg => A j asg
  | .br c t e => (boolOf (c.den ρ) = true → t.ok ρ A F) ∧ (boolOf (c.den ρ) = false → e.ok ρ A F)
  | .need c t => boolOf (c.den ρ) = true ∧ t.ok ρ A F
  | .bad => False

def toHead (hs : List Head) (tgt : List Nat) (i : Nat) (st : St) : GT :=
  match tgt[i]? with
  | some j => match hs[j]? with
    | some h => if matchSt h.N (asgOf h.N h.S st) h.S st then .goto j (asgOf h.N h.S st) else .bad
    | none => .bad
  | none => .bad
/-- The walk's tree; 'tgt': the head that each place at a loop is of. -/
def T.gr (P : Program) (fn : Func) (hs : List Head) (tgt : List Nat) : Nat → T → GT
  | _, .leaf [] .normal st | _, .leaf [] .ret st => match resultsE P st fn.results.toList with
    | some l => .val l
    | none => .bad
  | i, .leaf (.code (.loop _) :: _) .normal st => toHead hs tgt i st
  | i, .leaf (.inLoop _ :: _) .normal st => toHead hs tgt i st
  | _, .leaf _ _ _ => .bad
  | i, .br c t e => .br c (t.gr P fn hs tgt i) (e.gr P fn hs tgt (i + (stands t).length))
  | i, .need c t => .need c (t.gr P fn hs tgt i)

def headOf (hs : List Head) (j : Nat) : Code × List K := match hs[j]? with
  | some h => (h.c, h.k)
  | none => (.skip, [])
def standsAt (t : T) : List (Code × List K) := (stands t).map fun x => (x.1, x.2.1)

/-- What a place of a walk must tell. -/
def LeafOk (P : Program) (fn : Func) (hs : List Head) (A : Nat → List (Nat × E) → Prop) (F : Value → Prop) (ρ : Env) (k : List K) (x : X) (st : St) : Prop :=
  (k = [] ∧ (x = .normal ∨ x = .ret) ∧ ∃ l, resultsE P st fn.results.toList = some l ∧ F (resVal ρ l)) ∨
  (∃ c k', (k = .code (.loop c) :: k' ∨ k = .inLoop c :: k') ∧ x = .normal ∧ ∃ j h asg, hs[j]? = some h ∧ h.c = c ∧ h.k = k' ∧ matchSt h.N asg h.S st = true ∧ A j asg)

theorem toHead_ok {hs : List Head} {tgt : List Nat} {i : Nat} {st : St} {ρ : Env} {A : Nat → List (Nat × E) → Prop} {F : Value → Prop} (h : (toHead hs tgt i st).ok ρ A F) :
    ∃ j hd asg, tgt[i]? = some j ∧ hs[j]? = some hd ∧ matchSt hd.N asg hd.S st = true ∧ A j asg := by
  unfold toHead at h
  split at h
  · rename_i j hj
    split at h
    · rename_i hd hh
      split at h
      · rename_i hm; exact ⟨j, hd, _, hj, hh, hm, h⟩
      · exact h.elim
    · exact h.elim
  · exact h.elim

theorem gr_ok {fn : Func} {hs : List Head} {tgt : List Nat} {ρ : Env} {A : Nat → List (Nat × E) → Prop} {F : Value → Prop} : ∀ (t : T) (i : Nat) (pre post : List Nat), tgt = pre ++ post → pre.length = i →
    (∀ n, n < (stands t).length → (standsAt t)[n]? = (post[n]?).map (headOf hs)) → (t.gr P fn hs tgt i).ok ρ A F → t.ok ρ (LeafOk P fn hs A F ρ) := by
  intro t
  have stand : ∀ (c : Code) (k' : List K) (st : St) (i : Nat) (pre post : List Nat), tgt = pre ++ post → pre.length = i → some (c, k') = (post[0]?).map (headOf hs) → (toHead hs tgt i st).ok ρ A F →
      ∃ j h asg, hs[j]? = some h ∧ h.c = c ∧ h.k = k' ∧ matchSt h.N asg h.S st = true ∧ A j asg := by
    intro c k' st i pre post hp hl hs0 h
    obtain ⟨j, hd, asg, h1, h2, h3, h4⟩ := toHead_ok h
    subst hp; subst hl
    rw [List.getElem?_append_right (Nat.le_refl _), Nat.sub_self] at h1
    rw [h1] at hs0
    simp only [Option.map_some, headOf, h2, Option.some.injEq, Prod.mk.injEq] at hs0
    exact ⟨j, hd, asg, h2, hs0.1.symm, hs0.2.symm, h3, h4⟩
  induction t with
  | leaf k x st =>
    intro i pre post hp hl hst h
    unfold T.gr at h
    split at h
    · split at h
      · rename_i hc _ l hl
        injection hc with h1 h2 h3; subst h1; subst h2; subst h3
        exact .inl ⟨rfl, .inl rfl, l, hl, h⟩
      · exact h.elim
    · split at h
      · rename_i hc _ l hl
        injection hc with h1 h2 h3; subst h1; subst h2; subst h3
        exact .inl ⟨rfl, .inr rfl, l, hl, h⟩
      · exact h.elim
    · rename_i hc
      injection hc with h1 h2 h3; subst h1; subst h2; subst h3
      exact .inr ⟨_, _, .inl rfl, rfl, stand _ _ _ _ pre post hp hl (hst 0 (by simp [stands])) h⟩
    · rename_i hc
      injection hc with h1 h2 h3; subst h1; subst h2; subst h3
      exact .inr ⟨_, _, .inr rfl, rfl, stand _ _ _ _ pre post hp hl (hst 0 (by simp [stands])) h⟩
    · exact h.elim
    · rename_i hc; cases hc
    · rename_i hc; cases hc
  | br c t e iht ihe =>
    intro i pre post hp hl hst h
    have lt : ∀ n, n < (stands t).length → (standsAt t)[n]? = (post[n]?).map (headOf hs) := fun n hn => by
      have := hst n (by simp only [stands, List.length_append]; omega)
      simp only [standsAt, stands, List.map_append] at this
      rwa [List.getElem?_append_left (by simpa using hn)] at this
    have hlen : (stands t).length ≤ post.length := by
      rcases Nat.lt_or_ge post.length (stands t).length with h0 | h0
      · have := lt post.length h0
        rw [List.getElem?_eq_none (Nat.le_refl _), Option.map_none, List.getElem?_eq_none_iff, standsAt, List.length_map] at this
        omega
      · exact h0
    constructor
    · intro hc
      exact iht i pre post hp hl lt (h.1 hc)
    · intro hc
      refine ihe _ (pre ++ post.take (stands t).length) (post.drop (stands t).length) (by rw [List.append_assoc, List.take_append_drop]; exact hp) (by rw [List.length_append, List.length_take, Nat.min_eq_left hlen, hl]) (fun n hn => ?_) (h.2 hc)
      have := hst ((stands t).length + n) (by simp only [stands, List.length_append]; omega)
      simp only [standsAt, stands, List.map_append] at this
      rw [List.getElem?_append_right (by simp), List.length_map, Nat.add_sub_cancel_left] at this
      rw [List.getElem?_drop]
      exact this
  | need c t iht => intro i pre post hp hl hst h; exact ⟨h.1, iht i pre post hp hl hst h.2⟩

/-- From a walk's places to what is to be shown of the run. -/
theorem leaf_wp {fn : Func} {hs : List Head} {A : Nat → List (Nat × E) → Prop} {F : Value → Prop} {ρ : Env} {B : Nat} {w0 : World}
    (hh : ∀ j h asg, hs[j]? = some h → A j asg → ∀ β a w, Inv P B w0 (nxt h.N asg ρ) β h.S a w → LoopsIn P h.c (wpK P (retPost P fn B w0 F) h.k) a w) {k : List K} {x : X} {st : St} (h : LeafOk P fn hs A F ρ k x st) :
    ∀ β a w, Inv P B w0 ρ β st a w → wpK P (retPost P fn B w0 F) k x.to a w := by
  intro β a w hi
  rcases h with ⟨rfl, hx, l, hl, hF⟩ | ⟨c, k', hk, rfl, j, hd, asg, h1, rfl, rfl, h2, h3⟩
  · exact end_ret hx hl hF hi
  · have := hh j hd asg h1 h3 β a w (inv_nxt h2 hi)
    rcases hk with rfl | rfl
    · exact this.wp
    · exact this

def lexLt (a b : Nat × Nat) : Prop := a.1 < b.1 ∨ (a.1 = b.1 ∧ a.2 < b.2)
theorem lexLt_wf : WellFounded lexLt := by
  refine ⟨fun a => ?_⟩
  obtain ⟨a, b⟩ := a
  induction a using Nat.strongRecOn generalizing b with
  | _ a iha =>
    induction b using Nat.strongRecOn with
    | _ b ihb =>
      refine ⟨_, ?_⟩
      rintro ⟨c, d⟩ (h | ⟨h, h'⟩)
      · exact iha c h d
      · simp only at h h'
        subst h
        exact ihb d h'

def nOf (hs : List Head) (j : Nat) : Nat := match hs[j]? with
  | some h => h.N
  | none => 0
theorem nOf_eq {hs : List Head} {j : Nat} {h : Head} (hj : hs[j]? = some h) : nOf hs j = h.N := by simp [nOf, hj]

/-- **Loops.** 'I j': what holds of the environment at head j; 'm j': what falls from head to head. -/
theorem heads_ok {B : Nat} {w0 : World} {Γ : List Con} (hΓ : ∀ x ∈ Γ, x.holds P) {fn : Func} {hs : List Head} {F : Value → Prop} (n : Nat) (I : Nat → Env → Prop) (m : Nat → Env → Nat × Nat)
    (hstep : ∀ j h, hs[j]? = some h → ∀ ρ, ρ.fns = Γ → I j ρ →
      (exec P Γ false n (.code h.c :: .inLoop h.c :: h.k) h.S).ok ρ (LeafOk P fn hs (fun j' asg => I j' (nxt (nOf hs j') asg ρ) ∧ lexLt (m j' (nxt (nOf hs j') asg ρ)) (m j ρ)) F ρ)) :
    ∀ j h, hs[j]? = some h → ∀ ρ, ρ.fns = Γ → I j ρ → ∀ β a w, Inv P B w0 ρ β h.S a w → LoopsIn P h.c (wpK P (retPost P fn B w0 F) h.k) a w := by
  have main : ∀ (d : Nat × Nat) (j : Nat) (h : Head) (ρ : Env), m j ρ = d → hs[j]? = some h → ρ.fns = Γ → I j ρ → ∀ β a w, Inv P B w0 ρ β h.S a w → LoopsIn P h.c (wpK P (retPost P fn B w0 F) h.k) a w := by
    intro d
    induction d using lexLt_wf.induction with
    | _ d ih =>
      intro j h ρ hm hj hf hI β a w hi
      have hs0 := hstep j h hj ρ hf hI
      subst hf
      have hG : ∀ (k' : List K) (x : X) (st : St), LeafOk P fn hs (fun j' asg => I j' (nxt (nOf hs j') asg ρ) ∧ lexLt (m j' (nxt (nOf hs j') asg ρ)) (m j ρ)) F ρ k' x st → ∀ β a w, Inv P B w0 ρ β st a w → wpK P (retPost P fn B w0 F) k' x.to a w :=
        fun k' x st hl => leaf_wp (fun j' h' asg hj' hA β a w hi' => by
          obtain ⟨h1, h2⟩ := hA
          rw [nOf_eq hj'] at h1 h2
          exact ih _ (by rw [← hm]; exact h2) j' h' (nxt h'.N asg ρ) rfl hj' rfl h1 β a w hi') hl
      have := exec_ok hΓ hG n (.code h.c :: .inLoop h.c :: h.k) h.S hs0 β a w hi hG
      exact loops_of_wp this
  exact fun j h hj ρ => main (m j ρ) j h ρ rfl hj

/-- The pattern of a loop's head: slots that its body writes are atoms from N on; those that hold nothing yet are dead. -/
def Code.writes : Code → List Nat
  | .seq a b => Code.writes a ++ Code.writes b
  | .cond _ a b => Code.writes a ++ Code.writes b
  | .block _ b => Code.writes b
  | .loop b => Code.writes b
  | .scope b => Code.writes b
  | .region _ ops _ => dstsOf ops.toList
  | _ => []
def freshEs : Nat → List E → List E × Nat
  | N, [] => ([], N)
  | N, e :: es => let r := freshEs (N + 1) es; (.atom e.ty N :: r.1, r.2)
def hasN (l : List Nat) (n : Nat) : Bool := l.any (Nat.beq n)
def havocSls (ws : List Nat) : Nat → Nat → List Sl → List Sl × Nat
  | _, N, [] => ([], N)
  | i, N, s :: rest =>
    if hasN ws i then match s with
      | .full (.sv (.one e)) => let r := havocSls ws (i + 1) (N + 1) rest; (.full (.sv (.one (.atom e.ty N))) :: r.1, r.2)
      | .full (.sv (.agg l)) => let q := freshEs N l; let r := havocSls ws (i + 1) q.2 rest; (.full (.sv (.agg q.1)) :: r.1, r.2)
      | _ => let r := havocSls ws (i + 1) N rest; (.dead :: r.1, r.2)
    else let r := havocSls ws (i + 1) N rest
      ((match s with | .may _ _ _ => .dead | .full (.tup _) => .dead | .full (.rp _ _ _ _) => .dead | s => s) :: r.1, r.2)
def havocMem (bs : List Nat) : Nat → Nat → List (List E × Nat) → List (List E × Nat) × Nat
  | _, N, [] => ([], N)
  | i, N, (c, T) :: rest => if hasN bs i then let q := freshEs N c; let r := havocMem bs (i + 1) q.2 rest; ((q.1, T) :: r.1, r.2) else let r := havocMem bs (i + 1) N rest; ((c, T) :: r.1, r.2)
/-- Slots 'ds' are dropped besides. -/
def headAt (ds bs : List Nat) (N : Nat) (x : Code × List K × St) : Head × Nat :=
  let t := havocSls (Code.writes x.1) 0 N (x.2.2.tmps.zipIdx.map fun p => if hasN ds p.2 then .dead else p.1)
  let q := havocMem bs 0 t.2 x.2.2.mem
  ({ c := x.1, k := x.2.1, S := { tmps := t.1, mem := q.1, mg := x.2.2.mg, ins := x.2.2.ins }, N := N }, q.2)
def standAt (t : T) (i : Nat) : Code × List K × St := ((stands t)[i]?).getD (.skip, [], ⟨[], [], false, []⟩)

/-- The walk from a head. -/
def Head.walk (P : Program) (Γ : List Con) (n : Nat) (h : Head) : T := exec P Γ false n (.code h.c :: .inLoop h.c :: h.k) h.S
def walk0 (P : Program) (Γ : List Con) (n : Nat) (fn : Func) (params : List (Option Nat × List Ty)) : T := exec P Γ false n [.code (fn.body.getD .skip)] (startSt fn (symArgs 0 params))

theorem Env.agree.trans {N : Nat} {a b c : Env} (h : a.agree N b) (h' : b.agree N c) : a.agree N c :=
  ⟨fun n hn => (h.i n hn).trans (h'.i n hn), fun n hn => (h.b n hn).trans (h'.b n hn), fun n hn => (h.v n hn).trans (h'.v n hn), h.fns.trans h'.fns, h.sl.trans h'.sl⟩
theorem Env.agree.low {N M : Nat} {a b : Env} (h : a.agree N b) (hm : M ≤ N) : a.agree M b :=
  ⟨fun n hn => h.i n (by omega), fun n hn => h.b n (by omega), fun n hn => h.v n (by omega), h.fns, h.sl⟩

theorem GT.ok_mono {ρ : Env} {A A' : Nat → List (Nat × E) → Prop} {F : Value → Prop} (h : ∀ j asg, A j asg → A' j asg) : ∀ {t : GT}, t.ok ρ A F → t.ok ρ A' F
  | .val _, ht => ht
  | .goto _ _, ht => h _ _ ht
  | .br _ _ _, ht => ⟨fun hc => GT.ok_mono h (ht.1 hc), fun hc => GT.ok_mono h (ht.2 hc)⟩
  | .need _ _, ht => ⟨ht.1, GT.ok_mono h ht.2⟩
  | .bad, ht => ht

/-- **A function with loops has its contract.** The atoms under M are the arguments. -/
theorem con_of_heads {x : Con} {Γ : List Con} (hΓ : ∀ y ∈ Γ, y.holds P) (n M : Nat) {fn : Func} (hf : P.funcs[x.f]? = some fn) (hb : fn.body.isSome = true) (hp : paramsOk x.params = true) (hs : List Head) (tgt0 : List Nat) (tgts : List (List Nat))
    (hM : ∀ j, M ≤ nOf hs j ∨ hs.length ≤ j)
    (hs0 : standsAt (walk0 P Γ n fn x.params) = tgt0.map (headOf hs)) (hsj : hs.map (fun h => standsAt (h.walk P Γ n)) = tgts.map (List.map (headOf hs)))
    (I : Nat → Env → Prop) (m : Nat → Env → Nat × Nat)
    (h0 : ∀ cs, typed (x.params.flatMap (·.2)) cs → ((walk0 P Γ n fn x.params).gr P fn hs tgt0 0).ok (envOf Γ cs) (fun j asg => I j (nxt (nOf hs j) asg (envOf Γ cs))) (fun v => v = x.out cs))
    (hj : ∀ cs, typed (x.params.flatMap (·.2)) cs → ∀ j h tgt, hs[j]? = some h → tgts[j]? = some tgt → ∀ ρ, ρ.agree M (envOf Γ cs) → I j ρ →
      ((h.walk P Γ n).gr P fn hs tgt 0).ok ρ (fun j' asg => I j' (nxt (nOf hs j') asg ρ) ∧ lexLt (m j' (nxt (nOf hs j') asg ρ)) (m j ρ)) (fun v => v = x.out cs)) : x.holds P := by
  have stand : ∀ (t : T) (tgt : List Nat), standsAt t = tgt.map (headOf hs) → ∀ n, n < (stands t).length → (standsAt t)[n]? = (tgt[n]?).map (headOf hs) := fun t tgt h n _ => by rw [h, List.getElem?_map]
  have ag : ∀ {j : Nat} {h : Head} (ρ : Env) (asg : List (Nat × E)), hs[j]? = some h → (nxt (nOf hs j) asg ρ).agree M ρ := fun {j h} ρ asg hj => by
    rcases hM j with h1 | h1
    · exact (nxt_agree _ asg ρ).low h1
    · rw [List.getElem?_eq_none h1] at hj; cases hj
  intro cs hc w
  obtain ⟨c, hcb⟩ := Option.isSome_iff_exists.1 hb
  have h3 := symArgs_den Γ x.params [] cs hp hc
  simp only [List.nil_append, List.length_nil] at h3
  have step : ∀ j h, hs[j]? = some h → ∀ ρ, ρ.fns = Γ → (ρ.agree M (envOf Γ cs) ∧ I j ρ) →
      (exec P Γ false n (.code h.c :: .inLoop h.c :: h.k) h.S).ok ρ (LeafOk P fn hs (fun j' asg => ((j' < hs.length → (nxt (nOf hs j') asg ρ).agree M (envOf Γ cs)) ∧ I j' (nxt (nOf hs j') asg ρ)) ∧ lexLt (m j' (nxt (nOf hs j') asg ρ)) (m j ρ)) (fun v => v = x.out cs) ρ) := by
    rintro j h hjh ρ hρ ⟨hag, hI⟩
    have hlen : j < tgts.length := by
      have := congrArg List.length hsj
      simp only [List.length_map] at this
      rw [← this]; exact (List.getElem?_eq_some_iff.1 hjh).1
    have htg : tgts[j]? = some tgts[j] := List.getElem?_eq_getElem hlen
    have hst : standsAt (h.walk P Γ n) = tgts[j].map (headOf hs) := by
      have := congrArg (fun l => l[j]?) hsj
      simp only [List.getElem?_map, hjh, htg, Option.map_some, Option.some.injEq] at this
      exact this
    refine gr_ok _ 0 [] tgts[j] rfl rfl (stand _ _ hst) (GT.ok_mono ?_ (hj cs hc j h _ hjh htg ρ hag hI))
    rintro j' asg ⟨h1, h2⟩
    exact ⟨⟨fun hl => (ag ρ asg (List.getElem?_eq_getElem hl)).trans hag, h1⟩, h2⟩
  have := calls_of_wpK (ρ := envOf Γ cs) (P := P) (R := fun e w' => ∃ v, e = .returned v ∧ v = x.out cs ∧ Below w.heap.size w w') hf hcb (args := symArgs 0 x.params) w (fun a hi => by
    have hw : walk0 P Γ n fn x.params = exec P Γ false n [.code c] (startSt fn (symArgs 0 x.params)) := by simp [walk0, hcb]
    have g0 := gr_ok _ 0 [] tgt0 rfl rfl (stand _ _ hs0) (h0 cs hc)
    have hG := fun (k' : List K) (x' : X) (st : St) (hl : LeafOk P fn hs (fun j asg => I j (nxt (nOf hs j) asg (envOf Γ cs))) (fun v => v = x.out cs) (envOf Γ cs) k' x' st) =>
      leaf_wp (P := P) (B := w.heap.size) (w0 := w) (fun j h asg hj' hA β a w' hi' =>
        heads_ok hΓ n (fun j ρ => (j < hs.length → ρ.agree M (envOf Γ cs)) ∧ I j ρ) m (fun j h hjh ρ hρ hI => step j h hjh ρ hρ ⟨hI.1 (List.getElem?_eq_some_iff.1 hjh).1, hI.2⟩) j h hj' (nxt h.N asg (envOf Γ cs)) rfl
          (by rw [← nOf_eq hj']; exact ⟨fun _ => ag _ asg hj', hA⟩) β a w' hi') hl
    rw [hw] at g0
    exact exec_ok hΓ hG n [.code c] _ g0 (fun _ => 0) a w hi hG)
  rw [h3] at this
  exact this.mono fun e w' ⟨v, he, hv, hb⟩ => ⟨by rw [he, hv], hb⟩

/-! For the printing tool: what tells one head from another. -/
def printK : List K → List Nat
  | [] => []
  | .inBlock id :: k => (id + 1) :: printK k
  | _ :: k => 0 :: printK k
def Code.first : Code → Nat
  | .region id _ _ => id + 1
  | .seq a _ => Code.first a
  | .block id _ => id + 1
  | .cond _ a _ => Code.first a
  | .loop b => Code.first b
  | .scope b => Code.first b
  | _ => 0
def printOf (t : T) : List (List Nat) := (stands t).map fun x => Code.first x.1 :: printK x.2.1
end Go.Sx
