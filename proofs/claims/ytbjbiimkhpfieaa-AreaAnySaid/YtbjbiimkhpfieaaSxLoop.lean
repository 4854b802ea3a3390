/- The symbolic executor: loops whose bounds are no literals. No conditions. -/
import Derived.Test.YtbjbiimkhpfieaaSxUse
namespace Go.Sx
open Go Go.RowKit
variable {P : Program}

/-- No atom from number N on is in it. -/
def E.under (N : Nat) : E → Bool
  | .atom _ n => Nat.blt n N
  | .int _ | .bool _ | .val _ | .nil => true
  | .add a b | .sub a b | .mul a b | .quo a b | .rem a b | .mx a b | .mn a b | .lt a b | .le a b | .eq a b | .beq a b | .and a b | .or a b | .cons a b => a.under N && b.under N
  | .not a => a.under N
  | .ite _ a b c => a.under N && b.under N && c.under N
  | .app _ _ _ a => a.under N
  | .get _ _ _ _ a => a.under N
  | .len _ _ => true
/-- Two environments tell the same of the atoms under N. -/
structure Env.agree (N : Nat) (ρ ρ' : Env) : Prop where
  i : ∀ n, n < N → ρ.i n = ρ'.i n
  b : ∀ n, n < N → ρ.b n = ρ'.b n
  v : ∀ n, n < N → ρ.v n = ρ'.v n
  fns : ρ.fns = ρ'.fns
  sl : ρ.sl = ρ'.sl
theorem E.dens_agree {N : Nat} {ρ ρ' : Env} (h : ρ.agree N ρ') : ∀ {x : E}, x.under N = true → x.dens ρ = x.dens ρ' := by
  intro x
  induction x with
  | atom t n =>
    intro hx
    have hn : n < N := by simpa [E.under, Nat.blt_eq] using hx
    cases t <;> simp [E.dens, h.i n hn, h.b n hn, h.v n hn]
  | int | bool | val | nil => intro _; rfl
  | not a ih => intro hx; simp only [E.under] at hx; simp only [E.dens, ih hx]
  | ite t a b c iha ihb ihc => intro hx; simp only [E.under, Bool.and_eq_true] at hx; cases t <;> simp only [E.dens, iha hx.1.1, ihb hx.1.2, ihc hx.2]
  | app t f j a ih => intro hx; simp only [E.under] at hx; simp only [E.dens, ih hx, h.fns]
  | get t n sz off a ih => intro hx; simp only [E.under] at hx; cases t <;> simp only [E.dens, ih hx, h.sl]
  | len n sz => intro _; simp only [E.dens, h.sl]
  | _ a b iha ihb => intro hx; simp only [E.under, Bool.and_eq_true] at hx; simp only [E.dens, iha hx.1, ihb hx.2]
theorem E.den_agree {N : Nat} {ρ ρ' : Env} (h : ρ.agree N ρ') {x : E} (hx : x.under N = true) : x.den ρ = x.den ρ' := by unfold E.den; rw [E.dens_agree h hx]

/-- What the loop's own atoms are in the next round: 'asg': for each of them the expression that the round leaves. -/
def nxt (N : Nat) (asg : List (Nat × E)) (ρ : Env) : Env :=
  { i := fun n => if n < N then ρ.i n else match asg.lookup n with | some e => intOf (e.den ρ) | none => 0
    b := fun n => if n < N then ρ.b n else match asg.lookup n with | some e => boolOf (e.den ρ) | none => false
    v := fun n => if n < N then ρ.v n else match asg.lookup n with | some e => e.den ρ | none => .nilIface
    fns := ρ.fns
    sl := ρ.sl }
theorem nxt_agree (N : Nat) (asg : List (Nat × E)) (ρ : Env) : (nxt N asg ρ).agree N ρ :=
  ⟨fun n h => by simp [nxt, h], fun n h => by simp [nxt, h], fun n h => by simp [nxt, h], rfl, rfl⟩

/-- The expression e is what the pattern p stands for. -/
def matchE (N : Nat) (asg : List (Nat × E)) (p e : E) : Bool :=
  match p with
  | .atom t n => if Nat.blt n N then p.same e else Ty.same t e.ty && (match asg.lookup n with | some e' => e'.same e | none => false)
  | p => p.under N && p.same e
theorem matchE_den {N : Nat} {asg : List (Nat × E)} {ρ : Env} {p e : E} (h : matchE N asg p e = true) : p.den (nxt N asg ρ) = e.den ρ := by
  have gen : p.under N = true → p.same e = true → p.den (nxt N asg ρ) = e.den ρ := fun h1 h2 => by
    rw [E.den_agree (nxt_agree N asg ρ) h1, E.same_eq h2]
  unfold matchE at h
  split at h
  · rename_i t n
    split at h
    · rename_i hn
      exact gen hn h
    · rename_i hn
      have hn : ¬ n < N := by simpa [Nat.blt_eq] using hn
      simp only [Bool.and_eq_true] at h
      obtain ⟨h1, h2⟩ := h
      have ht := Ty.same_eq h1
      split at h2
      · rename_i e' he
        have := E.same_eq h2
        subst this
        cases t with
        | i => rw [den_i ht.symm]; simp [E.den, E.dens, nxt, hn, he]
        | b => rw [den_b ht.symm]; simp [E.den, E.dens, nxt, hn, he]
        | v => simp [E.den, E.dens, nxt, hn, he]; exact oc_of_one (den_one e')
      · cases h2
  · simp only [Bool.and_eq_true] at h
    exact gen h.1 h.2
def matchEs (N : Nat) (asg : List (Nat × E)) : List E → List E → Bool
  | [], [] => true
  | p :: ps, e :: es => matchE N asg p e && matchEs N asg ps es
  | _, _ => false
theorem matchEs_den {N : Nat} {asg : List (Nat × E)} {ρ : Env} : ∀ {ps es : List E}, matchEs N asg ps es = true → ps.map (E.den (nxt N asg ρ)) = es.map (E.den ρ)
  | [], [], _ => rfl
  | [], _ :: _, h => by simp [matchEs] at h
  | _ :: _, [], h => by simp [matchEs] at h
  | p :: ps, e :: es, h => by
    simp only [matchEs, Bool.and_eq_true] at h
    rw [List.map_cons, List.map_cons, matchE_den h.1, matchEs_den h.2]
def matchS0 (N : Nat) (asg : List (Nat × E)) : S0 → S0 → Bool
  | .sv (.one p), .sv (.one e) => matchE N asg p e
  | .sv (.agg p), .sv (.agg e) => matchEs N asg p e
  | .ptr b o, .ptr b' o' => Nat.beq b b' && Nat.beq o o'
  | .clo f l, .clo f' l' => Nat.beq f f' && capsEq l l'
  | _, _ => false
def matchSl (N : Nat) (asg : List (Nat × E)) : Sl → Sl → Bool
  | .dead, _ => true
  | .full p, .full x => matchS0 N asg p x
  | _, _ => false
def matchSls (N : Nat) (asg : List (Nat × E)) : List Sl → List Sl → Bool
  | [], [] => true
  | p :: ps, e :: es => matchSl N asg p e && matchSls N asg ps es
  | _, _ => false
def lowSl (L : Nat) : Sl → Bool
  | .full (.ptr b _) => Nat.blt b L
  | .full (.clo _ l) => l.all fun p => Nat.blt p.1 L
  | _ => true
/-- (Blocks that came behind the pattern's own are let go.) -/
def matchMem (N : Nat) (asg : List (Nat × E)) : List (List E × Nat) → List (List E × Nat) → Bool
  | [], _ => true
  | (p, T) :: ps, (e, T') :: es => Nat.beq T T' && matchEs N asg p e && matchMem N asg ps es
  | _, _ => false
/-- The state st is what the pattern S stands for. -/
def matchSt (N : Nat) (asg : List (Nat × E)) (S st : St) : Bool := matchSls N asg S.tmps st.tmps && matchMem N asg S.mem st.mem && insEq S.ins st.ins && S.ins.all (fun s => Nat.blt s.n N && s.loc.isNone) && S.tmps.all (lowSl S.mem.length)

theorem matchSls_get {N : Nat} {asg : List (Nat × E)} : ∀ {ps es : List Sl}, matchSls N asg ps es = true → ps.length = es.length ∧ ∀ (i : Nat) (p : Sl), ps[i]? = some p → ∃ e, es[i]? = some e ∧ matchSl N asg p e = true
  | [], [], _ => ⟨rfl, fun i p h => by simp at h⟩
  | [], _ :: _, h => by simp [matchSls] at h
  | _ :: _, [], h => by simp [matchSls] at h
  | p :: ps, e :: es, h => by
    simp only [matchSls, Bool.and_eq_true] at h
    obtain ⟨h1, h2⟩ := matchSls_get h.2
    refine ⟨by simp [h1], fun i q hq => ?_⟩
    cases i with
    | zero => simp at hq; subst hq; exact ⟨e, by simp, h.1⟩
    | succ i => simp at hq; obtain ⟨e', h3, h4⟩ := h2 i q hq; exact ⟨e', by simpa using h3, h4⟩
theorem matchMem_get {N : Nat} {asg : List (Nat × E)} : ∀ {ps es : List (List E × Nat)}, matchMem N asg ps es = true → ps.length ≤ es.length ∧ ∀ (i : Nat) (c : List E) (T : Nat), ps[i]? = some (c, T) → ∃ e, es[i]? = some (e, T) ∧ matchEs N asg c e = true
  | [], _, _ => ⟨Nat.zero_le _, fun i p T h => by simp at h⟩
  | _ :: _, [], h => by simp [matchMem] at h
  | (p, T0) :: ps, (e, T1) :: es, h => by
    simp only [matchMem, Bool.and_eq_true] at h
    obtain ⟨h1, h2⟩ := matchMem_get h.2
    have hT := Nat.eq_of_beq_eq_true h.1.1
    refine ⟨by simpa using h1, fun i c T hq => ?_⟩
    cases i with
    | zero => simp at hq; obtain ⟨rfl, rfl⟩ := hq; exact ⟨e, by simp [hT], h.1.2⟩
    | succ i => simp at hq; obtain ⟨e', h3, h4⟩ := h2 i c T hq; exact ⟨e', by simpa using h3, h4⟩

theorem inv_nxt {B : Nat} {w0 : World} {ρ : Env} {β : Nat → Nat} {N : Nat} {asg : List (Nat × E)} {S st : St} {a : Act} {w : World} (h : matchSt N asg S st = true) (hi : Inv P B w0 ρ β st a w) : Inv P B w0 (nxt N asg ρ) β S a w := by
  simp only [matchSt, Bool.and_eq_true] at h
  obtain ⟨⟨⟨⟨h1, h2⟩, h3⟩, h4⟩, h5⟩ := h
  obtain ⟨l1, g1⟩ := matchSls_get h1
  obtain ⟨l2, g2⟩ := matchMem_get h2
  have hie := insEq_eq h3
  refine ⟨hi.defers, ⟨by rw [hi.fits.size, l1], fun i s hs => ?_⟩, fun k c T hk => ?_, fun i j hi1 hj1 => hi.inj i j (Nat.lt_of_lt_of_le hi1 l2) (Nat.lt_of_lt_of_le hj1 l2), fun i hi1 => hi.low i (Nat.lt_of_lt_of_le hi1 l2), hi.below, hi.base, fun s hs => ?_⟩
  · obtain ⟨s', hs', hm⟩ := g1 i s hs
    have ho := hi.fits.slot i s' hs'
    cases s with
    | dead => trivial
    | may t wnt x => simp [matchSl] at hm
    | full p =>
      cases s' with
      | dead => simp [matchSl] at hm
      | may t wnt x => simp [matchSl] at hm
      | full x =>
        simp only [matchSl] at hm
        obtain ⟨hv, _⟩ := ho
        have key : p.den (nxt N asg ρ) β = x.den ρ β ∧ p.low (· < S.mem.length) := by
          unfold matchS0 at hm
          split at hm
          · exact ⟨matchE_den hm, trivial⟩
          · exact ⟨by simp only [S0.den, SV.den]; rw [matchEs_den hm], trivial⟩
          · simp only [Bool.and_eq_true] at hm
            have e1 := Nat.eq_of_beq_eq_true hm.1
            have e2 := Nat.eq_of_beq_eq_true hm.2
            subst e1; subst e2
            have hb := List.all_eq_true.1 h5 _ (List.mem_of_getElem? hs)
            exact ⟨rfl, by simpa [lowSl, Nat.blt_eq, S0.low] using hb⟩
          · simp only [Bool.and_eq_true] at hm
            have e1 := Nat.eq_of_beq_eq_true hm.1
            have e2 := capsEq_eq hm.2
            subst e1; subst e2
            have hb := List.all_eq_true.1 h5 _ (List.mem_of_getElem? hs)
            exact ⟨rfl, fun q hq => by
              have := List.all_eq_true.1 (show (List.all _ fun q : Nat × Nat => Nat.blt q.1 S.mem.length) = true from hb) q hq
              simpa [Nat.blt_eq] using this⟩
          · cases hm
        exact ⟨by rw [hv, key.1], key.2⟩
  · obtain ⟨e, he, hm⟩ := g2 k c T hk
    rw [hi.mem k e T he, matchEs_den hm]
  · have hall := List.all_eq_true.1 h4 s hs
    rw [Bool.and_eq_true] at hall
    have hlt : s.n < N := by simpa [Nat.blt_eq] using hall.1
    have hl : s.loc = none := by simpa using hall.2
    have hat := hi.ins s (by rw [← hie]; exact hs)
    unfold InAt at *
    rw [hl] at *
    obtain ⟨A, len, cp, e1, e2, e3, e4⟩ := hat
    exact ⟨A, len, cp, by rw [(nxt_agree N asg ρ).v _ hlt]; exact e1, e2, e3, e4⟩

/-- **A loop.** 'I': what holds of the environment at the loop's head; 'm': what falls from round to round; 'F': how else a round may end. -/
theorem loop_rule {B : Nat} {w0 : World} {Γ : List Con} (hΓ : ∀ x ∈ Γ, x.holds P) {Q : Exit → Act → World → Prop} {c : Code} {k : List K} {S : St} {N n : Nat} (I : Env → Prop) (m : Env → Nat) {F : Env → X → St → Prop}
    (hF : ∀ ρ, ρ.fns = Γ → ∀ x st, x ≠ .normal → F ρ x st → ∀ β a w, Inv P B w0 ρ β st a w → wpK P Q (.inLoop c :: k) x.to a w)
    (hstep : ∀ ρ, ρ.fns = Γ → I ρ → (exec P Γ false n [.code c] S).ok ρ (fun k' x st => k' = [] ∧ ((x = .normal ∧ ∃ asg, matchSt N asg S st = true ∧ I (nxt N asg ρ) ∧ m (nxt N asg ρ) < m ρ) ∨ (x ≠ .normal ∧ F ρ x st)))) :
    ∀ ρ, ρ.fns = Γ → I ρ → ∀ β a w, Inv P B w0 ρ β S a w → wpK P Q (.inLoop c :: k) .normal a w := by
  have main : ∀ (d : Nat) (ρ : Env), m ρ = d → ρ.fns = Γ → I ρ → ∀ β a w, Inv P B w0 ρ β S a w → wpK P Q (.inLoop c :: k) .normal a w := by
    intro d
    induction d using Nat.strongRecOn with
    | _ d ih =>
      intro ρ hm hf hI β a w hi
      have hs := hstep ρ hf hI
      have hG : ∀ (k' : List K) (x : X) (st : St), (k' = [] ∧ ((x = .normal ∧ ∃ asg, matchSt N asg S st = true ∧ I (nxt N asg ρ) ∧ m (nxt N asg ρ) < m ρ) ∨ (x ≠ .normal ∧ F ρ x st))) → ∀ β a w, Inv P B w0 ρ β st a w →
          wpK P (wpK P Q (.inLoop c :: k)) k' x.to a w := by
        rintro k' x st ⟨rfl, ⟨rfl, asg, h1, h2, h3⟩ | ⟨h1, h2⟩⟩ β a w hi
        · exact ih _ (by rw [← hm]; exact h3) (nxt N asg ρ) rfl hf h2 β a w (inv_nxt h1 hi)
        · exact hF ρ hf x st h1 h2 β a w hi
      subst hf
      have h := exec_ok hΓ hG n [.code c] S hs β a w hi hG
      exact loops_of_wp h
  exact fun ρ => main (m ρ) ρ rfl
end Go.Sx
