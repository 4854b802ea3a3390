/- The symbolic executor: what it tells of a function is what every call of it returns. No conditions. -/
import Derived.Test.YtpbpbijjkmjjjaaSxReg5
namespace Go.Sx
open Go Go.RowKit
variable {ρ : Env} {P : Program}

section
variable {B : Nat} {w0 : World} {β : Nat → Nat}

/-- The worlds in which a region that draws its order is walked. -/
def Cls (B : Nat) (w0 : World) (ρ : Env) (β : Nat → Nat) (mem : List (List E × Nat)) (w : World) : Prop := MemOk ρ β mem w ∧ Below B w0 w ∧ B ≤ w.heap.size

theorem quiet_pure {mem : List (List E × Nat)} {st : St} {a : Act} {o : Oper} {g : Option (Nat × Bool)} {x : S0} {K : Act → Prop} (hmem : st.mem = mem) (hf : Fits ρ β st a.tmps) (hg : gOk a.tmps g)
    (hp : pureOp P st g o.op = some (x, [])) (hK : K (a.put o.dst (x.den ρ β))) : o.quiet P a (Cls B w0 ρ β mem) K := by
  subst hmem
  refine ⟨x.den ρ β, fun w hw => ?_, hK⟩
  unfold Oper.quietAt
  rw [(pureOp_ok hf hw.1 hg hp (by simp)).1]
  exact ⟨rfl, rfl⟩

theorem quiet_call {mem : List (List E × Nat)} {st : St} {a : Act} {o : Oper} {g : Option (Nat × Bool)} {f : Nat} {l : List SV} {x : S0} {K : Act → Prop} (hΓ : ∀ x ∈ ρ.fns, x.holds P) (hf : Fits ρ β st a.tmps) (hg : gOk a.tmps g)
    (hp : callOp P ρ.fns st g o.op = some (f, l, x)) (hK : K (a.put o.dst (x.den ρ β))) : o.quiet P a (Cls B w0 ρ β mem) K := by
  refine ⟨x.den ρ β, fun w hw => ?_, hK⟩
  obtain ⟨h1, h2, h3⟩ := callOp_ok (β := β) (w := w) hf hg hΓ hp
  unfold Oper.quietAt
  rw [h1]
  exact ⟨rfl, (h3 w).mono fun e w' ⟨he, hb⟩ => ⟨he, hw.1.below hb, hw.2.1.trans (hb.mono hw.2.2), Nat.le_trans hw.2.2 hb.size⟩⟩

theorem quietOps_ok (hΓ : ∀ x ∈ ρ.fns, x.holds P) {all : Array Oper} {mem : List (List E × Nat)} {Qf : Act → Prop} : ∀ {l : List Oper} {st st' : St} {a : Act}, quietOps P ρ.fns all l st = some st' → st.mem = mem → Fits ρ β st a.tmps → a.defers = [] →
    (st'.mem = mem → ∀ a', Fits ρ β st' a'.tmps → a'.defers = [] → Qf a') → wpQuiet P all (Cls B w0 ρ β mem) Qf l a
  | [], st, st', a, h, hm, hf, hd, hQ => by
    simp only [quietOps, Option.some.injEq] at h
    subst h
    exact hQ hm a hf hd
  | o :: rest, st, st', a, h, hm, hf, hd, hQ => by
    refine wpQuiet_step fun K hK => ?_
    have go : ∀ {s : Sl} {v : Value}, quietOps P ρ.fns all rest (st.put o.dst s) = some st' → slotOk ρ β (· < st.mem.length) a.tmps s v → K (a.put o.dst v) := by
      intro s v hq hs
      exact hK _ (quietOps_ok hΓ hq (by rw [put_mem]; exact hm) (fits_put hf o.dst hs) (by rw [put_defers]; exact hd) hQ)
    simp only [quietOps] at h
    split at h
    · cases h
    · rename_i hg
      rw [if_neg (by rw [guardOf_no hf hg]; exact Bool.false_ne_true)]
      exact go h trivial
    · rename_i hg
      rw [if_pos (guardOf_yes hf hg)]
      split at h
      · rename_i x hp
        exact quiet_pure (g := none) hm hf trivial hp (go h ⟨rfl, pureOp_low hf hp⟩)
      · cases h
      · split at h
        · rename_i f l x hp
          exact quiet_call (g := none) hΓ hf trivial hp (go h ⟨rfl, callOp_low hp _⟩)
        · cases h
    · rename_i t want hg
      have hw := guardOf_undecided (a := a) hg
      by_cases hb : a.tmps.getD t undef = .bool want
      · rw [if_pos (hw.2 hb)]
        split at h
        · rename_i x hp
          exact quiet_pure (g := some (t, want)) hm hf hb hp (go h ⟨pureOp_low hf hp, fun _ => rfl⟩)
        · cases h
        · split at h
          · rename_i f l x hp
            exact quiet_call (g := some (t, want)) hΓ hf hb hp (go h ⟨callOp_low hp _, fun _ => rfl⟩)
          · cases h
      · rw [if_neg (fun e => hb (hw.1 e))]
        split at h
        · rename_i x hp
          exact go h ⟨pureOp_low hf hp, fun hc => absurd hc hb⟩
        · cases h
        · split at h
          · rename_i f l x hp
            exact go h ⟨callOp_low hp _, fun hc => absurd hc hb⟩
          · cases h

theorem quietOps_ins {Γ : List Con} {all : Array Oper} : ∀ {l : List Oper} {st st' : St}, quietOps P Γ all l st = some st' → st'.ins = st.ins
  | [], st, st', h => by simp only [quietOps, Option.some.injEq] at h; rw [h]
  | o :: rest, st, st', h => by
    unfold quietOps at h
    split at h
    · cases h
    · rw [quietOps_ins h, put_ins]
    · split at h
      · rw [quietOps_ins h, put_ins]
      · cases h
      · split at h
        · rw [quietOps_ins h, put_ins]
        · cases h
    · split at h
      · rw [quietOps_ins h, put_ins]
      · cases h
      · split at h
        · rw [quietOps_ins h, put_ins]
        · cases h

theorem region_ok (hΓ : ∀ x ∈ ρ.fns, x.holds P) {id : Nat} {ops : Array Oper} {st st' : St} {a : Act} {w : World} {Q : Exit → Act → World → Prop} (h : Inv P B w0 ρ β st a w) (hm : P.follows .mixedOrders = true) (hB : Region.lexB .any ops = true)
    (hq : quietOps P ρ.fns ops ops.toList st = some st') (hK : ∀ a' w', st'.mem = st.mem → Inv P B w0 ρ β st' a' w' → Q .normal a' w') : (Code.region id ops true).wp P Q a w := by
  refine wp_region_quiet (C := Cls B w0 ρ β st.mem) hm hB ⟨h.mem, h.below.drew, h.base⟩ ?_
  refine quietOps_ok hΓ hq rfl h.fits h.defers fun hmem a' hf hd w' hw => hK a' w' hmem ?_
  exact ⟨hd, hf, by rw [hmem]; exact hw.1, by rw [hmem]; exact h.inj, by rw [hmem]; exact h.low, hw.2.1, hw.2.2, by rw [quietOps_ins hq]; exact h.ins⟩

theorem learn_mem (st : St) (c : Operand) (b : Bool) : (learn st c b).mem = st.mem := by unfold learn; split <;> rfl
theorem learn_ok {st : St} {a : Act} {w : World} (h : Inv P B w0 ρ β st a w) {c : Operand} {b : Bool} (hc : a.eval c = .bool b) : Inv P B w0 ρ β (learn st c b) a w := by
  unfold learn
  split
  · rename_i t
    refine ⟨h.defers, ⟨by simpa using h.fits.size, fun i s hi => ?_⟩, h.mem, h.inj, h.low, h.below, h.base, h.ins⟩
    simp only at hi
    by_cases hit : t = i
    · subst hit
      rw [List.getElem?_set_self'] at hi
      simp only [Option.map_eq_map, Option.map_eq_some_iff] at hi
      obtain ⟨s0, hs0, rfl⟩ := hi
      exact ⟨hc, trivial⟩
    · rw [List.getElem?_set_ne hit] at hi
      exact h.fits.slot i s hi
  · exact h

theorem ok_needAll {F : List K → X → St → Prop} {t : T} : ∀ {l : List E}, (needAll l t).ok ρ F → (∀ c ∈ l, boolOf (c.den ρ) = true) ∧ t.ok ρ F
  | [], h => ⟨by simp, h⟩
  | c :: l, h => by
    cases c with
    | bool b =>
      cases b with
      | true =>
        obtain ⟨h1, h2⟩ := ok_needAll (l := l) h
        exact ⟨by simpa using h1, h2⟩
      | false => exact absurd h.1 (by simp)
    | _ =>
      obtain ⟨h0, h⟩ := h
      obtain ⟨h1, h2⟩ := ok_needAll (l := l) h
      exact ⟨by simp only [List.mem_cons, forall_eq_or_imp]; exact ⟨h0, h1⟩, h2⟩
end

def resOne (tm : Array Value) : ResultVar → Sem Value
  | .tmp t => pure (tm.getD t undef)
  | .cell b t => do loadVar t (← asAddr (tm.getD b undef))
theorem results_eq (fn : Func) (tm : Array Value) : results fn tm = (do
    let vs ← fn.results.mapM (resOne tm)
    pure (if h : vs.size = 1 then vs[0] else .tuple vs)) := by
  unfold results
  congr 1

theorem resultE_ok {B : Nat} {w0 : World} {β : Nat → Nat} {st : St} {a : Act} {w : World} (h : Inv P B w0 ρ β st a w) {r : ResultVar} {v : SV} (hr : resultE P st r = some v) :
    (resOne a.tmps r).run P w = .ok (v.den ρ) w := by
  cases r with
  | tmp t =>
    simp only [resultE] at hr
    split at hr
    · rename_i v hv
      injection hr with hr; subst hr
      have := (h.fits.slot _ _ hv).1
      simp only [resOne, this, S0.den, Sem.run_pure]
    · cases hr
  | cell b t =>
    simp only [resultE] at hr
    split at hr
    · rename_i b o hp
      split at hr
      · rename_i cells T hm
        have := (h.fits.slot _ _ hp).1
        simp only [resOne, this, S0.den, Sem.run_bind, asAddr, Sem.run_pure, Result.andThen_ok]
        exact loadVar_run (h.mem b) hm hr
      · cases hr
    · cases hr

theorem resultsE_ok {B : Nat} {w0 : World} {β : Nat → Nat} {st : St} {a : Act} {w : World} (h : Inv P B w0 ρ β st a w) : ∀ {rs : List ResultVar} {l : List SV}, resultsE P st rs = some l →
    (rs.mapM (resOne a.tmps)).run P w = .ok (l.map (SV.den ρ)) w
  | [], l, hr => by simp only [resultsE, Option.some.injEq] at hr; subst hr; rfl
  | r :: rs, l, hr => by
    simp only [resultsE] at hr
    split at hr
    · rename_i v l' hv hl
      injection hr with hr; subst hr
      have h1 := resultE_ok h hv
      have h2 := resultsE_ok h hl
      simp only [List.mapM_cons, Sem.run_bind, h1, h2, Sem.run_pure, List.map_cons, Result.andThen_ok]
    · cases hr

theorem results_ok {B : Nat} {w0 : World} {β : Nat → Nat} {fn : Func} {st : St} {a : Act} {w : World} (h : Inv P B w0 ρ β st a w) {l : List SV} (hr : resultsE P st fn.results.toList = some l) :
    (results fn a.tmps).run P w = .ok (resVal ρ l) w := by
  have h1 := resultsE_ok h hr
  rw [results_eq, Sem.run_bind]
  have h2 : (fn.results.mapM (resOne a.tmps)).run P w = .ok (l.map (SV.den ρ)).toArray w := by
    rw [← Array.toArray_toList (xs := fn.results), List.mapM_toArray, Sem.run_map, h1]
    rfl
  rw [h2]
  simp only [Result.andThen_ok, Sem.run_pure]
  congr 1
  match l with
  | [] => rfl
  | [x] => rfl
  | x :: y :: l => simp [resVal]

theorem bindR_ok {fn : Func} {stuck : T} {cont : S0 → List (List E × Nat) → T} {F : List K → X → St → Prop} : ∀ (t : T), (bindR P fn stuck cont t).ok ρ F →
    stuck.ok ρ F ∨ t.ok ρ (fun k x st => k = [] ∧ (x = .normal ∨ x = .ret) ∧ ∃ l, resultsE P st fn.results.toList = some l ∧ (cont (resS0 l) st.mem).ok ρ F) := by
  intro t
  induction t with
  | leaf k x st =>
    intro ht
    unfold bindR at ht
    split at ht
    · split at ht
      · rename_i hc _ l hl
        injection hc with h1 h2 h3; subst h1; subst h2; subst h3
        exact .inr ⟨rfl, .inl rfl, l, hl, ht⟩
      · exact .inl ht
    · split at ht
      · rename_i hc _ l hl
        injection hc with h1 h2 h3; subst h1; subst h2; subst h3
        exact .inr ⟨rfl, .inr rfl, l, hl, ht⟩
      · exact .inl ht
    · exact .inl ht
    · rename_i hc; cases hc
    · rename_i hc; cases hc
  | br c t e iht ihe =>
    intro ht
    cases hc : boolOf (c.den ρ) with
    | true =>
      rcases iht (ht.1 hc) with h | h
      · exact .inl h
      · exact .inr ⟨fun _ => h, fun h0 => by rw [hc] at h0; cases h0⟩
    | false =>
      rcases ihe (ht.2 hc) with h | h
      · exact .inl h
      · exact .inr ⟨fun h0 => (by rw [hc] at h0; cases h0), fun _ => h⟩
  | need c t iht =>
    intro ht
    rcases iht ht.2 with h | h
    · exact .inl h
    · exact .inr ⟨ht.1, h⟩

theorem s0s_ok {β : Nat → Nat} {st : St} {a : Act} (hf : Fits ρ β st a.tmps) : ∀ {l : List Operand} {r : List S0}, s0s st l = some r → l.map a.eval = r.map (S0.den ρ β) ∧ ∀ x ∈ r, x.low (· < st.mem.length)
  | [], r, h => by simp only [s0s, Option.some.injEq] at h; subst h; exact ⟨rfl, fun p hp => by cases hp⟩
  | x :: l, r, h => by
    simp only [s0s] at h
    split at h
    · cases h
    · rename_i v l' hnt hv hl
      injection h with h; subst h
      obtain ⟨h1, h2⟩ := opnd_ok hf hv (g := none) (h := none) trivial trivial
      obtain ⟨h3, h4⟩ := s0s_ok hf hl
      refine ⟨by simp only [List.map_cons, h1, h3], fun p hp => ?_⟩
      rcases List.mem_cons.1 hp with rfl | hp
      · exact h2
      · exact h4 p hp
    · cases h

theorem inlineAt_ok {β : Nat → Nat} {st : St} {a : Act} {all : Array Oper} {o : Oper} {f : Nat} {fn : Func} {b : Code} {args : List S0} (hf : Fits ρ β st a.tmps) (h : inlineAt P st all o = some (f, fn, b, args)) :
    guardOf st all o = .yes ∧ P.funcs[f]? = some fn ∧ fn.body = some b ∧ args.length ≤ fn.ntmps ∧ (∀ x ∈ args, x.low (· < st.mem.length)) ∧ ∀ w, (execOp a.eval o).run P w = .ok (.enter f (args.map (S0.den ρ β)).toArray) w := by
  unfold inlineAt at h
  split at h
  · rename_i hg
    split at h
    · rename_i c hop
      split at h
      · rename_i y hcal
        split at h
        · rename_i f' caps hy
          split at h
          · rename_i fn' l hfn hl
            split at h
            · rename_i b' hb
              split at h
              · rename_i hc
                simp only [Bool.and_eq_true, Bool.not_eq_true', beq_eq_false_iff_ne] at hc
                obtain ⟨hname, hle⟩ := hc
                simp only [Option.some.injEq, Prod.mk.injEq] at h
                obtain ⟨rfl, rfl, rfl, rfl⟩ := h
                obtain ⟨h1, h2⟩ := s0s_ok hf hl
                obtain ⟨h3, h4⟩ := opnd_ok hf hy (g := none) (h := none) trivial trivial
                refine ⟨hg, hfn, hb, Nat.le_of_ble_eq_true hle, fun x hx => ?_, fun w => ?_⟩
                · rcases List.mem_append.1 hx with hx | hx
                  · exact h2 x hx
                  · obtain ⟨p, hp, rfl⟩ := List.mem_map.1 hx
                    exact h4 p hp
                · have := enter_run (P := P) (w := w) hop hcal h3 hfn (by rw [hb]; rfl) hname h1
                  rw [this, List.map_append, List.map_map]
                  rfl
              · cases h
            · cases h
          · cases h
        · cases h
      · cases h
    · cases h
  · cases h

theorem resS0_den {β : Nat → Nat} (l : List SV) : (resS0 l).den ρ β = resVal ρ l ∧ ∀ N, (resS0 l).low N := by
  match l with
  | [] => exact ⟨rfl, fun _ => trivial⟩
  | [x] => exact ⟨rfl, fun _ => trivial⟩
  | x :: y :: l => exact ⟨rfl, fun _ => trivial⟩

theorem tysEq_eq : ∀ {x y : List Ty}, tysEq x y = true → x = y
  | [], [], _ => rfl
  | [], _ :: _, h => by simp [tysEq] at h
  | _ :: _, [], h => by simp [tysEq] at h
  | _ :: _, _ :: _, h => by
    simp only [tysEq, Bool.and_eq_true] at h
    rw [Ty.same_eq h.1, tysEq_eq h.2]
theorem insEq_eq : ∀ {x y : List InS}, insEq x y = true → x = y
  | [], [], _ => rfl
  | [], _ :: _, h => by simp [insEq] at h
  | _ :: _, [], h => by simp [insEq] at h
  | ⟨n1, t1, l1, c1⟩ :: x, ⟨n2, t2, l2, c2⟩ :: y, h => by
    simp only [insEq, Bool.and_eq_true] at h
    have e1 : n1 = n2 := Nat.eq_of_beq_eq_true h.1.1.1.1.1
    have e2 : t1 = t2 := Nat.eq_of_beq_eq_true h.1.1.1.1.2
    have e3 : l1 = l2 := tysEq_eq h.1.1.1.2
    have e4 : c1 = none := by simpa using h.1.1.2
    have e5 : c2 = none := by simpa using h.1.2
    rw [e1, e2, e3, e4, e5, insEq_eq h.2]
theorem joinE_den {c x y z : E} (h : joinE c x y = some z) (t : Bool) (ht : boolOf (c.den ρ) = t) : z.den ρ = (bif t then x else y).den ρ := by
  unfold joinE at h
  split at h
  · rename_i hs
    injection h with h; subst h
    have := E.same_eq hs
    subst this
    cases t <;> rfl
  · split at h
    · rename_i hs
      injection h with h; subst h
      have hs := Ty.same_eq hs
      rw [den_mkIte _ _ _ _ rfl hs.symm, ht]
      cases t <;> simp
    · cases h
theorem joinEs_den {c : E} (t : Bool) (ht : boolOf (c.den ρ) = t) : ∀ {x y z : List E}, joinEs c x y = some z → z.map (E.den ρ) = (bif t then x else y).map (E.den ρ)
  | [], [], z, h => by simp only [joinEs, Option.some.injEq] at h; subst h; cases t <;> rfl
  | [], _ :: _, z, h => by simp [joinEs] at h
  | _ :: _, [], z, h => by simp [joinEs] at h
  | x :: xs, y :: ys, z, h => by
    simp only [joinEs] at h
    split at h
    · rename_i z0 zs h1 h2
      injection h with h; subst h
      have e1 := joinE_den h1 t ht
      have e2 := joinEs_den t ht h2
      cases t
      · simp only [cond_false] at *
        rw [List.map_cons, List.map_cons, e1, e2]
      · simp only [cond_true] at *
        rw [List.map_cons, List.map_cons, e1, e2]
    · cases h
theorem joinSl_ok {c : E} (t : Bool) (ht : boolOf (c.den ρ) = t) {β : Nat → Nat} {A : Nat → Prop} {tm : Array Value} {x y : Sl} {v : Value} (h : slotOk ρ β A tm (bif t then x else y) v) : slotOk ρ β A tm (joinSl c x y) v := by
  unfold joinSl
  split
  · split
    · rename_i h1
      have := joinE_den h1 t ht
      cases t <;> exact ⟨h.1.trans this.symm, trivial⟩
    · trivial
  · split
    · rename_i h1
      have := joinEs_den t ht h1
      cases t
      · exact ⟨by rw [h.1]; simp only [cond_false] at this; simp only [S0.den, SV.den, this], trivial⟩
      · exact ⟨by rw [h.1]; simp only [cond_true] at this; simp only [S0.den, SV.den, this], trivial⟩
    · trivial
  · split
    · rename_i hc
      simp only [Bool.and_eq_true] at hc
      have e1 := Nat.eq_of_beq_eq_true hc.1
      have e2 := Nat.eq_of_beq_eq_true hc.2
      subst e1; subst e2
      cases t <;> exact h
    · trivial
  · split
    · rename_i hc
      simp only [Bool.and_eq_true] at hc
      have e1 := Nat.eq_of_beq_eq_true hc.1
      have e2 := capsEq_eq hc.2
      subst e1; subst e2
      cases t <;> exact h
    · trivial
  · trivial
theorem joinSls_get {c : E} : ∀ {x y z : List Sl}, joinSls c x y = some z → z.length = x.length ∧ z.length = y.length ∧ ∀ (i : Nat) (s : Sl), z[i]? = some s → ∃ a b, x[i]? = some a ∧ y[i]? = some b ∧ s = joinSl c a b
  | [], [], z, h => by simp only [joinSls, Option.some.injEq] at h; subst h; exact ⟨rfl, rfl, fun i s hs => by simp at hs⟩
  | [], _ :: _, z, h => by simp [joinSls] at h
  | _ :: _, [], z, h => by simp [joinSls] at h
  | x :: xs, y :: ys, z, h => by
    simp only [joinSls, Option.map_eq_some_iff] at h
    obtain ⟨zs, h1, rfl⟩ := h
    obtain ⟨l1, l2, hg⟩ := joinSls_get h1
    refine ⟨by simp [l1], by simp [l2], fun i s hs => ?_⟩
    cases i with
    | zero => simp at hs; exact ⟨x, y, rfl, rfl, hs.symm⟩
    | succ i => simp at hs; obtain ⟨a, b, ha, hb, he⟩ := hg i s hs; exact ⟨a, b, by simpa using ha, by simpa using hb, he⟩
theorem joinMem_get {c : E} : ∀ {x y z : List (List E × Nat)}, joinMem c x y = some z → z.length = x.length ∧ z.length = y.length ∧ ∀ (i : Nat) (l : List E) (T : Nat), z[i]? = some (l, T) → ∃ a b, x[i]? = some (a, T) ∧ y[i]? = some (b, T) ∧ joinEs c a b = some l
  | [], [], z, h => by simp only [joinMem, Option.some.injEq] at h; subst h; exact ⟨rfl, rfl, fun i s T hs => by simp at hs⟩
  | [], _ :: _, z, h => by simp [joinMem] at h
  | _ :: _, [], z, h => by simp [joinMem] at h
  | (x, T0) :: xs, (y, T1) :: ys, z, h => by
    simp only [joinMem] at h
    split at h
    · rename_i z0 zs h1 h2
      split at h
      · rename_i hT
        have hT := Nat.eq_of_beq_eq_true hT
        subst hT
        injection h with h; subst h
        obtain ⟨l1, l2, hg⟩ := joinMem_get h2
        refine ⟨by simp [l1], by simp [l2], fun i s T hs => ?_⟩
        cases i with
        | zero => simp at hs; obtain ⟨rfl, rfl⟩ := hs; exact ⟨x, y, rfl, rfl, h1⟩
        | succ i => simp at hs; obtain ⟨a, b, ha, hb, he⟩ := hg i s T hs; exact ⟨a, b, by simpa using ha, by simpa using hb, he⟩
      · cases h
    · cases h
theorem joinSt_inv {c : E} {A B J : St} (h : joinSt c A B = some J) (t : Bool) (ht : boolOf (c.den ρ) = t) {N : Nat} {w0 : World} {β : Nat → Nat} {a : Act} {w : World} (hi : Inv P N w0 ρ β (bif t then A else B) a w) : Inv P N w0 ρ β J a w ∧ J.mem.length = (bif t then A else B).mem.length := by
  unfold joinSt at h
  split at h
  · rename_i ts ms h1 h2
    have hie : insEq A.ins B.ins = true := by
      split at h
      · assumption
      · cases h
    rw [if_pos hie] at h
    injection h with h; subst h
    have hie := insEq_eq hie
    have hins : A.ins = (bif t then A else B).ins := by cases t <;> first | rfl | exact hie
    obtain ⟨l1, l2, hg⟩ := joinSls_get h1
    obtain ⟨m1, m2, hm⟩ := joinMem_get h2
    have hlen : ms.length = (bif t then A else B).mem.length := by cases t <;> assumption
    have htl : ts.length = (bif t then A else B).tmps.length := by cases t <;> assumption
    refine ⟨⟨hi.defers, ⟨by rw [hi.fits.size, ← htl], fun i s hs => ?_⟩, fun k l T hk => ?_, by dsimp only; rw [hlen]; exact hi.inj, by dsimp only; rw [hlen]; exact hi.low, hi.below, hi.base, by dsimp only; rw [hins]; exact hi.ins⟩, hlen⟩
    · obtain ⟨x, y, hx, hy, rfl⟩ := hg i s hs
      refine joinSl_ok t ht ?_
      have hsl : (bif t then A else B).tmps[i]? = some (bif t then x else y) := by cases t <;> assumption
      have := hi.fits.slot i _ hsl
      rw [← hlen] at this
      exact this
    · obtain ⟨x, y, hx, hy, hj⟩ := hm k l T hk
      have hml : (bif t then A else B).mem[k]? = some (bif t then x else y, T) := by cases t <;> assumption
      rw [hi.mem k _ T hml, joinEs_den t ht hj]
  · cases h
theorem tryJoin_ok {c : E} {t : T} {e : Unit → T} {J : St} (h : tryJoin c t e = some J) : ∃ A B, t = .leaf [] .normal A ∧ e () = .leaf [] .normal B ∧ joinSt c A B = some J := by
  unfold tryJoin at h
  split at h
  · split at h
    · rename_i B he; exact ⟨_, B, rfl, he, h⟩
    · cases h
  · cases h

/-- **What the walk tells holds.** -/
theorem exec_ext (hΓ : ∀ x ∈ ρ.fns, x.holds P) {B : Nat} {w0 : World} :
    ∀ (n : Nat) (u : Bool) (F : List K → X → St → Prop) (Q : Exit → Act → World → Prop) (k : List K) (st : St), (exec P ρ.fns u n k st).ok ρ F → ∀ β a w, Inv P B w0 ρ β st a w →
      (∀ k' x st' β' a' w', F k' x st' → Ext β st β' st' → Inv P B w0 ρ β' st' a' w' → wpK P Q k' x.to a' w') → wpK P Q k .normal a w := by
  intro n
  induction n with
  | zero => intro u F Q k st h β a w hi hF; exact hF k .normal st β a w h (Ext.refl _ _) hi
  | succ n ih =>
    intro u F Q k st h β a w hi hF
    have step : ∀ {k' : List K} {st' : St} {β' : Nat → Nat} {a' : Act} {w' : World}, (exec P ρ.fns u n k' st').ok ρ F → Ext β st β' st' → Inv P B w0 ρ β' st' a' w' → wpK P Q k' .normal a' w' :=
      fun hh he hi' => ih u F Q _ _ hh _ _ _ hi' fun k' x st'' β'' a'' w'' hf he' hi'' => hF k' x st'' β'' a'' w'' hf (he.trans he') hi''
    have here : ∀ {k' : List K} {x : X} {a' : Act} {w' : World}, F k' x st → Inv P B w0 ρ β st a' w' → wpK P Q k' x.to a' w' := fun hf hi' => hF _ _ _ _ _ _ hf (Ext.refl _ _) hi'
    have same := Ext.refl β st
    cases k with
    | nil => exact here h hi
    | cons x k =>
      cases x with
      | inBlock id => exact step (k' := k) h same hi
      | inLoop c =>
        simp only [exec] at h
        split at h
        · exact loops_of_wp (step (k' := .code c :: .inLoop c :: k) h same hi)
        · exact here (k' := .inLoop c :: k) (x := .normal) h hi
      | ops all l =>
        cases l with
        | nil => exact step (k' := k) h same hi
        | cons o rest =>
          simp only [exec] at h
          split at h
          · rename_i st' needs hs
            obtain ⟨h1, h2⟩ := ok_needAll h
            exact stepOp_ok hΓ hi hs h1 fun β' a' w' he hi' => step (k' := .ops all rest :: k) h2 he hi'
          · split at h
            · rename_i f fn b args hin
              rcases bindR_ok _ h with hs | hg
              · exact here (k' := .ops all (o :: rest) :: k) (x := .normal) hs hi
              · obtain ⟨hgu, hfn, hb, hle, hlow, hrun⟩ := inlineAt_ok hi.fits hin
                have hstart : Inv P B w0 ρ β (frameSt fn args st.mem st.ins) { tmps := (args.map (S0.den ρ β)).toArray ++ Array.replicate (fn.ntmps - (args.map (S0.den ρ β)).toArray.size) undef, defers := [] } w := by
                  refine ⟨rfl, ⟨by simp [frameSt], fun i s hsl => ?_⟩, hi.mem, hi.inj, hi.low, hi.below, hi.base, hi.ins⟩
                  simp only [frameSt] at hsl
                  by_cases hil : i < args.length
                  · rw [List.getElem?_append_left (by simpa using hil)] at hsl
                    simp only [List.getElem?_map, Option.map_eq_some_iff] at hsl
                    obtain ⟨v, hv, rfl⟩ := hsl
                    refine ⟨?_, hlow v (List.mem_of_getElem? hv)⟩
                    simp [Array.getD_eq_getD_getElem?, Array.getElem?_append, hil]
                    rw [List.getElem?_eq_getElem hil] at hv
                    injection hv with hv
                    rw [hv]
                  · rw [List.getElem?_append_right (by simpa using hil)] at hsl
                    have := List.eq_of_mem_replicate (List.mem_of_getElem? hsl)
                    subst this
                    trivial
                have hcalls : Calls P f (args.map (S0.den ρ β)).toArray w fun e w' => ∃ l st' β', e = .returned (resVal ρ l) ∧ (exec P ρ.fns u n (.ops all rest :: k) (({ st with mem := st'.mem } : St).put o.dst (.full (resS0 l)))).ok ρ F ∧ Ext β (frameSt fn args st.mem st.ins) β' st' ∧
                    MemOk ρ β' st'.mem w' ∧ (∀ i j, i < st'.mem.length → j < st'.mem.length → β' i = β' j → i = j) ∧ (∀ i, i < st'.mem.length → B ≤ β' i) ∧ Below B w0 w' ∧ B ≤ w'.heap.size := by
                  refine calls_of_wp hfn hb (ih true _ _ [.code b] (frameSt fn args st.mem st.ins) hg β _ w hstart ?_)
                  rintro k' x st' β' a' w' ⟨rfl, hx, l, hl, hc⟩ he hi'
                  have hr := results_ok hi' hl
                  rcases hx with rfl | rfl
                  · exact ⟨hi'.defers, _, hr, l, st', β', rfl, hc, he, hi'.mem, hi'.inj, hi'.low, hi'.below, hi'.base⟩
                  · exact ⟨hi'.defers, _, hr, l, st', β', rfl, hc, he, hi'.mem, hi'.inj, hi'.low, hi'.below, hi'.base⟩
                refine wpList_step fun K hk => ?_
                rw [if_pos (guardOf_yes hi.fits hgu)]
                unfold Oper.wp
                rw [hrun]
                refine hcalls.mono fun e w' ⟨l, st', β', he, hc, hx, hm, hinj, hlw, hbl, hbs⟩ => ?_
                subst he
                have hi1 : Inv P B w0 ρ β' { st with mem := st'.mem } a w' :=
                  ⟨hi.defers, ⟨hi.fits.size, fun i s hs => slotOk_ext hx.eq (fun i hi => Nat.lt_of_lt_of_le hi hx.len) (hi.fits.slot i s hs)⟩, hm, hinj, hlw, hbl, hbs, hi.ins⟩
                have hi2 := hi1.put o.dst (s := .full (resS0 l)) (v := resVal ρ l) ⟨((resS0_den (ρ := ρ) l).1).symm, (resS0_den (ρ := ρ) (β := β') l).2 _⟩
                exact hk _ _ (step (k' := .ops all rest :: k) hc ⟨hx.eq, by rw [put_mem]; exact hx.len⟩ hi2)
            · exact here (k' := .ops all (o :: rest) :: k) (x := .normal) h hi
      | code c =>
        simp only [exec] at h
        split at h
        · exact wp_skip (step (k' := k) h same hi)
        · rename_i p q
          have := step (k' := .code p :: .code q :: k) h same hi
          refine wp_seq (wp_mono this fun e a w he => ?_)
          cases e <;> exact he
        · rename_i id b
          have := step (k' := .code b :: .inBlock id :: k) h same hi
          refine wp_block (wp_mono this fun e a w he => ?_)
          cases e <;> exact he
        · rename_i b
          split at h
          · exact (loops_of_wp (step (k' := .code b :: .inLoop b :: k) h same hi)).wp
          · exact here (k' := .code (.loop b) :: k) (x := .normal) h hi
        · rename_i c p q
          split at h
          · rename_i t hc
            have hcv := (opnd_ok hi.fits hc trivial trivial).1
            exact wp_cond hcv (step (k' := .code (if t then p else q) :: k) h same hi)
          · rename_i e _ hc
            split at h
            · rename_i hty
              have hcv := (opnd_ok hi.fits hc trivial trivial).1
              have hcv' : a.eval c = .bool (boolOf (e.den ρ)) := by rw [hcv]; exact den_b (Ty.same_eq hty)
              split at h
              · rename_i J hJ
                split at hJ
                · obtain ⟨sa, sb, hA, hB, hj⟩ := tryJoin_ok hJ
                  have way : ∀ (r : Code) (t : Bool) (s : St), boolOf (e.den ρ) = t → exec P ρ.fns u n [.code r] (learn st c t) = .leaf [] .normal s → (bif t then sa else sb) = s → r.wp P (wpK P Q k) a w := fun r t s ht hr hs => by
                    have hx := ih u (fun k' x s' => k' = [] ∧ x = .normal ∧ s' = s) (wpK P Q k) [.code r] (learn st c t) (by rw [hr]; exact ⟨rfl, rfl, rfl⟩) β a w (learn_ok hi (by rw [hcv', ht])) (by
                      rintro k' x s' β' a' w' ⟨rfl, rfl, rfl⟩ he hi'
                      subst hs
                      obtain ⟨hij, hl⟩ := joinSt_inv hj t ht hi'
                      exact step (k' := k) h ⟨fun i hil => he.eq i (by rw [learn_mem]; exact hil), by rw [hl]; have := he.len; rw [learn_mem] at this; exact this⟩ hij)
                    exact wp_mono hx fun _ _ _ hq => hq
                  exact wp_cond_split hcv' (fun ht => way p true sa ht hA rfl) (fun ht => way q false sb ht hB rfl)
                · cases hJ
              · refine wp_cond_split hcv' (fun ht => ?_) (fun ht => ?_)
                · exact step (k' := .code p :: k) (h.1 ht) (Ext.same (by rw [learn_mem])) (learn_ok hi (by rw [hcv', ht]))
                · exact step (k' := .code q :: k) (h.2 ht) (Ext.same (by rw [learn_mem])) (learn_ok hi (by rw [hcv', ht]))
            · exact here (k' := .code (.cond c p q) :: k) (x := .normal) h hi
          · exact here (k' := .code (.cond c p q) :: k) (x := .normal) h hi
        · rename_i id
          split at h
          · rename_i k' hu
            exact wp_exit (wpK_unwind Q a w id hu (step (k' := k') h same hi))
          · rename_i hu
            exact wp_exit (wpK_unwind_none Q a w id (here (k' := []) (x := .exit id) h hi) hu)
        · exact wp_ret (wpK_ret Q a w (here (k' := []) (x := .ret) h hi) k)
        · rename_i id ops draw
          split at h
          · rename_i hd
            subst hd
            split at h
            · rename_i hm
              split at h
              · rename_i st' hq
                split at hq
                · rename_i hB
                  exact region_ok hΓ hi hm hB hq fun a' w' hmem hi' => step (k' := k) h (Ext.same (by rw [hmem])) hi'
                · cases hq
              · split at h
                · rename_i st' needs hq
                  obtain ⟨h1, h2⟩ := ok_needAll h
                  exact regionOps_ok hΓ hi hm hq h1 fun β' a' w' he hi' => step (k' := k) h2 he hi'
                · exact here (k' := .code (.region id ops true) :: k) (x := .normal) h hi
            · exact here (k' := .code (.region id ops true) :: k) (x := .normal) h hi
          · rename_i hd
            have hd : draw = false := by simpa using hd
            subst hd
            exact wp_region_list (step (k' := .ops ops ops.toList :: k) h same hi)
        · exact here (k' := .code _ :: k) (x := .normal) h hi

theorem exec_ok (hΓ : ∀ x ∈ ρ.fns, x.holds P) {B : Nat} {w0 : World} {u : Bool} {F : List K → X → St → Prop} {Q : Exit → Act → World → Prop}
    (hF : ∀ k x st, F k x st → ∀ β a w, Inv P B w0 ρ β st a w → wpK P Q k x.to a w) (n : Nat) (k : List K) (st : St) (h : (exec P ρ.fns u n k st).ok ρ F) (β : Nat → Nat) (a : Act) (w : World) (hi : Inv P B w0 ρ β st a w)
    (_ : ∀ k' x st', F k' x st' → ∀ β a w, Inv P B w0 ρ β st' a w → wpK P Q k' x.to a w) : wpK P Q k .normal a w :=
  exec_ext hΓ n u F Q k st h β a w hi fun k' x st' β' a' w' hf _ hi' => hF k' x st' hf β' a' w' hi'

/-- **A function whose run is told returns what is told, and leaves what was there as it was.** -/
theorem calls_run (hΓ : ∀ x ∈ ρ.fns, x.holds P) {n f : Nat} {args : List SV} {R : Value → Prop} (h : (run P ρ.fns n f args).ok ρ R) (w : World) :
    Calls P f (args.map (SV.den ρ)).toArray w fun e w' => ∃ v, e = .returned v ∧ R v ∧ Below w.heap.size w w' := by
  unfold run at h
  split at h
  · rename_i fn hf
    split at h
    · rename_i c hb
      split at h
      · rename_i hle
        have hle := Nat.le_of_ble_eq_true hle
        refine calls_of_wp hf hb ?_
        have hstart : Inv P w.heap.size w ρ (fun _ => 0) (startM (Nat.beq (n % 2) 1) fn args) { tmps := (args.map (SV.den ρ)).toArray ++ Array.replicate (fn.ntmps - (args.map (SV.den ρ)).toArray.size) undef, defers := [] } w := by
          refine ⟨rfl, ⟨by simp [startM, startSt], fun i s hi => ?_⟩, fun k c T hk => by simp [startM, startSt] at hk, fun i j hi => by simp [startM, startSt] at hi, fun i hi => by simp [startM, startSt] at hi, Below.refl _ _, Nat.le_refl _, fun s hs => by simp [startM, startSt] at hs⟩
          simp only [startM, startSt] at hi
          by_cases hil : i < args.length
          · rw [List.getElem?_append_left (by simpa using hil)] at hi
            simp only [List.getElem?_map, Option.map_eq_some_iff] at hi
            obtain ⟨v, hv, rfl⟩ := hi
            refine ⟨?_, trivial⟩
            simp [Array.getD_eq_getD_getElem?, Array.getElem?_append, hil, S0.den]
            rw [List.getElem?_eq_getElem hil] at hv
            injection hv with hv
            rw [hv]
          · rw [List.getElem?_append_right (by simpa using hil)] at hi
            have := List.eq_of_mem_replicate (List.mem_of_getElem? hi)
            subst this
            trivial
        have key : ∀ (t : T), (t.fin P fn).ok ρ R → t.ok ρ (fun k x st => k = [] ∧ (x = .normal ∨ x = .ret) ∧ ∃ l, resultsE P st fn.results.toList = some l ∧ R (resVal ρ l)) := by
          intro t
          induction t with
          | leaf k x st =>
            intro ht
            unfold T.fin at ht
            split at ht
            · split at ht
              · rename_i hc _ l hl
                injection hc with h1 h2 h3; subst h1; subst h2; subst h3
                exact ⟨rfl, .inl rfl, l, hl, ht⟩
              · exact ht.elim
            · split at ht
              · rename_i hc _ l hl
                injection hc with h1 h2 h3; subst h1; subst h2; subst h3
                exact ⟨rfl, .inr rfl, l, hl, ht⟩
              · exact ht.elim
            · exact ht.elim
            · rename_i hc; cases hc
            · rename_i hc; cases hc
          | br c t e iht ihe => intro ht; exact ⟨fun hc => iht (ht.1 hc), fun hc => ihe (ht.2 hc)⟩
          | need c t iht => intro ht; exact ⟨ht.1, iht ht.2⟩
        have hF : ∀ (k : List K) (x : X) (st : St), (k = [] ∧ (x = .normal ∨ x = .ret) ∧ ∃ l, resultsE P st fn.results.toList = some l ∧ R (resVal ρ l)) → ∀ β a w', Inv P w.heap.size w ρ β st a w' →
            wpK P (bodyPost P fn fun e w' => ∃ v, e = .returned v ∧ R v ∧ Below w.heap.size w w') k x.to a w' := by
          rintro k x st ⟨rfl, hx, l, hl, hR⟩ β a w' hi
          have hr := results_ok hi hl
          rcases hx with rfl | rfl
          · exact ⟨hi.defers, _, hr, _, rfl, hR, hi.below⟩
          · exact ⟨hi.defers, _, hr, _, rfl, hR, hi.below⟩
        exact exec_ok hΓ hF n [.code c] (startM (Nat.beq (n % 2) 1) fn args) (key _ h) _ _ _ hstart hF
      · exact h.elim
    · exact h.elim
  · exact h.elim

end Go.Sx
