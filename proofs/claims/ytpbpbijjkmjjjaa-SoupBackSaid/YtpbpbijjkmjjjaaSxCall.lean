/- The symbolic executor: calls of functions with contracts. No conditions. -/
import Derived.Test.YtpbpbijjkmjjjaaSxOp3
namespace Go.Sx
open Go Go.RowKit
variable {ρ : Env} {P : Program}

/-- Cells of these kinds. -/
def typed : List Ty → List Value → Prop
  | [], cs => cs = []
  | .i :: ts, cs => ∃ n r, cs = .int .i64 n :: r ∧ typed ts r
  | .b :: ts, cs => ∃ b r, cs = .bool b :: r ∧ typed ts r
  | .v :: ts, cs => ∃ v r, cs = v :: r ∧ v.oneCell' = true ∧ typed ts r

def groupArgs : List (Option Nat × List Ty) → List Value → List Value
  | [], _ => []
  | (none, _) :: ps, cs => cs.headD .nilIface :: groupArgs ps cs.tail
  | (some _, ts) :: ps, cs => .agg (cs.take ts.length).toArray :: groupArgs ps (cs.drop ts.length)

def resCells (x : Con) (cs : List Value) : Nat → List Ty → List Value
  | _, [] => []
  | j, t :: ts => cellVal x cs t j :: resCells x cs (j + 1) ts
def resVals (x : Con) (cs : List Value) : Nat → List (Option Nat × List Ty) → List Value
  | _, [] => []
  | j, (none, ts) :: rest => (match resCells x cs j ts with | [v] => v | l => .agg l.toArray) :: resVals x cs (j + ts.length) rest
  | j, (some _, ts) :: rest => .agg (resCells x cs j ts).toArray :: resVals x cs (j + ts.length) rest
def Con.out (x : Con) (cs : List Value) : Value :=
  match x.tup, resVals x cs 0 x.res with
  | true, l => .tuple l.toArray
  | false, [v] => v
  | _, _ => undef

/-- The contract: called with such cells, in whatever world, it returns what it tells, and what was there is as it was. -/
def Con.holds (P : Program) (x : Con) : Prop := ∀ cs : List Value, typed (x.params.flatMap (·.2)) cs → ∀ w : World,
  Calls P x.f (groupArgs x.params cs).toArray w fun e w' => e = .returned (x.out cs) ∧ Below w.heap.size w w'

theorem typed_append : ∀ {a b : List Ty} {x y : List Value}, typed a x → typed b y → typed (a ++ b) (x ++ y)
  | [], b, x, y, hx, hy => by
    have : x = [] := hx
    subst this; exact hy
  | .i :: a, b, x, y, hx, hy => by
    obtain ⟨n, r, rfl, hr⟩ := hx
    exact ⟨n, r ++ y, rfl, typed_append hr hy⟩
  | .b :: a, b, x, y, hx, hy => by
    obtain ⟨n, r, rfl, hr⟩ := hx
    exact ⟨n, r ++ y, rfl, typed_append hr hy⟩
  | .v :: a, b, x, y, hx, hy => by
    obtain ⟨n, r, rfl, h1, hr⟩ := hx
    exact ⟨n, r ++ y, rfl, h1, typed_append hr hy⟩

theorem typed_of_tysOk : ∀ {ts : List Ty} {es : List E}, tysOk ts es = true → typed ts (es.map (E.den ρ)) ∧ ts.length = es.length
  | [], [], _ => ⟨rfl, rfl⟩
  | [], _ :: _, h => by simp [tysOk] at h
  | _ :: _, [], h => by simp [tysOk] at h
  | t :: ts, e :: es, h => by
    simp only [tysOk, Bool.and_eq_true] at h
    have ht := Ty.same_eq h.1
    obtain ⟨h1, h2⟩ := typed_of_tysOk h.2
    refine ⟨?_, by simp [h2]⟩
    cases t with
    | i => exact ⟨_, _, by rw [List.map_cons, den_i ht.symm], h1⟩
    | b => exact ⟨_, _, by rw [List.map_cons, den_b ht.symm], h1⟩
    | v => exact ⟨_, _, by rw [List.map_cons], den_one e, h1⟩

theorem flatE_lst : ∀ (es : List E) (k : E), (flatE es k).lst ρ = es.map (E.den ρ) ++ k.lst ρ
  | [], k => rfl
  | e :: es, k => by simp [flatE, flatE_lst es k]
theorem flatS_cons (x : SV) (l : List SV) : (flatS (x :: l)).lst ρ = x.cells.map (E.den ρ) ++ (flatS l).lst ρ := flatE_lst _ _

theorem svsOk_group : ∀ {ps : List (Option Nat × List Ty)} {l : List SV}, svsOk ps l = true →
    typed (ps.flatMap (·.2)) ((flatS l).lst ρ) ∧ groupArgs ps ((flatS l).lst ρ) = l.map (SV.den ρ)
  | [], [], _ => ⟨rfl, rfl⟩
  | [], _ :: _, h => by simp [svsOk] at h
  | _ :: _, [], h => by simp [svsOk] at h
  | (o, ts) :: ps, x :: l, h => by
    simp only [svsOk, Bool.and_eq_true] at h
    obtain ⟨h1, h2⟩ := svsOk_group h.2
    rw [flatS_cons]
    cases o with
    | none =>
      cases x with
      | one e =>
        have ht : tysOk ts [e] = true := h.1
        obtain ⟨h3, h4⟩ := typed_of_tysOk (ρ := ρ) ht
        exact ⟨by rw [List.flatMap_cons]; exact typed_append h3 h1, by simp [groupArgs, SV.cells, SV.den, h2]⟩
      | agg es => simp [svOk] at h
    | some n =>
      cases x with
      | one e => simp [svOk] at h
      | agg es =>
        have ht : tysOk ts es = true := h.1
        obtain ⟨h3, h4⟩ := typed_of_tysOk (ρ := ρ) ht
        refine ⟨by rw [List.flatMap_cons]; exact typed_append h3 h1, ?_⟩
        have hl : ts.length = (es.map (E.den ρ)).length := by rw [List.length_map]; exact h4
        simp only [groupArgs, SV.cells, SV.den, List.map_cons]
        rw [hl, List.take_left', List.drop_left', h2]
        · rfl
        · rfl

theorem appCells_den {x : Con} {args : E} (hx : findCon ρ.fns x.f = some x) : ∀ (ts : List Ty) (j : Nat), (appCells x.f args j ts).map (E.den ρ) = resCells x (args.lst ρ) j ts
  | [], j => rfl
  | t :: ts, j => by simp [appCells, resCells, appVal, hx, appCells_den hx ts]
theorem appSVs_den {x : Con} {args : E} (hx : findCon ρ.fns x.f = some x) : ∀ (rs : List (Option Nat × List Ty)) (j : Nat), (appSVs x.f args j rs).map (SV.den ρ) = resVals x (args.lst ρ) j rs
  | [], j => rfl
  | (none, ts) :: rs, j => by
    have h := appCells_den (args := args) hx ts j
    simp only [appSVs, resVals, List.map_cons, appSVs_den hx rs, ← h]
    congr 1
    cases appCells x.f args j ts with
    | nil => rfl
    | cons e es => cases es <;> rfl
  | (some _, ts) :: rs, j => by
    have h := appCells_den (args := args) hx ts j
    simp only [appSVs, resVals, List.map_cons, appSVs_den hx rs, ← h, SV.den]

theorem appS0_den {x : Con} {args : E} {r : S0} {β : Nat → Nat} (hx : findCon ρ.fns x.f = some x) (h : appS0 x args = some r) : r.den ρ β = x.out (args.lst ρ) ∧ ∀ N, r.low N := by
  have hr := appSVs_den (args := args) hx x.res 0
  unfold appS0 at h
  unfold Con.out
  rw [← hr]
  split at h
  · rename_i l ht
    injection h with h; subst h
    simp only [ht]
    exact ⟨rfl, fun _ => trivial⟩
  · rename_i v ht hv
    injection h with h; subst h
    simp only [ht, hv]
    exact ⟨rfl, fun _ => trivial⟩
  · cases h

theorem findCon_f {l : List Con} {f : Nat} {x : Con} (h : findCon l f = some x) : x.f = f ∧ x ∈ l := by
  unfold findCon at h
  have h1 : (Nat.beq x.f f) = true := List.find?_some (p := fun (x : Con) => Nat.beq x.f f) h
  exact ⟨Nat.eq_of_beq_eq_true h1, List.mem_of_find?_eq_some h⟩

/-- A call of a function value. -/
theorem enter_run {a : Act} {o : Oper} {c : Go.Call} {y : Operand} {f : Nat} {fn : Func} {caps args : List Value} {w : World} (hop : o.op = .call c) (hcal : c.callee = .value y) (hy : a.eval y = .func (.func f) #[] caps.toArray)
    (hfn : P.funcs[f]? = some fn) (hb : fn.body.isSome = true) (hname : fn.name ≠ "runtime.NumGoroutine") (hargs : c.args.toList.map a.eval = args) : (execOp a.eval o).run P w = .ok (.enter f (args ++ caps).toArray) w := by
  have hl2 : c.args.map a.eval = args.toArray := by apply Array.ext'; rw [Array.toList_map, hargs]
  obtain ⟨body, hbody⟩ := Option.isSome_iff_exists.1 hb
  unfold execOp
  simp only [hop, resolve, hcal, hy, Deferred.ofValue, Sem.run_bind, Sem.run_pure, Result.andThen_ok, invoke, callFunc, run_program, hfn]
  rw [hl2]
  simp [hname, hbody]

theorem callOp_ok {β : Nat → Nat} {A : Nat → Prop} {st : St} {a : Act} {g : Option (Nat × Bool)} {w : World} (hf : FitsA ρ β A st a.tmps) (hg : gOk a.tmps g) (hΓ : ∀ x ∈ ρ.fns, x.holds P)
    {o : Oper} {f : Nat} {l : List SV} {r : S0} (h : callOp P ρ.fns st g o.op = some (f, l, r)) :
    (execOp a.eval o).run P w = .ok (.enter f (l.map (SV.den ρ)).toArray) w ∧ (∀ N, r.low N) ∧
      ∀ w, Calls P f (l.map (SV.den ρ)).toArray w fun e w' => e = .returned (r.den ρ β) ∧ Below w.heap.size w w' := by
  unfold callOp at h
  split at h
  · rename_i c hop
    split at h
    · rename_i y hcal
      split at h
      · rename_i f' hy
        have hyv : a.eval y = .func (.func f') #[] ([] : List Value).toArray := (opnd_ok hf hy hg trivial).1
        split at h
        · rename_i fn x l' hfn hx hl
          split at h
          · rename_i hc
            simp only [Bool.and_eq_true, Bool.not_eq_true', beq_eq_false_iff_ne] at hc
            obtain ⟨⟨hb, hname⟩, hok⟩ := hc
            rw [Option.map_eq_some_iff] at h
            obtain ⟨r', hr, he⟩ := h
            simp only [Prod.mk.injEq] at he
            obtain ⟨rfl, rfl, rfl⟩ := he
            obtain ⟨hxf, hxm⟩ := findCon_f hx
            subst hxf
            obtain ⟨hd, hlow⟩ := appS0_den (β := β) hx hr
            refine ⟨?_, hlow, fun w => ?_⟩
            · have := enter_run (P := P) (w := w) hop hcal hyv hfn hb hname (svs_ok hf hg hl)
              rwa [List.append_nil] at this
            · obtain ⟨h1, h2⟩ := svsOk_group (ρ := ρ) hok
              have := hΓ x hxm _ h1 w
              rw [h2] at this
              rw [hd]
              exact this
          · cases h
        · cases h
      · cases h
    · cases h
  · cases h

end Go.Sx
