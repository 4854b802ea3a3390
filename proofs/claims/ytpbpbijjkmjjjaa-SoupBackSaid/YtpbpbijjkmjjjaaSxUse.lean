/- The symbolic executor: a function's contract out of its run. No conditions. -/
import Derived.Test.YtpbpbijjkmjjjaaSxRun
namespace Go.Sx
open Go Go.RowKit
variable {P : Program}

def atoms : Nat → List Ty → List E
  | _, [] => []
  | j, t :: ts => .atom t j :: atoms (j + 1) ts
def symArgs : Nat → List (Option Nat × List Ty) → List SV
  | _, [] => []
  | j, (none, ts) :: ps => .one (.atom (ts.headD .v) j) :: symArgs (j + ts.length) ps
  | j, (some _, ts) :: ps => .agg (atoms j ts) :: symArgs (j + ts.length) ps
def envOf (Γ : List Con) (cs : List Value) : Env := { i := fun n => intOf (cs.getD n .nilIface), b := fun n => boolOf (cs.getD n .nilIface), v := fun n => cs.getD n .nilIface, fns := Γ }

def paramsOk : List (Option Nat × List Ty) → Bool
  | [] => true
  | (none, [_]) :: ps => paramsOk ps
  | (none, _) :: _ => false
  | (some _, _) :: ps => paramsOk ps

theorem atoms_den (Γ : List Con) : ∀ (ts : List Ty) (pre cs : List Value), typed ts cs → ∀ rest : List Value, (atoms pre.length ts).map (E.den (envOf Γ (pre ++ (cs ++ rest)))) = cs
  | [], pre, cs, h, rest => by
    have : cs = [] := h
    subst this; rfl
  | t :: ts, pre, cs, h, rest => by
    have key : ∀ (v : Value) (r : List Value), cs = v :: r → typed ts r → (E.atom t pre.length).den (envOf Γ (pre ++ (cs ++ rest))) = v → (atoms pre.length (t :: ts)).map (E.den (envOf Γ (pre ++ (cs ++ rest)))) = cs := by
      intro v r hc hr hv
      subst hc
      have ih := atoms_den Γ ts (pre ++ [v]) r hr rest
      simp only [atoms, List.map_cons, hv]
      congr 1
      rw [show pre ++ (v :: r ++ rest) = pre ++ [v] ++ (r ++ rest) by simp]
      simpa using ih
    cases t with
    | i =>
      obtain ⟨n, r, rfl, hr⟩ := h
      exact key _ r rfl hr (by simp [envOf])
    | b =>
      obtain ⟨n, r, rfl, hr⟩ := h
      exact key _ r rfl hr (by simp [envOf])
    | v =>
      obtain ⟨n, r, rfl, h1, hr⟩ := h
      exact key _ r rfl hr (by simp [envOf, oc_of_one h1])

theorem typed_split : ∀ {a b : List Ty} {cs : List Value}, typed (a ++ b) cs → ∃ x y, cs = x ++ y ∧ typed a x ∧ typed b y ∧ x.length = a.length
  | [], b, cs, h => ⟨[], cs, rfl, rfl, h, rfl⟩
  | .i :: a, b, cs, h => by
    obtain ⟨n, r, rfl, hr⟩ := h
    obtain ⟨x, y, rfl, hx, hy, hl⟩ := typed_split hr
    exact ⟨_ :: x, y, rfl, ⟨n, x, rfl, hx⟩, hy, by simp [hl]⟩
  | .b :: a, b, cs, h => by
    obtain ⟨n, r, rfl, hr⟩ := h
    obtain ⟨x, y, rfl, hx, hy, hl⟩ := typed_split hr
    exact ⟨_ :: x, y, rfl, ⟨n, x, rfl, hx⟩, hy, by simp [hl]⟩
  | .v :: a, b, cs, h => by
    obtain ⟨n, r, rfl, h1, hr⟩ := h
    obtain ⟨x, y, rfl, hx, hy, hl⟩ := typed_split hr
    exact ⟨_ :: x, y, rfl, ⟨n, x, rfl, h1, hx⟩, hy, by simp [hl]⟩

theorem symArgs_den (Γ : List Con) : ∀ (ps : List (Option Nat × List Ty)) (pre cs : List Value), paramsOk ps = true → typed (ps.flatMap (·.2)) cs → (symArgs pre.length ps).map (SV.den (envOf Γ (pre ++ cs))) = groupArgs ps cs
  | [], pre, cs, _, _ => rfl
  | (o, ts) :: ps, pre, cs, hp, h => by
    rw [List.flatMap_cons] at h
    obtain ⟨x, y, rfl, hx, hy, hl⟩ := typed_split h
    have ha := atoms_den Γ ts pre x hx y
    cases o with
    | none =>
      match ts, hp with
      | [t], hp =>
        have ih := symArgs_den Γ ps (pre ++ x) y hp hy
        match x, hl with
        | [v], _ =>
          simp only [symArgs, groupArgs, List.map_cons, SV.den, List.headD_cons]
          congr 1
          · simp only [atoms, List.map_cons, List.map_nil, List.cons.injEq, and_true] at ha
            exact ha
          · simpa using ih
    | some n =>
      have ih := symArgs_den Γ ps (pre ++ x) y (by simpa [paramsOk] using hp) hy
      simp only [symArgs, groupArgs, List.map_cons, SV.den]
      have e1 : (x ++ y).take ts.length = x := by rw [← hl]; simp
      have e2 : (x ++ y).drop ts.length = y := by rw [← hl]; simp
      rw [e1, e2, ha]
      congr 1
      simpa [hl] using ih

/-- A contract out of a run. -/
theorem holds_of_run {x : Con} (Γ : List Con) (hΓ : ∀ y ∈ Γ, y.holds P) (n : Nat) (hp : paramsOk x.params = true) {t : R} (ht : run P Γ n x.f (symArgs 0 x.params) = t)
    (h : ∀ cs, typed (x.params.flatMap (·.2)) cs → t.ok (envOf Γ cs) (fun v => v = x.out cs)) : x.holds P := by
  intro cs hc w
  have h1 := h cs hc
  rw [← ht] at h1
  have h2 := calls_run (ρ := envOf Γ cs) hΓ h1 w
  have h3 := symArgs_den Γ x.params [] cs hp hc
  simp only [List.nil_append, List.length_nil] at h3
  rw [h3] at h2
  exact h2.mono fun e w' ⟨v, he, hv, hb⟩ => ⟨by rw [he, hv], hb⟩

/-- A call with such arguments, out of a run. -/
theorem calls_lit (Γ : List Con) (hΓ : ∀ y ∈ Γ, y.holds P) (cs : List Value) (n f : Nat) (args : List SV) {t : R} (ht : run P Γ n f args = t) {v : Value} (hok : t.ok (envOf Γ cs) (fun x => x = v)) {as : Array Value} (ha : (args.map (SV.den (envOf Γ cs))).toArray = as) (w : World) :
    Calls P f as w fun e w' => e = .returned v ∧ Below w.heap.size w w' := by
  rw [← ht] at hok
  subst ha
  exact (calls_run (ρ := envOf Γ cs) hΓ hok w).mono fun e w' ⟨x, he, hv, hb⟩ => ⟨by rw [he, hv], hb⟩

theorem nil_holds : ∀ y ∈ ([] : List Con), y.holds P := by intro y hy; cases hy
theorem cons_holds {x : Con} {l : List Con} (hx : x.holds P) (hl : ∀ y ∈ l, y.holds P) : ∀ y ∈ x :: l, y.holds P := by
  intro y hy
  rcases List.mem_cons.1 hy with rfl | hy
  · exact hx
  · exact hl y hy

/-- A contract as calls are given it. -/
theorem Con.calls {x : Con} (hx : x.holds P) {args : Array Value} {v : Value} (cs : List Value) (hc : typed (x.params.flatMap (·.2)) cs) (ha : (groupArgs x.params cs).toArray = args) (hv : x.out cs = v) (w : World) :
    Calls P x.f args w fun e w' => e = .returned v ∧ Below w.heap.size w w' := by
  subst ha; subst hv
  exact hx cs hc w

end Go.Sx
