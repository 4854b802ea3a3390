/- The symbolic executor: each operation that leaves the world alone yields what it is told to yield. No conditions. -/
import Derived.Test.YtpbpbijjkmjjjaaSxPure
namespace Go.Sx
open Go Go.RowKit
variable {ρ : Env} {P : Program}

theorem equal_bool {t : TypeId} (hu : P.underlying t = some .bool) (a b : Bool) (w : World) : (Op.equal t (.bool a) (.bool b)).run P w = .ok (a == b) w := by
  have h : ∀ d : Nat, (Op.equalIn (d + 1) t (.bool a) (.bool b)).run P w = .ok (a == b) w := fun d => by simp [Op.equalIn, run_underlying hu]
  exact h 9999

theorem nz_ok {y : E} (hn : ∀ c ∈ nzNeed y, boolOf (c.den ρ) = true) : intOf (y.den ρ) ≠ 0 := by
  unfold nzNeed at hn
  split at hn
  · rename_i n
    split at hn
    · have := hn _ (List.mem_singleton.2 rfl)
      simp at this
    · rename_i h
      simpa using h
  · have h0 := hn _ (List.mem_singleton.2 rfl)
    simp only [den_not, den_eq, boolOf_bool, den_int, intOf_int] at h0
    simpa using h0

theorem binE_ok {op : BinOp} {xT : Nat} {x y e : E} {needs : List E} (h : binE P op xT x y = some (e, needs)) (hn : ∀ c ∈ needs, boolOf (c.den ρ) = true) (w : World) (a b : Operand) :
    (do eqGuard op xT a b (x.den ρ) (y.den ρ); binOp op xT (x.den ρ) (y.den ρ) : Sem Value).run P w = .ok (e.den ρ) w := by
  unfold binE at h
  split at h
  · rename_i hx hy
    rw [den_i hx, den_i hy]
    have hne : ∀ m : Int, m ≠ 0 → (m = 0) = False := fun m hm => by simp [hm]
    split at h <;> first | (cases h; done) | skip
    all_goals
      simp only [Option.some.injEq, Prod.mk.injEq] at h
      obtain ⟨rfl, rfl⟩ := h
    · simp [eqGuard, binOp, Op.intArith, w64]
    · simp [eqGuard, binOp, Op.intArith, w64]
    · simp [eqGuard, binOp, Op.intArith, w64]
    · have h0' := nz_ok hn
      simp [eqGuard, binOp, Op.intDiv, w64, h0']
    · have h0' := nz_ok hn
      simp [eqGuard, binOp, Op.intDiv, h0']
    · simp [eqGuard, binOp, Op.intCmp]
    · simp [eqGuard, binOp, Op.intCmp]
    · simp [eqGuard, binOp, Op.intCmp]
    · simp [eqGuard, binOp, Op.intCmp]
    · simp [eqGuard, binOp, Op.intCmp]
    · simp [eqGuard, binOp, Op.intCmp, bne]
  · rename_i hx hy
    rw [den_b hx, den_b hy]
    split at h
    · rename_i hu
      split at h <;> first | (cases h; done) | skip
      all_goals
        simp only [Option.some.injEq, Prod.mk.injEq] at h
        obtain ⟨rfl, rfl⟩ := h
      · simp only [eqGuard, binOp, Sem.run_bind, Sem.run_pure, equal_bool hu, Result.andThen_ok, den_mkBeq]
        simp
      · simp only [eqGuard, binOp, Sem.run_bind, Sem.run_pure, equal_bool hu, Result.andThen_ok, den_mkBeq, den_mkNot, boolOf_bool]
        simp
    · cases h
  · cases h

theorem foldMx_ok : ∀ {l : List SV} {x e : E}, x.ty = .i → foldMx x l = some e → ∀ w : World, ((l.map (SV.den ρ)).foldlM Builtin.max2 (x.den ρ)).run P w = .ok (e.den ρ) w ∧ e.ty = .i
  | [], x, e, hx, h, w => by simp only [foldMx, Option.some.injEq] at h; subst h; exact ⟨rfl, hx⟩
  | .one y :: rest, x, e, hx, h, w => by
    simp only [foldMx] at h
    split at h
    · rename_i hy
      have ih := foldMx_ok (x := .mx x y) rfl h w
      refine ⟨?_, ih.2⟩
      have e1 : (Builtin.max2 (x.den ρ) (y.den ρ)).run P w = .ok ((E.mx x y).den ρ) w := by
        rw [den_i hx, den_i (Ty.same_eq hy).symm.symm, den_mx]
        simp only [Builtin.max2, Sem.run_pure]
        congr 2
        split <;> omega
      simp only [List.map_cons, List.foldlM_cons, Sem.run_bind, SV.den, e1, Result.andThen_ok]
      exact ih.1
    · cases h
  | .agg _ :: rest, x, e, hx, h, w => by simp [foldMx] at h
theorem foldMn_ok : ∀ {l : List SV} {x e : E}, x.ty = .i → foldMn x l = some e → ∀ w : World, ((l.map (SV.den ρ)).foldlM Builtin.min2 (x.den ρ)).run P w = .ok (e.den ρ) w ∧ e.ty = .i
  | [], x, e, hx, h, w => by simp only [foldMn, Option.some.injEq] at h; subst h; exact ⟨rfl, hx⟩
  | .one y :: rest, x, e, hx, h, w => by
    simp only [foldMn] at h
    split at h
    · rename_i hy
      have ih := foldMn_ok (x := .mn x y) rfl h w
      refine ⟨?_, ih.2⟩
      have e1 : (Builtin.min2 (x.den ρ) (y.den ρ)).run P w = .ok ((E.mn x y).den ρ) w := by
        rw [den_i hx, den_i (Ty.same_eq hy).symm.symm, den_mn]
        simp only [Builtin.min2, Sem.run_pure]
        congr 2
        split <;> omega
      simp only [List.map_cons, List.foldlM_cons, Sem.run_bind, SV.den, e1, Result.andThen_ok]
      exact ih.1
    · cases h
  | .agg _ :: rest, x, e, hx, h, w => by simp [foldMn] at h

section
variable {β : Nat → Nat} {A : Nat → Prop} {st : St} {a : Act} {g : Option (Nat × Bool)}

theorem svs_ok (hf : FitsA ρ β A st a.tmps) (hg : gOk a.tmps g) : ∀ {l : List Operand} {r : List SV}, svs st g l = some r → l.map a.eval = r.map (SV.den ρ)
  | [], r, h => by simp only [svs, Option.some.injEq] at h; subst h; rfl
  | x :: l, r, h => by
    simp only [svs] at h
    split at h
    · rename_i v l' hv hl
      injection h with h; subst h
      have h1 := (opnd_ok hf hv hg trivial).1
      simp only [List.map_cons, h1, S0.den, svs_ok hf hg hl]
    · cases h

theorem ptrs_ok (hf : FitsA ρ β A st a.tmps) (hg : gOk a.tmps g) : ∀ {l : List Operand} {r : List (Nat × Nat)}, ptrs st g l = some r → l.map a.eval = r.map (fun p => Value.pointer (some ⟨β p.1, p.2, none⟩)) ∧ ∀ p ∈ r, A p.1
  | [], r, h => by simp only [ptrs, Option.some.injEq] at h; subst h; exact ⟨rfl, fun p hp => by cases hp⟩
  | x :: l, r, h => by
    simp only [ptrs] at h
    split at h
    · rename_i b o l' hv hl
      injection h with h; subst h
      obtain ⟨h1, h2⟩ := opnd_ok hf hv hg trivial
      obtain ⟨h3, h4⟩ := ptrs_ok hf hg hl
      refine ⟨by simp only [List.map_cons, h1, S0.den, h3], fun p hp => ?_⟩
      rcases List.mem_cons.1 hp with rfl | hp
      · exact h2
      · exact h4 p hp
    · cases h

theorem partsE_ok (hf : FitsA ρ β A st a.tmps) (hg : gOk a.tmps g) : ∀ {l : List (Nat × Operand)} {r : List (Nat × SV)}, partsE st g l = some r → l.map (fun p => (p.1, a.eval p.2)) = r.map (fun p => (p.1, p.2.den ρ))
  | [], r, h => by simp only [partsE, Option.some.injEq] at h; subst h; rfl
  | (i, x) :: l, r, h => by
    simp only [partsE] at h
    split at h
    · rename_i v l' hv hl
      injection h with h; subst h
      have h1 := (opnd_ok hf hv hg trivial).1
      simp only [List.map_cons, h1, S0.den, partsE_ok hf hg hl]
    · cases h
end

theorem SV.cells_den (v : SV) : (v.den ρ).cells.toList = v.cells.map (E.den ρ) := by
  cases v with
  | one e => simp [SV.den, SV.cells, cells_of_one (den_one e)]
  | agg l => simp [SV.den, SV.cells, Value.cells]

theorem set_splice (new : List Value) : ∀ (k : Nat) (cells : Array Value), k + new.length ≤ cells.size →
    ((new.zipIdx 0).foldl (fun cs (p : Value × Nat) => cs.setIfInBounds (k + p.2) p.1) cells).toList = cells.toList.take k ++ new ++ cells.toList.drop (k + new.length) := by
  have key : ∀ (new : List Value) (j k : Nat) (cells : Array Value), k + j + new.length ≤ cells.size →
      ((new.zipIdx j).foldl (fun cs (p : Value × Nat) => cs.setIfInBounds (k + p.2) p.1) cells).toList = cells.toList.take (k + j) ++ new ++ cells.toList.drop (k + j + new.length) := by
    intro new
    induction new with
    | nil => intro j k cells _; simp
    | cons v new ih =>
      intro j k cells h
      simp only [List.zipIdx_cons, List.foldl_cons]
      rw [ih (j + 1) k _ (by simp at h ⊢; omega)]
      simp only [Array.toList_setIfInBounds]
      have e := list_seg_step cells.toList (k + j) v new (by simp at h ⊢; omega)
      simpa [Nat.add_assoc] using e
  intro k cells h
  simpa using key new 0 k cells (by simpa using h)

theorem fillE_ok {place : Nat → Option (Nat × Nat)} : ∀ {ps : List (Nat × SV)} {zs r : List E}, fillE place zs ps = some r →
    Instr.fill place (zs.map (E.den ρ)).toArray (ps.map (fun p => (p.1, p.2.den ρ))) = some (r.map (E.den ρ)).toArray
  | [], zs, r, h => by simp only [fillE, Option.some.injEq] at h; subst h; rfl
  | (i, x) :: ps, zs, r, h => by
    simp only [fillE] at h
    split at h
    · cases h
    · rename_i off size hp
      split at h
      · rename_i hc
        simp only [Bool.and_eq_true] at hc
        obtain ⟨h1, h2⟩ := hc
        have h1 := Nat.eq_of_beq_eq_true h1
        have h2 := Nat.le_of_ble_eq_true h2
        have hcl : (x.den ρ).cells.size = x.cells.length := by
          rw [← Array.length_toList, SV.cells_den]; simp
        have ih := fillE_ok h
        simp only [List.map_cons, Instr.fill, hp, hcl]
        rw [if_neg (by
          simp only [Bool.or_eq_true, ne_eq, decide_eq_true_eq, not_or, Decidable.not_not, gt_iff_lt, List.size_toArray, List.length_map]
          omega)]
        rw [← ih]
        congr 1
        apply Array.ext'
        have e := set_splice (x.cells.map (E.den ρ)) off (zs.map (E.den ρ)).toArray (by simpa using h2)
        have e2 : (x.den ρ).cells = (x.cells.map (E.den ρ)).toArray := by apply Array.ext'; simp [SV.cells_den]
        rw [e2]
        simp only [← Array.foldl_toList, Array.toList_zipIdx]
        rw [e]
        simp [splice, List.map_take, List.map_drop]
      · cases h

theorem fieldsSized_ok : ∀ {fs : List Field}, fieldsSized P fs = true → ∀ w : World,
    (fs.mapM (m := Sem) fun f => do pure (f.offset, ← sizeOf f.type)).run P w = .ok (fs.map fun f => (f.offset, ((P.info? f.type).map (·.size)).getD 0)) w
  | [], _, w => rfl
  | f :: fs, h, w => by
    simp only [fieldsSized, Bool.and_eq_true] at h
    obtain ⟨i, hi⟩ := Option.isSome_iff_exists.1 h.1
    have ih := fieldsSized_ok h.2 w
    simp only [List.mapM_cons, Sem.run_bind, sizeOf_run hi, Result.andThen_ok, Sem.run_pure, ih, List.map_cons, hi, Option.map_some, Option.getD_some]

end Go.Sx
