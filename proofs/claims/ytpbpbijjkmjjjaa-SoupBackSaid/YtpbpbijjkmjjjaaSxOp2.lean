/- The symbolic executor: each operation that leaves the world alone yields what it is told to yield. No conditions. -/
import Derived.Test.YtpbpbijjkmjjjaaSxOp
namespace Go.Sx
open Go Go.RowKit
variable {ρ : Env} {P : Program}

theorem equalIn_int {t : TypeId} {k : IntKind} (hu : P.underlying t = some (.int k)) (d : Nat) (a b : Int) (w : World) : (Op.equalIn (d + 1) t (.int .i64 a) (.int .i64 b)).run P w = .ok (a == b) w := by
  simp [Op.equalIn, run_underlying hu]

theorem eqFields_flat (d : Nat) (xs ys : List E) (hx : allInt xs = true) (hy : allInt ys = true) (w : World) : ∀ (fs : List Field) (k : Nat), flatInts P fs k = true → k + fs.length = xs.length → k + fs.length = ys.length →
    (Op.eqFields (d + 1) (xs.map (E.den ρ)).toArray (ys.map (E.den ρ)).toArray fs).run P w = .ok (boolOf ((allE (xs.drop k) (ys.drop k)).den ρ)) w
  | [], k, _, h1, h2 => by
    have : xs.drop k = [] := List.drop_eq_nil_of_le (by simp at h1; omega)
    simp [Op.eqFields, this, allE]
  | f :: fs, k, h, h1, h2 => by
    simp only [flatInts, Bool.and_eq_true, bne_iff_ne] at h
    obtain ⟨⟨⟨hn, ho⟩, ht⟩, hr⟩ := h
    have ho := Nat.eq_of_beq_eq_true ho
    have hkx : k < xs.length := by simp at h1; omega
    have hky : k < ys.length := by simp at h2; omega
    have hu : P.underlying f.type = some (.int .i64) := by
      split at ht
      · assumption
      · cases ht
    have hag : (isAgg f.type).run P w = .ok false w := isAgg_run hu w
    have ix : (xs[k]).ty = .i := Ty.same_eq (List.all_eq_true.1 hx _ (List.getElem_mem hkx))
    have iy : (ys[k]).ty = .i := Ty.same_eq (List.all_eq_true.1 hy _ (List.getElem_mem hky))
    have px : (part f.type (xs.map (E.den ρ)).toArray f.offset).run P w = .ok (.int .i64 (intOf ((xs[k]).den ρ))) w := by
      rw [← den_i ix]
      simp [part, hag, ho, hkx]
    have py : (part f.type (ys.map (E.den ρ)).toArray f.offset).run P w = .ok (.int .i64 (intOf ((ys[k]).den ρ))) w := by
      rw [← den_i iy]
      simp [part, hag, ho, hky]
    have ih := eqFields_flat d xs ys hx hy w fs (k + 1) hr (by simp at h1; omega) (by simp at h2; omega)
    rw [List.drop_eq_getElem_cons hkx, List.drop_eq_getElem_cons hky]
    simp only [Op.eqFields, if_pos hn, Sem.run_bind, px, py, Result.andThen_ok, equalIn_int hu, Sem.run_ite, ih, Sem.run_pure, allE, den_mkAnd, den_mkEq, boolOf_bool]
    cases intOf ((xs[k]).den ρ) == intOf ((ys[k]).den ρ) <;> simp

theorem equal_flat {xT : TypeId} {xs ys : List E} {fs : Array Field} (hu : P.underlying xT = some (.struct fs)) (hf : flatInts P fs.toList 0 = true) (hsx : fs.size = xs.length) (hsy : fs.size = ys.length)
    (hx : allInt xs = true) (hy : allInt ys = true) (hp : P.stoodInHeld xT = false) (w : World) :
    (Op.equal xT (.agg (xs.map (E.den ρ)).toArray) (.agg (ys.map (E.den ρ)).toArray)).run P w = .ok (boolOf ((allE xs ys).den ρ)) w := by
  have hfo : P.fieldsOf xT = fs := by simp [Program.fieldsOf, hu]
  have h : (Op.equalIn (9998 + 1 + 1) xT (.agg (xs.map (E.den ρ)).toArray) (.agg (ys.map (E.den ρ)).toArray)).run P w = .ok (boolOf ((allE xs ys).den ρ)) w := by
    rw [run_equalIn_struct w (9998 + 1) xT _ _ (by rw [hfo]; exact hu) hp, hfo]
    have := eqFields_flat (ρ := ρ) 9998 xs ys hx hy w fs.toList 0 hf (by simpa using hsx) (by simpa using hsy)
    simpa using this
  exact h

theorem allE_b : ∀ (xs ys : List E), (allE xs ys).den ρ = .bool (boolOf ((allE xs ys).den ρ))
  | [], [] | [], _ :: _ | _ :: _, [] => rfl
  | x :: xs, y :: ys => by simp [allE]

theorem eqAgg_ok {xT : Nat} {x y : List E} {e : E} (h : eqAgg P xT x y = some e) (w : World) :
    (Op.equal xT (.agg (x.map (E.den ρ)).toArray) (.agg (y.map (E.den ρ)).toArray)).run P w = .ok (boolOf (e.den ρ)) w ∧ e.den ρ = .bool (boolOf (e.den ρ)) ∧ P.eqGuardType P.depth xT = false := by
  unfold eqAgg at h
  split at h
  · rename_i fs hu
    split at h
    · rename_i hc
      simp only [Bool.and_eq_true, Bool.not_eq_true'] at hc
      obtain ⟨⟨⟨⟨⟨⟨h1, h2⟩, h3⟩, h4⟩, h5⟩, h6⟩, h7⟩ := hc
      injection h with h; subst h
      exact ⟨equal_flat hu h1 (Nat.eq_of_beq_eq_true h2) (Nat.eq_of_beq_eq_true h3) h4 h5 h6 w, allE_b x y, h7⟩
    · cases h
  · cases h

theorem eqGuard_agg {op : BinOp} {t : TypeId} {a b : Operand} {x y : Array Value} (h : P.eqGuardType P.depth t = false) (w : World) : (eqGuard op t a b (.agg x) (.agg y)).run P w = .ok () w := by
  cases op <;> simp [eqGuard, h]

theorem buildE_ok {β : Nat → Nat} {A : Nat → Prop} {st : St} {a : Act} {g : Option (Nat × Bool)} (hf : FitsA ρ β A st a.tmps) (hg : gOk a.tmps g) {t : Nat} {parts : Array (Nat × Operand)} {l : List E} (h : buildE P st g t parts.toList = some l) (w : World) :
    (Instr.build t (parts.map fun (i, x) => (i, a.eval x))).run P w = .ok (.agg (l.map (E.den ρ)).toArray) w := by
  unfold buildE at h
  split at h
  · rename_i inf d hi hd
    split at h
    · rename_i z hz
      split at h
      · rename_i zs ps hzs hps
        have hzv := zeroValue_run hi hz w
        have hpe := partsE_ok hf hg hps
        have hze : z = (zs.map (E.den ρ)).toArray := by apply Array.ext'; simp [mapM_cst hzs]
        have hpl : (parts.map fun (p : Nat × Operand) => (p.1, a.eval p.2)).toList = ps.map (fun p => (p.1, p.2.den ρ)) := by
          rw [Array.toList_map]; exact hpe
        split at h
        · rename_i fs
          split at h
          · rename_i hs
            have hm := fieldsSized_ok hs w
            have hm' : (fs.mapM (m := Sem) fun f => do pure (f.offset, ← sizeOf f.type)).run P w = .ok (fs.map fun f => (f.offset, ((P.info? f.type).map (·.size)).getD 0)) w := by
              rw [← Array.toArray_toList (xs := fs), List.mapM_toArray, Sem.run_map]
              rw [hm]
              simp only [Result.andThen_ok]
              congr 1
              apply Array.ext'
              simp
            have hfill := fillE_ok (ρ := ρ) h
            have hplace : (fun i => (fs.map fun f => (f.offset, ((P.info? f.type).map (·.size)).getD 0))[i]?) = placeOf P (.struct fs) := by
              funext i
              simp only [placeOf, Array.getElem?_map]
              cases hfi : fs[i]? with
              | none => rfl
              | some f =>
                have hmem : f ∈ fs.toList := by
                  have := Array.mem_of_getElem? hfi
                  exact Array.mem_toList_iff.2 this
                have hall : ∀ (l : List Field), fieldsSized P l = true → ∀ f ∈ l, (P.info? f.type).isSome = true := by
                  intro l
                  induction l with
                  | nil => intro _ f hf; cases hf
                  | cons g l ih =>
                    intro hl f hf
                    simp only [fieldsSized, Bool.and_eq_true] at hl
                    rcases List.mem_cons.1 hf with rfl | hf
                    · exact hl.1
                    · exact ih hl.2 f hf
                obtain ⟨inf', hinf'⟩ := Option.isSome_iff_exists.1 (hall _ hs f hmem)
                simp [hinf']
            simp only [Instr.build, Sem.run_bind, hzv, Result.andThen_ok, run_underlying hd, hm', hpl, hplace, Value.cells]
            rw [hze, hfill]
            rfl
          · cases h
        · rename_i len e
          split at h
          · rename_i hs
            obtain ⟨inf', hinf'⟩ := Option.isSome_iff_exists.1 hs
            have hfill := fillE_ok (ρ := ρ) h
            have hplace : (fun i => some (i * inf'.size, inf'.size)) = placeOf P (.array len e) := by
              funext i
              simp [placeOf, hinf']
            simp only [Instr.build, Sem.run_bind, hzv, Result.andThen_ok, run_underlying hd, sizeOf_run hinf', hpl, hplace, Value.cells]
            rw [hze, hfill]
            rfl
          · cases h
        · cases h
      · cases h
    · cases h
  · cases h

end Go.Sx
