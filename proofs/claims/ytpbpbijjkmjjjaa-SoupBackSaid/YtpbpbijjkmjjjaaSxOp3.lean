/- The symbolic executor: each operation that leaves the world alone yields what it is told to yield. No conditions. -/
import Derived.Test.YtpbpbijjkmjjjaaSxOp2
namespace Go.Sx
open Go Go.RowKit
variable {ρ : Env} {P : Program}

theorem pureOp_okA {β : Nat → Nat} {A : Nat → Prop} {st : St} {a : Act} {g : Option (Nat × Bool)} {w : World} {o : Oper} (hf : FitsA ρ β A st a.tmps) (hm : ∀ b, loadBlock st g o.op = some b → MemAt ρ β st.mem w b) (hg : gOk a.tmps g)
    {x : S0} {needs : List E} (h : pureOp P st g o.op = some (x, needs)) (hn : ∀ c ∈ needs, boolOf (c.den ρ) = true) :
    (execOp a.eval o).run P w = .ok (.value (x.den ρ β)) w ∧ x.low A := by
  have mv : ∀ {y : Operand}, (opnd st g none y).map (·, ([] : List E)) = some (x, needs) → a.eval y = x.den ρ β ∧ x.low A := by
    intro y hy
    rw [Option.map_eq_some_iff] at hy
    obtain ⟨s, hs, he⟩ := hy
    injection he with he _
    subst he
    exact opnd_ok hf hs hg trivial
  unfold execOp
  unfold pureOp at h
  split at h
  -- move, assign
  · rename_i y hop
    obtain ⟨h1, h2⟩ := mv h
    simp only [hop]
    exact ⟨by simp [h1], h2⟩
  · rename_i y hop
    obtain ⟨h1, h2⟩ := mv h
    simp only [hop]
    exact ⟨by simp [h1], h2⟩
  -- pick
  · rename_i c ya yb hop
    simp only [hop]
    split at h
    · rename_i hc
      obtain ⟨h1, h2⟩ := mv h
      have hcv := (opnd_ok hf hc hg trivial).1
      refine ⟨?_, h2⟩
      simp [hcv, S0.den, SV.den, asBool, h1]
    · rename_i hc
      obtain ⟨h1, h2⟩ := mv h
      have hcv := (opnd_ok hf hc hg trivial).1
      refine ⟨?_, h2⟩
      simp [hcv, S0.den, SV.den, asBool, h1]
    · rename_i e _ _ hc
      have hcv := (opnd_ok hf hc hg trivial).1
      split at h
      · rename_i hty
        split at h
        · rename_i t
          split at h
          · rename_i p q hp hq
            split at h
            · rename_i hpq
              simp only [Option.some.injEq, Prod.mk.injEq] at h
              obtain ⟨rfl, rfl⟩ := h
              refine ⟨?_, trivial⟩
              simp only [S0.den, SV.den] at hcv
              rw [hcv, den_b (Ty.same_eq hty)]
              simp only [asBool, Sem.run_bind, Sem.run_pure, Result.andThen_ok, S0.den, SV.den, den_mkIte _ _ _ _ rfl (Ty.same_eq hpq).symm]
              have hcv' : a.tmps.getD t undef = .bool (boolOf (e.den ρ)) := by
                rw [← den_b (Ty.same_eq hty)]; exact hcv
              cases hb : boolOf (e.den ρ) with
              | true =>
                have h1 := (opnd_ok (h := some (t, true)) hf hp hg (by rw [hb] at hcv'; exact hcv')).1
                simp [h1, S0.den, SV.den]
              | false =>
                have h1 := (opnd_ok (h := some (t, false)) hf hq hg (by rw [hb] at hcv'; exact hcv')).1
                simp [h1, S0.den, SV.den]
            · cases h
          · cases h
        · cases h
      · cases h
    · cases h
  -- build
  · rename_i t parts hop
    simp only [hop]
    rw [Option.map_eq_some_iff] at h
    obtain ⟨l, hl, he⟩ := h
    injection he with he _
    subst he
    refine ⟨?_, trivial⟩
    rw [Sem.run_bind, buildE_ok hf hg hl w]
    rfl
  -- load
  · rename_i t y hop
    simp only [hop]
    split at h
    · rename_i b off hy
      split at h
      · rename_i cells T hb
        rw [Option.map_eq_some_iff] at h
        obtain ⟨v, hv, he⟩ := h
        injection he with he _
        subst he
        refine ⟨?_, trivial⟩
        have hyv := (opnd_ok hf hy hg trivial).1
        simp only [hyv, S0.den, Instr.loadAt, Instr.sureAddr, Sem.run_bind, Sem.run_pure, Result.andThen_ok, loadVar_run (hm b (by simp [loadBlock, hop, hy])) hb hv]
      · cases h
    · cases h
  -- fieldAddr
  · rename_i s y f hop
    simp only [hop]
    split at h
    · rename_i b off fs hy hu
      split at h
      · rename_i fd hfd
        split at h
        · rename_i inf hi
          split at h
          · cases h
          · rename_i hz
            simp only [Option.some.injEq, Prod.mk.injEq] at h
            obtain ⟨rfl, rfl⟩ := h
            obtain ⟨hyv, hyl⟩ := opnd_ok hf hy hg trivial
            refine ⟨?_, hyl⟩
            have hz' : inf.size ≠ 0 := fun e => hz (by rw [e]; rfl)
            simp only [hyv, S0.den, Instr.fieldAt, Instr.sureAddr, fieldPlace, Sem.run_bind, run_underlying hu, Result.andThen_ok, hfd, Sem.run_pure, sizeOf_run hi, Sem.run_ite, if_neg hz', addr_add]
        · cases h
      · cases h
    · cases h
  -- field
  · rename_i s y f hop
    simp only [hop]
    split at h
    · rename_i l fs hy hu
      split at h
      · rename_i fd hfd
        rw [Option.map_eq_some_iff] at h
        obtain ⟨v, hv, he⟩ := h
        injection he with he _
        subst he
        have hyv := (opnd_ok hf hy hg trivial).1
        refine ⟨?_, trivial⟩
        simp only [hyv, S0.den, SV.den, Instr.field, asAgg, Sem.run_bind, run_underlying hu, Result.andThen_ok, hfd, Sem.run_pure, part_run hv]
      · cases h
    · cases h
  -- indexAddr
  · rename_i t y i hop
    simp only [hop]
    split at h
    · rename_i b off n len e hy hi hu
      split at h
      · rename_i inf hinf
        split at h
        · rename_i hc
          simp only [Bool.and_eq_true, decide_eq_true_eq] at hc
          simp only [Option.some.injEq, Prod.mk.injEq] at h
          obtain ⟨rfl, rfl⟩ := h
          obtain ⟨hyv, hyl⟩ := opnd_ok hf hy hg trivial
          have hiv := (opnd_ok hf hi hg trivial).1
          refine ⟨?_, hyl⟩
          have hel : P.elem t = e := by simp [Program.elem, hu]
          have har : P.arrayLen t = len := by simp [Program.arrayLen, hu]
          simp only [hyv, hiv, S0.den, SV.den, den_int, Sem.run_bind]
          rw [run_indexAt_array w t _ _ _ (by rw [har, hel]; exact hu), har, hel, if_pos hc, sizeOf_run hinf]
          simp [addr_add]
        · cases h
      · cases h
    · cases h
  -- index
  · rename_i t y i hop
    simp only [hop]
    split at h
    · rename_i l n len e hy hi hu
      split at h
      · rename_i inf hinf
        split at h
        · rename_i hc
          simp only [Bool.and_eq_true, decide_eq_true_eq] at hc
          rw [Option.map_eq_some_iff] at h
          obtain ⟨v, hv, he⟩ := h
          injection he with he _
          subst he
          have hyv := (opnd_ok hf hy hg trivial).1
          have hiv := (opnd_ok hf hi hg trivial).1
          refine ⟨?_, trivial⟩
          simp only [hyv, hiv, S0.den, SV.den, den_int, Instr.index, asIntOf, Sem.run_bind, Sem.run_pure, Result.andThen_ok, run_underlying hu, Sem.run_ite, if_pos hc, sizeOf_run hinf, part_run hv]
        · cases h
      · cases h
    · cases h
  -- binOp
  · rename_i op xT y z yT hop
    simp only [hop]
    split at h
    · rename_i p q hp hq
      rw [Option.map_eq_some_iff] at h
      obtain ⟨⟨e, ns⟩, hr, he⟩ := h
      simp only [Prod.mk.injEq] at he
      obtain ⟨rfl, rfl⟩ := he
      have hpv := (opnd_ok hf hp hg trivial).1
      have hqv := (opnd_ok hf hq hg trivial).1
      refine ⟨?_, trivial⟩
      have hb := binE_ok hr hn w y z
      rw [hpv, hqv, Sem.run_bind]
      simp only [S0.den, SV.den]
      rw [hb]
      rfl
    · rename_i p q hp hq
      have hpv := (opnd_ok hf hp hg trivial).1
      have hqv := (opnd_ok hf hq hg trivial).1
      split at h
      · rw [Option.map_eq_some_iff] at h
        obtain ⟨e, hr, he⟩ := h
        simp only [Prod.mk.injEq] at he
        obtain ⟨rfl, rfl⟩ := he
        obtain ⟨h1, h2, h3⟩ := eqAgg_ok (ρ := ρ) hr w
        refine ⟨?_, trivial⟩
        simp only [hpv, hqv, S0.den, SV.den, Sem.run_bind, eqGuard_agg h3, Result.andThen_ok, binOp, h1, Sem.run_pure, ← h2]
      · rw [Option.map_eq_some_iff] at h
        obtain ⟨e, hr, he⟩ := h
        simp only [Prod.mk.injEq] at he
        obtain ⟨rfl, rfl⟩ := he
        obtain ⟨h1, h2, h3⟩ := eqAgg_ok (ρ := ρ) hr w
        refine ⟨?_, trivial⟩
        simp only [hpv, hqv, S0.den, SV.den, Sem.run_bind, eqGuard_agg h3, Result.andThen_ok, binOp, h1, Sem.run_pure, den_mkNot]
      · cases h
    · cases h
  -- unOp
  · rename_i op xT y hop
    simp only [hop]
    split at h
    · rename_i e hy
      have hyv := (opnd_ok hf hy hg trivial).1
      split at h
      · rename_i hty
        simp only [Option.some.injEq, Prod.mk.injEq] at h
        obtain ⟨rfl, rfl⟩ := h
        refine ⟨?_, trivial⟩
        simp only [hyv, S0.den, SV.den]
        rw [den_i hty]
        simp [Op.unary, Op.intArith, w64]
      · rename_i hty
        simp only [Option.some.injEq, Prod.mk.injEq] at h
        obtain ⟨rfl, rfl⟩ := h
        refine ⟨?_, trivial⟩
        simp only [hyv, S0.den, SV.den]
        rw [den_b hty]
        simp [Op.unary]
      · cases h
    · cases h
  -- extract
  · rename_i y i hop
    simp only [hop]
    split at h
    · rename_i l hy
      rw [Option.map_eq_some_iff] at h
      obtain ⟨v, hv, he⟩ := h
      injection he with he _
      subst he
      have hyv := (opnd_ok hf hy hg trivial).1
      refine ⟨?_, trivial⟩
      simp [hyv, S0.den, Instr.extract, hv]
    · cases h
  -- nilCheck
  · rename_i y hop
    simp only [hop]
    split at h
    · rename_i b off hy
      simp only [Option.some.injEq, Prod.mk.injEq] at h
      obtain ⟨rfl, rfl⟩ := h
      obtain ⟨hyv, hyl⟩ := opnd_ok hf hy hg trivial
      refine ⟨?_, hyl⟩
      simp [hyv, S0.den]
    · cases h
  -- a function value
  · rename_i fn first captured hop
    simp only [hop]
    split at h
    · rename_i f l hfirst hl
      simp only [Option.some.injEq, Prod.mk.injEq] at h
      obtain ⟨rfl, rfl⟩ := h
      obtain ⟨h1, h2⟩ := ptrs_ok (β := β) hf hg hl
      have hfi : first = #[] := by cases first; simp at hfirst; rw [hfirst]
      refine ⟨?_, h2⟩
      have hl2 : captured.map a.eval = (l.map fun p => Value.pointer (some ⟨β p.1, p.2, none⟩)).toArray := by apply Array.ext'; rw [Array.toList_map, h1]
      simp only [Instr.makeFunc, hfi, hl2, S0.den, Array.map_empty, Sem.run_bind, Sem.run_pure, Result.andThen_ok]
    · cases h
  -- call of max, min
  · rename_i c hop
    simp only [hop]
    split at h
    · rename_i hcal
      split at h
      · rename_i y rest hs
        split at h
        · rename_i hty
          rw [Option.map_eq_some_iff] at h
          obtain ⟨e, he, hx⟩ := h
          injection hx with hx _
          subst hx
          refine ⟨?_, trivial⟩
          have hargs := svs_ok hf hg hs
          have hfold := (foldMx_ok (ρ := ρ) (P := P) (Ty.same_eq hty) he w).1
          have hl : (c.args.map a.eval).toList = y.den ρ :: rest.map (SV.den ρ) := by rw [Array.toList_map, hargs]; rfl
          simp only [resolve, hcal, Sem.run_bind, Sem.run_pure, Result.andThen_ok, invoke, builtin, Builtin.max_, hl, hfold, S0.den, SV.den]
        · cases h
      · cases h
    · rename_i hcal
      split at h
      · rename_i y rest hs
        split at h
        · rename_i hty
          rw [Option.map_eq_some_iff] at h
          obtain ⟨e, he, hx⟩ := h
          injection hx with hx _
          subst hx
          refine ⟨?_, trivial⟩
          have hargs := svs_ok hf hg hs
          have hfold := (foldMn_ok (ρ := ρ) (P := P) (Ty.same_eq hty) he w).1
          have hl : (c.args.map a.eval).toList = y.den ρ :: rest.map (SV.den ρ) := by rw [Array.toList_map, hargs]; rfl
          simp only [resolve, hcal, Sem.run_bind, Sem.run_pure, Result.andThen_ok, invoke, builtin, Builtin.min_, hl, hfold, S0.den, SV.den]
        · cases h
      · cases h
    · cases h
  · cases h

theorem pureOp_ok {β : Nat → Nat} {st : St} {a : Act} {g : Option (Nat × Bool)} {w : World} (hf : Fits ρ β st a.tmps) (hm : MemOk ρ β st.mem w) (hg : gOk a.tmps g)
    {o : Oper} {x : S0} {needs : List E} (h : pureOp P st g o.op = some (x, needs)) (hn : ∀ c ∈ needs, boolOf (c.den ρ) = true) :
    (execOp a.eval o).run P w = .ok (.value (x.den ρ β)) w ∧ x.low (· < st.mem.length) := pureOp_okA hf (fun b _ => hm b) hg h hn

end Go.Sx
