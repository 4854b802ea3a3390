/- The symbolic executor: what it tells of a function's code holds of every run. No conditions. -/
import Derived.Test.YtpbpbijjkmjjjaaSxInv
namespace Go.Sx
open Go Go.RowKit
variable {ρ : Env} {P : Program}

/-- A loop's further rounds. -/
inductive LoopsIn (P : Program) (c : Code) (Q : Exit → Act → World → Prop) : Act → World → Prop where
  | mk (a : Act) (w : World) (e : Frame → List Item → List Frame → Exit) (a' : Frame → List Item → List Frame → Act) (w' : Frame → List Item → List Frame → World)
    (hn : ∀ b k cs, e b k cs = .normal → LoopsIn P c Q (a' b k cs) (w' b k cs))
    (hq : ∀ b k cs, e b k cs ≠ .normal → Q (e b k cs) (a' b k cs) (w' b k cs))
    (harr : ∀ b k cs, Arrives P (lone (b.at a (.code c :: .inLoop c :: k)) cs w) b (.inLoop c :: k) cs (e b k cs) (a' b k cs) (w' b k cs)) : LoopsIn P c Q a w

theorem LoopsIn.arrives {c : Code} {Q : Exit → Act → World → Prop} {a : Act} {w : World} (h : LoopsIn P c Q a w) :
    ∀ b k cs, ∃ e a' w', Q e a' w' ∧ Arrives P (lone (b.at a (.code c :: .inLoop c :: k)) cs w) b k cs e a' w' := by
  induction h with
  | mk a w e a' w' hn hq harr ih =>
    intro b k cs
    have h1 := harr b k cs
    by_cases he : e b k cs = .normal
    · rw [he] at h1
      obtain ⟨e2, a2, w2, q2, arr2⟩ := ih b k cs he b k cs
      exact ⟨e2, a2, w2, q2, .of_steps (Steps.trans h1 (.one step_inLoop)) arr2⟩
    · exact ⟨_, _, _, hq b k cs he, .pass (x := .inLoop c) rfl (fun _ _ => .inl he) h1⟩

theorem LoopsIn.wp {c : Code} {Q : Exit → Act → World → Prop} {a : Act} {w : World} (h : LoopsIn P c Q a w) : (Code.loop c).wp P Q a w := fun b k cs =>
  let ⟨e, a', w', q, arr⟩ := h.arrives b k cs
  ⟨e, a', w', q, .of_steps (.one step_loop) arr⟩

/-- What is still to be done, once the code in hand has come to its end. -/
def wpK (P : Program) (Q : Exit → Act → World → Prop) : List K → Exit → Act → World → Prop
  | [], e, a, w => Q e a w
  | .code c :: k, .normal, a, w => c.wp P (wpK P Q k) a w
  | .code _ :: k, e, a, w => wpK P Q k e a w
  | .ops all l :: k, .normal, a, w => wpList P all (wpK P Q k) l a w
  | .ops _ _ :: k, e, a, w => wpK P Q k e a w
  | .inBlock id :: k, .exit id', a, w => if id' = id then wpK P Q k .normal a w else wpK P Q k (.exit id') a w
  | .inBlock _ :: k, e, a, w => wpK P Q k e a w
  | .inLoop c :: k, .normal, a, w => LoopsIn P c (wpK P Q k) a w
  | .inLoop _ :: k, e, a, w => wpK P Q k e a w

def X.to : X → Exit
  | .normal => .normal
  | .ret => .ret
  | .exit id => .exit id

theorem wpK_loop_normal {c : Code} {Q : Exit → Act → World → Prop} {k : List K} {e : Exit} {a : Act} {w : World} (he : e = .normal) (h : wpK P Q (.inLoop c :: k) e a w) : LoopsIn P c (wpK P Q k) a w := by
  subst he; exact h
theorem wpK_loop_other {c : Code} {Q : Exit → Act → World → Prop} {k : List K} {e : Exit} {a : Act} {w : World} (he : e ≠ .normal) (h : wpK P Q (.inLoop c :: k) e a w) : wpK P Q k e a w := by
  cases e <;> first | exact h | exact absurd rfl he
theorem loops_of_wp {c : Code} {Q : Exit → Act → World → Prop} {k : List K} {a : Act} {w : World} (h : c.wp P (wpK P Q (.inLoop c :: k)) a w) : LoopsIn P c (wpK P Q k) a w := by
  have h' : ∀ b k' cs, ∃ e a' w', wpK P Q (.inLoop c :: k) e a' w' ∧ Arrives P (lone (b.at a (.code c :: .inLoop c :: k')) cs w) b (.inLoop c :: k') cs e a' w' := fun b k' cs => h b (.inLoop c :: k') cs
  refine LoopsIn.mk a w (fun b k' cs => (h' b k' cs).choose) (fun b k' cs => (h' b k' cs).choose_spec.choose) (fun b k' cs => (h' b k' cs).choose_spec.choose_spec.choose) ?_ ?_ ?_
  · intro b k' cs he
    exact wpK_loop_normal he (h' b k' cs).choose_spec.choose_spec.choose_spec.1
  · intro b k' cs he
    exact wpK_loop_other he (h' b k' cs).choose_spec.choose_spec.choose_spec.1
  · intro b k' cs
    exact (h' b k' cs).choose_spec.choose_spec.choose_spec.2

theorem wpK_ret (Q : Exit → Act → World → Prop) (a : Act) (w : World) (h : Q .ret a w) : ∀ k : List K, wpK P Q k .ret a w
  | [] => h
  | .code _ :: k | .ops _ _ :: k | .inBlock _ :: k | .inLoop _ :: k => wpK_ret Q a w h k

theorem wpK_unwind (Q : Exit → Act → World → Prop) (a : Act) (w : World) (id : Nat) : ∀ {k k' : List K}, unwind id k = some k' → wpK P Q k' .normal a w → wpK P Q k (.exit id) a w
  | [], _, h, _ => by simp [unwind] at h
  | .code _ :: k, _, h, hh => wpK_unwind Q a w id (k := k) h hh
  | .ops _ _ :: k, _, h, hh => wpK_unwind Q a w id (k := k) h hh
  | .inLoop _ :: k, _, h, hh => wpK_unwind Q a w id (k := k) h hh
  | .inBlock id' :: k, k', h, hh => by
    simp only [unwind] at h
    simp only [wpK]
    split at h
    · rename_i he
      have he := Nat.eq_of_beq_eq_true he
      injection h with h; subst h
      rw [if_pos he]; exact hh
    · rename_i he
      rw [if_neg (fun e => he (by rw [e]; exact Nat.beq_refl _))]
      exact wpK_unwind Q a w id h hh
theorem wpK_unwind_none (Q : Exit → Act → World → Prop) (a : Act) (w : World) (id : Nat) (hh : Q (.exit id) a w) : ∀ {k : List K}, unwind id k = none → wpK P Q k (.exit id) a w
  | [], _ => hh
  | .code _ :: k, h => wpK_unwind_none Q a w id hh (k := k) h
  | .ops _ _ :: k, h => wpK_unwind_none Q a w id hh (k := k) h
  | .inLoop _ :: k, h => wpK_unwind_none Q a w id hh (k := k) h
  | .inBlock id' :: k, h => by
    simp only [unwind] at h
    simp only [wpK]
    split at h
    · cases h
    · rename_i he
      rw [if_neg (fun e => he (by rw [e]; exact Nat.beq_refl _))]
      exact wpK_unwind_none Q a w id hh h

theorem upon_skip' {o : Oper} {a : Act} {K : Act → World → Prop} {Q : Exit → Act → World → Prop} {w : World} : o.upon P a K Q (.ok .skip w) = K (a.put o.dst undef) w := rfl

theorem guardNeed_fits {β : Nat → Nat} {st : St} {a : Act} {t : Nat} {w : Bool} {l ns : List E} (hf : Fits ρ β st a.tmps) (h : guardNeed st t w l = some ns) (hn : ∀ c ∈ ns, boolOf (c.den ρ) = true) (hg : a.tmps.getD t undef = .bool w) :
    ∀ c ∈ l, boolOf (c.den ρ) = true := by
  unfold guardNeed at h
  split at h
  · simp
  · split at h
    · rename_i e he
      split at h
      · injection h with h; subst h
        have hs := (hf.slot _ _ he).1
        rw [hg] at hs
        have hb : boolOf (e.den ρ) = w := by
          have : e.den ρ = .bool w := hs.symm
          rw [this]; rfl
        intro c hc
        have := hn _ (List.mem_map.2 ⟨c, hc, rfl⟩)
        cases w with
        | true => simpa [hb] using this
        | false => simpa [hb] using this
      · cases h
    · cases h

/-- The blocks that were there are where they were. -/
structure Ext (β : Nat → Nat) (st : St) (β' : Nat → Nat) (st' : St) : Prop where
  eq : ∀ i, i < st.mem.length → β' i = β i
  len : st.mem.length ≤ st'.mem.length
theorem Ext.refl (β : Nat → Nat) (st : St) : Ext β st β st := ⟨fun _ _ => rfl, Nat.le_refl _⟩
theorem Ext.trans {β β' β'' : Nat → Nat} {st st' st'' : St} (h : Ext β st β' st') (h' : Ext β' st' β'' st'') : Ext β st β'' st'' :=
  ⟨fun i hi => (h'.eq i (Nat.lt_of_lt_of_le hi h.len)).trans (h.eq i hi), Nat.le_trans h.len h'.len⟩
theorem Ext.same {β : Nat → Nat} {st st' : St} (h : st'.mem.length = st.mem.length) : Ext β st β st' := ⟨fun _ _ => rfl, by omega⟩
theorem Ext.put {β : Nat → Nat} {st : St} (dst : Option Nat) (s : Sl) : Ext β st β (st.put dst s) := Ext.same (by rw [put_mem])
theorem Ext.new {β : Nat → Nat} {st st' : St} (n : Nat) (x : List E × Nat) (h : st'.mem = st.mem ++ [x]) : Ext β st (fun k => if k = st.mem.length then n else β k) st' :=
  ⟨fun i hi => if_neg (by omega), by rw [h]; simp⟩

section
variable {B : Nat} {w0 : World} {β : Nat → Nat} {st : St} {a : Act} {w : World}

/-- One operation of a region that draws no order. -/
theorem stepOp_ok (hΓ : ∀ x ∈ ρ.fns, x.holds P) {all : Array Oper} {o : Oper} {rest : List Oper} {Q : Exit → Act → World → Prop} (h : Inv P B w0 ρ β st a w) {st' : St} {needs : List E}
    (hs : stepOp P ρ.fns st all o = .ok st' needs) (hn : ∀ c ∈ needs, boolOf (c.den ρ) = true) (hK : ∀ β' a' w', Ext β st β' st' → Inv P B w0 ρ β' st' a' w' → wpList P all Q rest a' w') : wpList P all Q (o :: rest) a w := by
  refine wpList_step fun K hk => ?_
  replace hK : ∀ β' a' w', Ext β st β' st' → Inv P B w0 ρ β' st' a' w' → K a' w' := fun β' a' w' he hi => hk _ _ (hK β' a' w' he hi)
  clear hk
  unfold stepOp at hs
  split at hs
  · cases hs
  · rename_i hg
    injection hs with h1 h2; subst h1
    rw [if_neg (by rw [guardOf_no h.fits hg]; exact Bool.false_ne_true)]
    exact hK _ _ _ (Ext.put _ _) (h.put o.dst (s := .dead) trivial)
  · rename_i hg
    rw [if_pos (guardOf_yes h.fits hg)]
    split at hs
    · rename_i x needs' hp
      injection hs with h1 h2; subst h1; subst h2
      exact wp_pure (g := none) h trivial hp hn fun hl => hK _ _ _ (Ext.put _ _) (h.put o.dst (s := .full x) ⟨rfl, hl⟩)
    · split at hs
      · rename_i f l x hp
        injection hs with h1 h2; subst h1; subst h2
        exact wp_call (g := none) h trivial hΓ hp fun hl w' hb => hK _ _ _ (Ext.put _ _) ((h.world hb).put o.dst (s := .full x) ⟨rfl, hl _⟩)
      · split at hs
        · rename_i t x hop
          split at hs
          · rename_i v hv
            injection hs with h1 h2; subst h1; subst h2
            have hxv := (opnd_ok h.fits hv trivial trivial).1
            have hcells : (v.den ρ).cells = (v.cells.map (E.den ρ)).toArray := by apply Array.ext'; rw [SV.cells_den]
            have hrun : (execOp a.eval o).run P w = .ok (.value (.pointer (some ⟨w.heap.size, 0, none⟩))) (w.alloc (.cells (v.cells.map (E.den ρ)).toArray t)) := by
              unfold execOp
              simp only [hop, Instr.box, newVar, newRow, hxv, S0.den, hcells, Sem.run_bind, run_newObj, Result.andThen_ok, Sem.run_pure]
              rfl
            unfold Oper.wp
            rw [hrun]
            exact hK _ _ _ (Ext.new _ _ rfl) (h.new o.dst v.cells t)
          · cases hs
        · rename_i t hop
          split at hs
          · rename_i inf hi
            split at hs
            · rename_i z hz
              split at hs
              · rename_i v hv
                injection hs with h1 h2; subst h1; subst h2
                have hzv : z = v.den ρ := by
                  have := cstS_den (ρ := ρ) (β := β) hv
                  exact this.symm
                have hcells : (v.den ρ).cells = (v.cells.map (E.den ρ)).toArray := by apply Array.ext'; rw [SV.cells_den]
                have hrun : (execOp a.eval o).run P w = .ok (.value (.pointer (some ⟨w.heap.size, 0, none⟩))) (w.alloc (.cells (v.cells.map (E.den ρ)).toArray t)) := by
                  unfold execOp
                  simp only [hop, Instr.alloc, newVar, newRow, Sem.run_bind, zeroValue_run hi hz, Result.andThen_ok, hzv, hcells, run_newObj, Sem.run_pure]
                  rfl
                unfold Oper.wp
                rw [hrun]
                exact hK _ _ _ (Ext.new _ _ rfl) (h.new o.dst v.cells t)
              · cases hs
            · cases hs
          · cases hs
        · rename_i t ad x hop
          split at hs
          · rename_i b off v inf had hx hi
            split at hs
            · rename_i cells T hb hd
              split at hs
              · rename_i hc
                simp only [Bool.and_eq_true] at hc
                obtain ⟨hc1, hc2⟩ := hc
                have hc1 := Nat.eq_of_beq_eq_true hc1
                have hc2 := Nat.le_of_ble_eq_true hc2
                injection hs with h1 h2; subst h1; subst h2
                have hxv := (opnd_ok h.fits hx trivial trivial).1
                have hav := (opnd_ok h.fits had trivial trivial).1
                have hcells : (v.den ρ).cells.toList = v.cells.map (E.den ρ) := SV.cells_den v
                have hsz : (v.den ρ).cells.size = inf.size := by rw [← Array.length_toList, hcells]; simpa using hc1
                have hst := run_storeCells_at P (β b) off T (v.cells.map (E.den ρ)) 0 (cells.map (E.den ρ)).toArray w (h.mem b cells T hb) (by simpa using hc2)
                  (fun u hu => by
                    obtain ⟨e, _, rfl⟩ := List.mem_map.1 hu
                    exact den_one e)
                have hrow : ((cells.map (E.den ρ)).toArray.toList.take (off + 0) ++ v.cells.map (E.den ρ) ++ (cells.map (E.den ρ)).toArray.toList.drop (off + 0 + (v.cells.map (E.den ρ)).length)) = (splice cells v.cells off).map (E.den ρ) := by
                  simp [splice, List.map_take, List.map_drop]
                rw [hrow] at hst
                have hrun : (execOp a.eval o).run P w = .ok .skip (w.setRow (β b) ((splice cells v.cells off).map (E.den ρ)).toArray) := by
                  unfold execOp
                  simp only [hop, Instr.storeAt, Instr.sureAddr, hav, hxv, S0.den, storeVar, Sem.run_bind, Sem.run_pure, Result.andThen_ok, sizeOf_run hi, Sem.run_ite, hsz, ne_eq, not_true, if_false, hcells, hst]
                unfold Oper.wp
                rw [hrun, upon_skip', hd]
                exact hK _ _ _ ⟨fun _ _ => rfl, by simp⟩ (h.stored hb)
              · cases hs
            · cases hs
          · cases hs
        · split at hs
          · rename_i x nds hr
            injection hs with h1 h2; subst h1; subst h2
            obtain ⟨hrun, hlow⟩ := readOp_ok (β := β) h.fits (fun s hs => (h.ins s hs).below h.below) hr hn
            unfold Oper.wp
            rw [hrun]
            exact hK _ _ _ (Ext.put _ _) (h.put o.dst (s := .full x) ⟨rfl, hlow _⟩)
          · split at hs
            · rename_i f l x hlo
              injection hs with h1 h2; subst h1; subst h2
              obtain ⟨hrun, hlow, hcl⟩ := locOp_ok (β := β) h.fits (fun s hs => (h.ins s hs).below h.below) h.base hlo
              unfold Oper.wp
              rw [hrun]
              exact hcl.mono fun e w' ⟨he, hb⟩ => by subst he; exact hK _ _ _ (Ext.put _ _) ((h.world hb).put o.dst (s := .full x) ⟨rfl, hlow _⟩)
            · cases hs
  · rename_i t want hg
    have hw := guardOf_undecided (a := a) hg
    by_cases hb : a.tmps.getD t undef = .bool want
    · rw [if_pos (hw.2 hb)]
      split at hs
      · rename_i x needs' hp
        split at hs
        · rename_i ns hns
          injection hs with h1 h2; subst h1; subst h2
          exact wp_pure (g := some (t, want)) h hb hp (guardNeed_fits h.fits hns hn hb) fun hl => hK _ _ _ (Ext.put _ _) (h.put o.dst (s := .may t want x) ⟨hl, fun _ => rfl⟩)
        · cases hs
      · split at hs
        · rename_i f l x hp
          injection hs with h1 h2; subst h1; subst h2
          exact wp_call (g := some (t, want)) h hb hΓ hp fun hl w' hbl => hK _ _ _ (Ext.put _ _) ((h.world hbl).put o.dst (s := .may t want x) ⟨hl _, fun _ => rfl⟩)
        · cases hs
    · rw [if_neg (fun e => hb (hw.1 e))]
      split at hs
      · rename_i x needs' hp
        split at hs
        · injection hs with h1 h2; subst h1; subst h2
          have hl : x.low (· < st.mem.length) := pureOp_low h.fits hp
          exact hK _ _ _ (Ext.put _ _) (h.put o.dst (s := .may t want x) ⟨hl, fun hc => absurd hc hb⟩)
        · cases hs
      · split at hs
        · rename_i f l x hp
          injection hs with h1 h2; subst h1; subst h2
          exact hK _ _ _ (Ext.put _ _) (h.put o.dst (s := .may t want x) ⟨callOp_low hp _, fun hc => absurd hc hb⟩)
        · cases hs
end
end Go.Sx
