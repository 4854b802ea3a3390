/- The symbolic executor: a region that draws its order, with new blocks and stores: whatever order is drawn, what is told holds. No conditions. -/
import Derived.Test.YtpbpbijjkmjjjaaSxReg3
namespace Go.Sx
open Go Go.RowKit
variable {ρ : Env} {P : Program}

section
variable {B : Nat} {w0 : World} {β : Nat → Nat} {ops : Array Oper} {st0 : St} {news : List (List E × Nat)} {rs : List OR} {needs : List E} {reads : List (Option Nat)} {D : Nat → Bool} {a : Act} {w : World}

theorem allocs_take_lt {l : List Oper} : ∀ {j k : Nat} {o : Oper}, l[j]? = some o → isAlloc o.op = true → j < k → allocs (l.take j) < allocs (l.take k) := by
  intro j k o hj ha hjk
  have h1 : allocs (l.take (j + 1)) = allocs (l.take j) + 1 := by
    have e : l.take (j + 1) = l.take j ++ [o] := by rw [List.take_add_one, hj]; rfl
    unfold allocs
    rw [e, List.filter_append]
    simp [ha]
  have h2 : allocs (l.take (j + 1)) ≤ allocs (l.take k) := by
    have e : l.take (j + 1) = (l.take k).take (j + 1) := by rw [List.take_take]; congr 1; omega
    unfold allocs
    rw [e]
    exact ((List.take_sublist _ _).filter _).length_le
  omega

theorem Rgn.at (h : Rgn P ρ ops st0 news rs needs reads) {k : Nat} {o : Oper} (ho : ops[k]? = some o) : ∃ ns rd, regionOp P ρ.fns st0.mem.length (st0.mem.length + allocs (ops.toList.take k)) ops { tmps := maskSlots (ancsFrom ops.toList []) k ops.toList (rs.take k) 0 (killAll (dstsOf ops.toList) st0.tmps), mem := st0.mem ++ news } o = some (rs.getD k .skip, ns, rd) ∧
    reads.getD k none = rd ∧ ∀ c ∈ ns, boolOf (c.den ρ) = true := by
  obtain ⟨_, x, ns, rd, h1, h2, h3, h4⟩ := h.fact k o ho
  have e : rs.getD k .skip = x := by rw [List.getD_eq_getElem?_getD, h2]; rfl
  exact ⟨ns, rd, by rw [e]; exact h1, by rw [List.getD_eq_getElem?_getD, h3]; rfl, fun c hc => h.need c (h4 c hc)⟩

theorem Rgn.new_at (h : Rgn P ρ ops st0 news rs needs reads) {j b : Nat} (hj : rs.getD j .skip = .new b) : ∃ o, ops[j]? = some o ∧ isAlloc o.op = true ∧ b = st0.mem.length + allocs (ops.toList.take j) := by
  have hlt : j < ops.size := by
    rcases Nat.lt_or_ge j rs.length with h1 | h1
    · rw [h.len] at h1; exact h1
    · rw [List.getD_eq_getElem?_getD, List.getElem?_eq_none h1] at hj; cases hj
  have ho : ops[j]? = some ops[j] := by simp [hlt]
  obtain ⟨ns, rd, h1, _, _⟩ := h.at ho
  rw [hj] at h1
  obtain ⟨h2, h3⟩ := regionOp_new h1
  exact ⟨_, ho, h2, h3⟩

theorem Rgn.new_inj (h : Rgn P ρ ops st0 news rs needs reads) {i j b : Nat} (hi : rs.getD i .skip = .new b) (hj : rs.getD j .skip = .new b) : i = j := by
  obtain ⟨oi, h1, h2, h3⟩ := h.new_at hi
  obtain ⟨oj, h4, h5, h6⟩ := h.new_at hj
  rcases Nat.lt_trichotomy i j with hlt | he | hlt
  · have := allocs_take_lt (l := ops.toList) (by simpa using h1) h2 hlt; omega
  · exact he
  · have := allocs_take_lt (l := ops.toList) (by simpa using h4) h5 hlt; omega

theorem RI.memAt (h : RI B w0 ρ β ops st0 news rs D a w) {b : Nat} (hb : Al st0.mem.length rs D b) (hno : ∀ j off cs, D j = true → rs.getD j .skip ≠ .sto b off cs) : MemAt ρ β (st0.mem ++ news) w b := by
  intro c T hc
  have h1 := h.mem b hb c T hc
  rwa [applyB_none rs 0 c (fun i hi off cs => by rw [Nat.zero_add] at hi; exact hno i off cs hi)] at h1

theorem RI.lt (h : RI B w0 ρ β ops st0 news rs D a w) (hR : Rgn P ρ ops st0 news rs needs reads) {b : Nat} (hb : Al st0.mem.length rs D b) : β b < w.heap.size := by
  have hl : b < (st0.mem ++ news).length := by
    rw [List.length_append]
    rcases hb with h1 | ⟨j, _, h2⟩
    · omega
    · obtain ⟨o, h3, h4, h5⟩ := hR.new_at h2
      have := allocs_take_lt (l := ops.toList) (k := ops.toList.length) (by simpa using h3) h4 (by
        have := (Array.getElem?_eq_some_iff.1 h3).1
        simpa using this)
      rw [List.take_length] at this
      have := (newBlocks_ok hR.nb).1
      omega
  have h1 := h.mem b hb _ _ (List.getElem?_eq_getElem hl)
  rcases Nat.lt_or_ge (β b) w.heap.size with h2 | h2
  · exact h2
  · rw [Array.getElem?_eq_none h2] at h1; cases h1

/-- One operation of the region. -/
theorem RI.step (hΓ : ∀ x ∈ ρ.fns, x.holds P) (hR : Rgn P ρ ops st0 news rs needs reads) {Q : Exit → Act → World → Prop} (h : RI B w0 ρ β ops st0 news rs D a w) (hD : Closed ops D) {k : Nat} {o : Oper} (ho : ops[k]? = some o) (hk : D k = false)
    (hdeps : ∀ e ∈ o.after, Region.binds .any e = true → D e.on = true) {K : Act → World → Prop} (hK : ∀ β' a' w', (∀ i, i < st0.mem.length → β' i = β i) → RI B w0 ρ β' ops st0 news rs (fun i => D i || Nat.beq i k) a' w' → K a' w') :
    if Region.wanted o (yielded ops a.tmps) = true then o.wp P a w K Q else K (a.put o.dst undef) w := by
  obtain ⟨ns, rd, hrun, hrd, hns⟩ := hR.at ho
  have hf := h.fits hR hD ho hk hdeps
  generalize hM : ({ tmps := maskSlots (ancsFrom ops.toList []) k ops.toList (rs.take k) 0 (killAll (dstsOf ops.toList) st0.tmps), mem := st0.mem ++ news } : St) = M at hrun hf
  have hMm : M.mem = st0.mem ++ news := by rw [← hM]
  have hdk : ∀ o', ops[k]? = some o' → ∀ e ∈ o'.after, Region.binds .any e = true → D e.on = true := by
    intro o' ho'
    have : o = o' := Option.some.inj (ho.symm.trans ho')
    subst this; exact hdeps
  -- a load finds its block as it was
  have hload : ∀ b, rd = some b → b < st0.mem.length → MemAt ρ β M.mem w b := by
    intro b hb hlt
    rw [hMm]
    refine h.memAt (.inl hlt) fun j off cs hDj hs => ?_
    have hanc := hR.sto_load hs (hrd.trans hb)
    have := hanc.done hD (fun o'' ho'' => hD j o'' ho'' hDj)
    rw [hk] at this; cases this
  have hmA : ∀ g, rd = loadBlock M g o.op → (isLoad o.op = true → ∃ b, loadBlock M g o.op = some b ∧ b < st0.mem.length) → ∀ b, loadBlock M g o.op = some b → MemAt ρ β M.mem w b := by
    intro g hg hl b hb
    have hil : isLoad o.op = true := by
      cases hop : o.op <;> first | rfl | (rw [hop] at hb; simp [loadBlock] at hb)
    obtain ⟨b', hb', hlt⟩ := hl hil
    have : b = b' := Option.some.inj (hb.symm.trans hb')
    subst this
    exact hload b (hg.trans hb) hlt
  cases hx : rs.getD k .skip with
  | skip =>
    rw [hx] at hrun
    have hno : guardOf M ops o = .no := by
      unfold regionOp at hrun
      split at hrun
      · cases hrun
      · split at hrun
        · cases hrun
        · assumption
        · split at hrun
          · simp at hrun
          · split at hrun
            · split at hrun
              · split at hrun <;> simp at hrun
              · cases hrun
            · cases hrun
          · split at hrun
            · split at hrun <;> simp at hrun
            · split at hrun <;> simp at hrun
        · split at hrun
          · cases hrun
          · split at hrun
            · split at hrun
              · cases hrun
              · split at hrun <;> simp at hrun
            · split at hrun <;> simp at hrun
    rw [if_neg (by rw [guardOf_no hf hno]; exact Bool.false_ne_true)]
    exact hK _ _ _ (fun _ _ => rfl) (h.plain hR hD ho hk (Below.refl _ _) (fun b e => by rw [hx] at e; cases e) (fun b off cs e => by rw [hx] at e; cases e) (fun t ht => by rw [hx]; exact trivial))
  | val s =>
    rw [hx] at hrun
    have pl : ∀ {w' : World} {v : Value}, Below w.heap.size w w' → (∀ t, o.dst = some t → slotOk ρ β (Al st0.mem.length rs D) (a.put o.dst v).tmps s v) → K (a.put o.dst v) w' := fun hb hs =>
      hK _ _ _ (fun _ _ => rfl) (h.plain hR hD ho hk hb (fun b e => by rw [hx] at e; cases e) (fun b off cs e => by rw [hx] at e; cases e) (fun t ht => by rw [hx]; exact hs t ht))
    rcases regionOp_val hrun with ⟨x, rfl, hg, hp | ⟨f, l, hp⟩⟩ | ⟨x, t, wt, rfl, hg, hp⟩
    · obtain ⟨hp1, hp2, hp3⟩ := hp
      rw [if_pos (guardOf_yes hf hg)]
      obtain ⟨h1, h2⟩ := pureOp_okA hf (hmA none hp2 hp3) (g := none) trivial hp1 hns
      unfold Oper.wp
      rw [h1]
      exact pl (Below.refl _ _) fun _ _ => ⟨rfl, h2⟩
    · rw [if_pos (guardOf_yes hf hg)]
      obtain ⟨h1, h2, h3⟩ := callOp_ok (β := β) (w := w) hf (g := none) trivial hΓ hp
      unfold Oper.wp
      rw [h1]
      exact (h3 w).mono fun e w' ⟨he, hb⟩ => by subst he; exact pl hb fun _ _ => ⟨rfl, h2 _⟩
    · have hw := guardOf_undecided (a := a) hg
      have hgt : ∀ u, o.dst = some u → ∀ v, (a.put o.dst v).tmps.getD t undef = a.tmps.getD t undef := by
        intro u hu v
        refine put_getD fun e => ?_
        have hanc := hR.may_first ho (x := x) (w := wt) (t := t) (by rw [hx]; rfl) ho e
        exact absurd (hanc.lt hR.deps) (Nat.lt_irrefl _)
      by_cases hb : a.tmps.getD t undef = .bool wt
      · rw [if_pos (hw.2 hb)]
        rcases hp with ⟨nds, hp1, hp2, hp3, hp4⟩ | ⟨f, l, hp⟩
        · have hnd := guardNeed_ok hf hp2 hns hb
          obtain ⟨h1, h2⟩ := pureOp_okA hf (hmA _ hp3 hp4) (g := some (t, wt)) hb hp1 hnd
          unfold Oper.wp
          rw [h1]
          exact pl (Below.refl _ _) fun _ _ => ⟨h2, fun _ => rfl⟩
        · obtain ⟨h1, h2, h3⟩ := callOp_ok (β := β) (w := w) hf (g := some (t, wt)) hb hΓ hp
          unfold Oper.wp
          rw [h1]
          exact (h3 w).mono fun e w' ⟨he, hbl⟩ => by subst he; exact pl hbl fun _ _ => ⟨h2 _, fun _ => rfl⟩
      · rw [if_neg (fun e => hb (hw.1 e))]
        have hl : x.low (Al st0.mem.length rs D) := by
          rcases hp with ⟨nds, hp1, _⟩ | ⟨f, l, hp⟩
          · exact pureOp_low hf hp1
          · exact callOp_low hp _
        exact pl (Below.refl _ _) fun u hu => ⟨hl, fun hc => absurd (by rw [← hgt u hu undef]; exact hc) hb⟩
  | new b =>
    rw [hx] at hrun
    obtain ⟨hal, hbn⟩ := regionOp_new hrun
    obtain ⟨_, hgu⟩ := regionOp_alloc hal hrun
    rw [if_pos (guard_none hgu)]
    obtain ⟨t, inf, z, v, hop, hi, hz, hv, hnew⟩ := (newBlocks_ok hR.nb).2 k o (by simpa using ho) hal
    have hzv : z = v.den ρ := (cstS_den (ρ := ρ) (β := β) hv).symm
    have hcells : (v.den ρ).cells = (v.cells.map (E.den ρ)).toArray := by apply Array.ext'; rw [SV.cells_den]
    have hrunw : (execOp a.eval o).run P w = .ok (.value (.pointer (some ⟨w.heap.size, 0, none⟩))) (w.alloc (.cells (v.cells.map (E.den ρ)).toArray t)) := by
      unfold execOp
      simp only [hop, Instr.alloc, newVar, newRow, Sem.run_bind, zeroValue_run hi hz, Result.andThen_ok, hzv, hcells, run_newObj, Sem.run_pure]
      rfl
    have hnotAl : ¬ Al st0.mem.length rs D b := by
      rintro (h1 | ⟨j, h1, h2⟩)
      · omega
      · have := hR.new_inj h2 hx
        subst this
        rw [hk] at h1; cases h1
    have hAl : ∀ i, Al st0.mem.length rs D i → Al st0.mem.length rs (fun i => D i || Nat.beq i k) i := by
      rintro i (h1 | ⟨j, h1, h2⟩)
      · exact .inl h1
      · exact .inr ⟨j, by simp [h1], h2⟩
    have hAl' : ∀ i, Al st0.mem.length rs (fun i => D i || Nat.beq i k) i → Al st0.mem.length rs D i ∨ i = b := by
      rintro i (h1 | ⟨j, h1, h2⟩)
      · exact .inl (.inl h1)
      · rw [Bool.or_eq_true] at h1
        rcases h1 with h1 | h1
        · exact .inl (.inr ⟨j, h1, h2⟩)
        · have := Nat.eq_of_beq_eq_true h1
          subst this
          rw [hx] at h2
          injection h2 with h2
          exact .inr h2.symm
    have hap : ∀ b c, applyB b (rsD (fun i => D i || Nat.beq i k) rs 0) c = applyB b (rsD D rs 0) c := by
      intro b c
      refine applyB_congr rs 0 c fun i off cs hi => ?_
      rw [Nat.zero_add]
      cases hb : Nat.beq i k with
      | false => simp
      | true =>
        have := Nat.eq_of_beq_eq_true hb
        subst this
        rw [hx] at hi; cases hi
    have hβ : ∀ i, Al st0.mem.length rs D i → (if i = b then w.heap.size else β i) = β i := fun i hi => if_neg (fun e => hnotAl (by rw [← e]; exact hi))
    unfold Oper.wp
    rw [hrunw]
    refine hK (fun i => if i = b then w.heap.size else β i) _ _ (fun i hi => hβ i (.inl hi)) (h.next hR hD ho hk hβ hAl ?_ ?_ ?_ ?_ ?_ (h.below.alloc h.base _) (Nat.le_trans h.base (by simp)))
    · intro t' _
      rw [hx]
      exact ⟨by simp [S0.den], .inr ⟨k, by simp, hx⟩⟩
    · intro i hi c T hc
      rw [hap]
      rcases hAl' i hi with h1 | h1
      · rw [hβ i h1, Below.heap_alloc _ _ _ (h.lt hR h1)]
        exact h.mem i h1 c T hc
      · subst h1
        rw [if_pos rfl]
        have hc2 : (v.cells, t) = (c, T) := by
          rw [hbn, List.getElem?_append_right (by omega), Nat.add_sub_cancel_left, hnew] at hc
          exact Option.some.inj hc
        injection hc2 with e1 e2
        subst e1; subst e2
        rw [applyB_none rs 0 v.cells (fun j hj off cs hs => hnotAl (h.sto j i off cs (by rwa [Nat.zero_add] at hj) hs))]
        exact heap_alloc_new _ _
    · intro i j hi hj
      rcases hAl' i hi with h1 | h1 <;> rcases hAl' j hj with h2 | h2
      · rw [hβ i h1, hβ j h2]; exact h.inj i j h1 h2
      · rw [hβ i h1, if_pos h2]
        intro e
        have := h.lt hR h1; omega
      · rw [if_pos h1, hβ j h2]
        intro e
        have := h.lt hR h2; omega
      · intro _; rw [h1, h2]
    · intro i hi
      rcases hAl' i hi with h1 | h1
      · rw [hβ i h1]; exact h.low i h1
      · rw [if_pos h1]; exact h.base
    · intro b' off cs hs
      rw [hx] at hs; cases hs
  | sto b off cs =>
    rw [hx] at hrun
    obtain ⟨hg, hd, t, ad, x, v, inf, cells, T, hop, had, hxo, hi, hm, hvc, hl1, hl2⟩ := regionOp_sto hrun
    rw [if_pos (guardOf_yes hf hg)]
    obtain ⟨hav, hal⟩ := opnd_ok hf had (g := none) (h := none) trivial trivial
    have hxv := (opnd_ok hf hxo (g := none) (h := none) trivial trivial).1
    have hbA : Al st0.mem.length rs D b := hal
    rw [hMm] at hm
    have hcur := h.mem b hbA cells T hm
    have hcl : (applyB b (rsD D rs 0) cells).length = cells.length := by
      refine applyB_length _ cells rfl fun r hr off' cs' he => ?_
      subst he
      obtain ⟨i, hi'⟩ := List.getElem?_of_mem hr
      have hget : ∀ (rs : List OR) (j i : Nat), (rsD D rs j)[i]? = some (.sto b off' cs') → rs.getD i .skip = .sto b off' cs' := by
        intro rs
        induction rs with
        | nil => intro j i hh; simp [rsD] at hh
        | cons r rs ih =>
          intro j i hh
          cases i with
          | zero =>
            simp only [rsD, List.getElem?_cons_zero, Option.some.injEq] at hh
            split at hh
            · simpa using hh
            · cases hh
          | succ i =>
            have := ih (j + 1) i (by simpa [rsD] using hh)
            simpa using this
      have hs := hget rs 0 i hi'
      have hlt : i < ops.size := by
        rcases Nat.lt_or_ge i rs.length with h1 | h1
        · rw [hR.len] at h1; exact h1
        · rw [List.getD_eq_getElem?_getD, List.getElem?_eq_none h1] at hs; cases hs
      obtain ⟨ns', rd', hrun', _, _⟩ := hR.at (show ops[i]? = some ops[i] by simp [hlt])
      rw [hs] at hrun'
      obtain ⟨_, _, _, _, _, _, _, cells', T', _, _, _, _, hm', _, _, hl'⟩ := regionOp_sto hrun'
      simp only at hm'
      rw [hm] at hm'
      injection hm' with hm'
      injection hm' with hm' _
      subst hm'
      exact hl'
    have hcells : (v.den ρ).cells.toList = cs.map (E.den ρ) := by rw [SV.cells_den v, hvc]
    have hsz : (v.den ρ).cells.size = inf.size := by rw [← Array.length_toList, hcells]; simpa using hl1
    have hst := run_storeCells_at P (β b) off T (cs.map (E.den ρ)) 0 _ w hcur (by simpa [hcl] using hl2)
      (fun u hu => by
        obtain ⟨e, _, rfl⟩ := List.mem_map.1 hu
        exact den_one e)
    have hrow : (((applyB b (rsD D rs 0) cells).map (E.den ρ)).toArray.toList.take (off + 0) ++ cs.map (E.den ρ) ++ ((applyB b (rsD D rs 0) cells).map (E.den ρ)).toArray.toList.drop (off + 0 + (cs.map (E.den ρ)).length)) = (splice (applyB b (rsD D rs 0) cells) cs off).map (E.den ρ) := by
      simp [splice, List.map_take, List.map_drop]
    rw [hrow] at hst
    have hrunw : (execOp a.eval o).run P w = .ok .skip (w.setRow (β b) ((splice (applyB b (rsD D rs 0) cells) cs off).map (E.den ρ)).toArray) := by
      unfold execOp
      simp only [hop, Instr.storeAt, Instr.sureAddr, hav, hxv, S0.den, storeVar, Sem.run_bind, Sem.run_pure, Result.andThen_ok, sizeOf_run hi, Sem.run_ite, hsz, ne_eq, not_true, if_false, hcells, hst]
    have hlast : ∀ c, applyB b (rsD (fun i => D i || Nat.beq i k) rs 0) c = splice (applyB b (rsD D rs 0) c) cs off := by
      intro c
      refine applyB_last rs 0 c (Nat.zero_le _) hx hk fun i hki hDi off' cs' hs => ?_
      rw [Nat.zero_add] at hki hDi
      have hanc := hR.sto_sto hx hs hki
      have := hanc.done hD (fun o'' ho'' => hD i o'' ho'' hDi)
      rw [hk] at this; cases this
    have hother : ∀ b' c, b' ≠ b → applyB b' (rsD (fun i => D i || Nat.beq i k) rs 0) c = applyB b' (rsD D rs 0) c := by
      intro b' c hb'
      refine applyB_congr rs 0 c fun i off' cs' hi => ?_
      rw [Nat.zero_add]
      cases hb2 : Nat.beq i k with
      | false => simp
      | true =>
        have := Nat.eq_of_beq_eq_true hb2
        subst this
        rw [hx] at hi
        injection hi with hi
        exact absurd hi.symm hb'
    have hAl : ∀ i, Al st0.mem.length rs D i → Al st0.mem.length rs (fun i => D i || Nat.beq i k) i := by
      rintro i (h1 | ⟨j, h1, h2⟩)
      · exact .inl h1
      · exact .inr ⟨j, by simp [h1], h2⟩
    have hAl' : ∀ i, Al st0.mem.length rs (fun i => D i || Nat.beq i k) i → Al st0.mem.length rs D i := by
      rintro i (h1 | ⟨j, h1, h2⟩)
      · exact .inl h1
      · rw [Bool.or_eq_true] at h1
        rcases h1 with h1 | h1
        · exact .inr ⟨j, h1, h2⟩
        · have := Nat.eq_of_beq_eq_true h1
          subst this
          rw [hx] at h2; cases h2
    have hoth : ∀ g, g ≠ β b → (w.setRow (β b) ((splice (applyB b (rsD D rs 0) cells) cs off).map (E.den ρ)).toArray).heap[g]? = w.heap[g]? := by
      intro g hg
      simp only [World.setRow, Array.getElem?_modify]
      rw [if_neg (by omega)]
    unfold Oper.wp
    rw [hrunw, upon_skip']
    refine hK β _ _ (fun _ _ => rfl) (h.next hR hD ho hk (fun _ _ => rfl) hAl ?_ ?_ (fun i j hi hj => h.inj i j (hAl' i hi) (hAl' j hj)) (fun i hi => h.low i (hAl' i hi)) ?_ ?_ ?_)
    · intro t' ht'
      rw [hd] at ht'; cases ht'
    · intro i hiA c T' hc
      by_cases hib : i = b
      · subst hib
        rw [hm] at hc
        injection hc with hc
        injection hc with e1 e2
        subst e1; subst e2
        rw [hlast]
        simp only [World.setRow, Array.getElem?_modify, if_true, hcur, Option.map_some]
      · rw [hother i c hib, hoth _ (fun e => hib (h.inj i b (hAl' i hiA) hbA e))]
        exact h.mem i (hAl' i hiA) c T' hc
    · intro b' off' cs' hs
      rw [hx] at hs
      injection hs with e1 _ _
      subst e1
      exact hAl _ hbA
    · exact h.below.trans ⟨rfl, rfl, rfl, by simp [World.setRow], fun g hg => hoth g (by have := h.low b hbA; omega)⟩
    · simpa [World.setRow] using h.base
end

end Go.Sx
