/- The symbolic executor: a region that draws its order, with new blocks and stores: whatever order is drawn, what is told holds. No conditions. -/
import Derived.Test.YtpbpbijjkmjjjaaSxReg2
namespace Go.Sx
open Go Go.RowKit
variable {ρ : Env} {P : Program}

/-- All that is known of a region's run. -/
structure Rgn (P : Program) (ρ : Env) (ops : Array Oper) (st0 : St) (news : List (List E × Nat)) (rs : List OR) (needs : List E) (reads : List (Option Nat)) : Prop where
  nodup : (dstsOf ops.toList).Nodup
  deps : depsBelow ops.toList = true
  nb : newBlocks P ops.toList = some news
  fact : ∀ k o, ops[k]? = some o → OpFact P ρ.fns st0.mem.length ops (ancsFrom ops.toList []) (killAll (dstsOf ops.toList) st0.tmps) (st0.mem ++ news) rs needs reads k o
  len : rs.length = ops.size
  rlen : reads.length = ops.size
  pair : pairOk (ancsFrom ops.toList []) rs reads ops.toList.length = true
  need : ∀ c ∈ needs, boolOf (c.den ρ) = true

def Al (N : Nat) (rs : List OR) (D : Nat → Bool) (b : Nat) : Prop := b < N ∨ ∃ j, D j = true ∧ rs.getD j .skip = .new b

/-- The state behind the operations of D, whatever order they came up in. -/
structure RI (B : Nat) (w0 : World) (ρ : Env) (β : Nat → Nat) (ops : Array Oper) (st0 : St) (news : List (List E × Nat)) (rs : List OR) (D : Nat → Bool) (a : Act) (w : World) : Prop where
  defers : a.defers = []
  size : a.tmps.size = st0.tmps.length
  free : ∀ t s, t ∉ dstsOf ops.toList → (killAll (dstsOf ops.toList) st0.tmps)[t]? = some s → slotOk ρ β (Al st0.mem.length rs D) a.tmps s (a.tmps.getD t undef)
  undone : ∀ j o t s, ops[j]? = some o → o.dst = some t → D j = false → (killAll (dstsOf ops.toList) st0.tmps)[t]? = some s → slotOk ρ β (Al st0.mem.length rs D) a.tmps s (a.tmps.getD t undef)
  done : ∀ j o t, ops[j]? = some o → o.dst = some t → D j = true → t < st0.tmps.length → slotOk ρ β (Al st0.mem.length rs D) a.tmps (rs.getD j .skip).slot (a.tmps.getD t undef)
  mem : ∀ b, Al st0.mem.length rs D b → ∀ c T, (st0.mem ++ news)[b]? = some (c, T) → w.heap[β b]? = some (.cells ((applyB b (rsD D rs 0) c).map (E.den ρ)).toArray T (0, 0))
  inj : ∀ i j, Al st0.mem.length rs D i → Al st0.mem.length rs D j → β i = β j → i = j
  low : ∀ i, Al st0.mem.length rs D i → B ≤ β i
  sto : ∀ j b off cs, D j = true → rs.getD j .skip = .sto b off cs → Al st0.mem.length rs D b
  below : Below B w0 w
  base : B ≤ w.heap.size

theorem slotOk_frame {β : Nat → Nat} {A : Nat → Prop} {tm tm' : Array Value} {s : Sl} {v : Value} (h : slotOk ρ β A tm s v) (hg : ∀ t w x, s = .may t w x → tm'.getD t undef = tm.getD t undef) : slotOk ρ β A tm' s v := by
  cases s with
  | dead => trivial
  | full x => exact h
  | may t w x => exact ⟨h.1, fun hb => h.2 (by rw [← hg t w x rfl]; exact hb)⟩

theorem put_getD {a : Act} {dst : Option Nat} {v : Value} {t : Nat} (h : dst ≠ some t) : (a.put dst v).tmps.getD t undef = a.tmps.getD t undef := by
  cases dst with
  | none => rfl
  | some d =>
    have : d ≠ t := fun e => h (by rw [e])
    simp [Act.put, Array.getD_eq_getD_getElem?, Array.getElem?_setIfInBounds_ne this]
theorem put_getD_self {a : Act} {v : Value} {t : Nat} (h : t < a.tmps.size) : (a.put (some t) v).tmps.getD t undef = v := by
  simp [Act.put, Array.getD_eq_getD_getElem?, h]
theorem put_size {a : Act} {dst : Option Nat} {v : Value} : (a.put dst v).tmps.size = a.tmps.size := by cases dst <;> simp [Act.put]

section
variable {B : Nat} {w0 : World} {β : Nat → Nat} {ops : Array Oper} {st0 : St} {news : List (List E × Nat)} {rs : List OR} {needs : List E} {reads : List (Option Nat)} {D : Nat → Bool} {a : Act} {w : World}

theorem anc_R {k j : Nat} (ha : anc (ancsFrom ops.toList []) k j = true) : AncR ops k j :=
  ancsFrom_ok ops.toList [] (fun k j hb => by simp at hb) (fun j => by simp) k j ha

theorem mem_dsts {j t : Nat} {o : Oper} (ho : ops[j]? = some o) (hd : o.dst = some t) : t ∈ dstsOf ops.toList :=
  List.mem_filterMap.2 ⟨o, by simpa using Array.mem_of_getElem? ho, hd⟩

theorem Rgn.inj (h : Rgn P ρ ops st0 news rs needs reads) {i j t : Nat} {o o' : Oper} (hi : ops[i]? = some o) (hj : ops[j]? = some o') (hd : o.dst = some t) (hd' : o'.dst = some t) : i = j :=
  dsts_inj h.nodup (by simpa using hi) (by simpa using hj) hd hd'

/-- Of what hangs on a guard in the slot of operation j. -/
theorem Rgn.may_first (h : Rgn P ρ ops st0 news rs needs reads) {j : Nat} {o : Oper} (ho : ops[j]? = some o) {t : Nat} {w : Bool} {x : S0} (hs : (rs.getD j .skip).slot = .may t w x) {k : Nat} {o' : Oper} (ho' : ops[k]? = some o') (hd : o'.dst = some t) : AncR ops j k := by
  obtain ⟨hfirst, y, ns, rd, hrun, hrs, _, _⟩ := h.fact j o ho
  have hry : rs.getD j .skip = y := by rw [List.getD_eq_getElem?_getD, hrs]; rfl
  rw [hry] at hs
  cases y with
  | val s =>
    simp only [OR.slot] at hs
    subst hs
    rcases regionOp_val hrun with ⟨x', h1, _⟩ | ⟨x', t', w', h1, hg, _⟩
    · cases h1
    · injection h1 with e1 e2 e3
      subst e1
      have hgu : ∃ g, o.guard = some g ∧ (ops[g.1]?).bind (·.dst) = some t := by
        unfold guardOf at hg
        split at hg
        · cases hg
        · rename_i g want hgg
          split at hg
          · cases hg
          · rename_i t' ht
            split at hg
            · split at hg <;> cases hg
            · injection hg with e4 e5
              subst e4
              exact ⟨_, hgg, ht⟩
      obtain ⟨g, hg1, hg2⟩ := hgu
      obtain ⟨gj, gw⟩ := g
      unfold guardFirst at hfirst
      rw [hg1] at hfirst
      simp only at hfirst hg2
      rw [hg2] at hfirst
      have := List.all_eq_true.1 hfirst (o', k) (by rw [List.mem_zipIdx_iff_getElem?]; simpa using ho')
      simp only [hd, Nat.beq_refl, Bool.not_true, Bool.false_or] at this
      exact anc_R this
  | _ => simp [OR.slot] at hs

theorem base_get {t : Nat} {s : Sl} (h : (killAll (dstsOf ops.toList) st0.tmps)[t]? = some s) : ∀ u w x, s = .may u w x → u ∉ dstsOf ops.toList := (killAll_get _ _ h).2

/-- One operation more. -/
theorem RI.next (hR : Rgn P ρ ops st0 news rs needs reads) (h : RI B w0 ρ β ops st0 news rs D a w) (hD : Closed ops D) {k : Nat} {o : Oper} (ho : ops[k]? = some o) (hk : D k = false) {β' : Nat → Nat} {w' : World} {v : Value}
    (hβ : ∀ b, Al st0.mem.length rs D b → β' b = β b) (hAl : ∀ b, Al st0.mem.length rs D b → Al st0.mem.length rs (fun i => D i || Nat.beq i k) b)
    (hslot : ∀ t, o.dst = some t → slotOk ρ β' (Al st0.mem.length rs (fun i => D i || Nat.beq i k)) (a.put o.dst v).tmps (rs.getD k .skip).slot v)
    (hmem : ∀ b, Al st0.mem.length rs (fun i => D i || Nat.beq i k) b → ∀ c T, (st0.mem ++ news)[b]? = some (c, T) → w'.heap[β' b]? = some (.cells ((applyB b (rsD (fun i => D i || Nat.beq i k) rs 0) c).map (E.den ρ)).toArray T (0, 0)))
    (hinj : ∀ i j, Al st0.mem.length rs (fun i => D i || Nat.beq i k) i → Al st0.mem.length rs (fun i => D i || Nat.beq i k) j → β' i = β' j → i = j) (hlow : ∀ i, Al st0.mem.length rs (fun i => D i || Nat.beq i k) i → B ≤ β' i)
    (hsto : ∀ b off cs, rs.getD k .skip = .sto b off cs → Al st0.mem.length rs (fun i => D i || Nat.beq i k) b) (hbelow : Below B w0 w') (hbase : B ≤ w'.heap.size) :
    RI B w0 ρ β' ops st0 news rs (fun i => D i || Nat.beq i k) (a.put o.dst v) w' := by
  have hbs : ∀ {t : Nat} {s : Sl}, o.dst ≠ some t → (killAll (dstsOf ops.toList) st0.tmps)[t]? = some s → slotOk ρ β (Al st0.mem.length rs D) a.tmps s (a.tmps.getD t undef) →
      slotOk ρ β' (Al st0.mem.length rs (fun i => D i || Nat.beq i k)) (a.put o.dst v).tmps s ((a.put o.dst v).tmps.getD t undef) := by
    intro t s hne hs hok
    rw [put_getD hne]
    refine slotOk_frame (slotOk_ext hβ hAl hok) fun u w x hm => put_getD fun e => ?_
    exact base_get hs u w x hm (mem_dsts ho e)
  have hDk : ∀ j, (D j || Nat.beq j k) = false → D j = false ∧ j ≠ k := by
    intro j hj
    rw [Bool.or_eq_false_iff] at hj
    exact ⟨hj.1, fun e => by rw [e] at hj; simp at hj⟩
  refine ⟨by rw [put_defers]; exact h.defers, by rw [put_size]; exact h.size, ?_, ?_, ?_, hmem, hinj, hlow, ?_, hbelow, hbase⟩
  · intro t s ht hs
    exact hbs (fun e => ht (mem_dsts ho e)) hs (h.free t s ht hs)
  · intro j o' t s hj hd hDj hs
    obtain ⟨h1, h2⟩ := hDk j hDj
    exact hbs (fun e => h2 (hR.inj hj ho hd e)) hs (h.undone j o' t s hj hd h1 hs)
  · intro j o' t hj hd hDj htl
    by_cases hjk : j = k
    · subst hjk
      have : o = o' := Option.some.inj (ho.symm.trans hj)
      subst this
      have hv : (a.put o.dst v).tmps.getD t undef = v := by
        rw [hd]; exact put_getD_self (by rw [h.size]; exact htl)
      rw [hv]
      exact hslot t hd
    · have hDj' : D j = true := by
        rw [Bool.or_eq_true] at hDj
        rcases hDj with h1 | h1
        · exact h1
        · exact absurd (Nat.eq_of_beq_eq_true h1) hjk
      have hne : o.dst ≠ some t := fun e => hjk (hR.inj hj ho hd e)
      rw [put_getD hne]
      refine slotOk_frame (slotOk_ext hβ hAl (h.done j o' t hj hd hDj' htl)) fun u w x hm => put_getD fun e => ?_
      have hanc := hR.may_first hj hm ho e
      have := hanc.done hD (fun o'' ho'' => hD j o'' ho'' hDj')
      rw [hk] at this; cases this
  · intro j b off cs hDj hs
    rw [Bool.or_eq_true] at hDj
    rcases hDj with h1 | h1
    · exact hAl b (h.sto j b off cs h1 hs)
    · have := Nat.eq_of_beq_eq_true h1
      subst this
      exact hsto b off cs hs

/-- The frame, masked, as operation k finds it. -/
theorem RI.fits (hR : Rgn P ρ ops st0 news rs needs reads) (h : RI B w0 ρ β ops st0 news rs D a w) (hD : Closed ops D) {k : Nat} {o : Oper} (ho : ops[k]? = some o) (hk : D k = false) (hdeps : ∀ e ∈ o.after, Region.binds .any e = true → D e.on = true) :
    FitsA ρ β (Al st0.mem.length rs D) { tmps := maskSlots (ancsFrom ops.toList []) k ops.toList (rs.take k) 0 (killAll (dstsOf ops.toList) st0.tmps), mem := st0.mem ++ news } a.tmps := by
  have hdk : ∀ o', ops[k]? = some o' → ∀ e ∈ o'.after, Region.binds .any e = true → D e.on = true := by
    intro o' ho'
    have : o = o' := Option.some.inj (ho.symm.trans ho')
    subst this; exact hdeps
  refine ⟨by rw [mask_length, killAll_length]; exact h.size, fun t s hs => ?_⟩
  have hlt : t < st0.tmps.length := by
    have := (List.getElem?_eq_some_iff.1 hs).1
    rwa [mask_length, killAll_length] at this
  rcases mask_get _ _ _ _ _ _ hR.nodup hs with ⟨h1, h2⟩ | ⟨j, o', hj, hd, hm⟩
  · exact h.free t s h1 h2
  · have hj' : ops[j]? = some o' := by simpa using hj
    rw [Nat.zero_add] at hm
    subst hm
    unfold maskOne
    split
    · rename_i ha
      have hanc := anc_R ha
      have hjk := hanc.lt hR.deps
      have hDj := hanc.done hD hdk
      have e : (rs.take k).getD j .skip = rs.getD j .skip := by
        rw [List.getD_eq_getElem?_getD, List.getElem?_take_of_lt hjk, ← List.getD_eq_getElem?_getD]
      rw [e]
      exact h.done j o' t hj' hd hDj hlt
    · split
      · rename_i ha
        have hanc := anc_R ha
        have hDj : D j = false := by
          cases hDj : D j with
          | false => rfl
          | true =>
            have := hanc.done hD (fun o'' ho'' => hD j o'' ho'' hDj)
            rw [hk] at this; cases this
        have hb : (killAll (dstsOf ops.toList) st0.tmps)[t]? = some ((killAll (dstsOf ops.toList) st0.tmps).getD t .dead) := by
          rw [List.getD_eq_getElem?_getD, List.getElem?_eq_getElem (by rw [killAll_length]; exact hlt)]
          rfl
        exact h.undone j o' t _ hj' hd hDj hb
      · trivial

/-- Stores and loads of one block. -/
theorem Rgn.sto_load (h : Rgn P ρ ops st0 news rs needs reads) {j k b off : Nat} {cs : List E} (hj : rs.getD j .skip = .sto b off cs) (hk : reads.getD k none = some b) : AncR ops j k := by
  have hjn : j < ops.toList.length := by
    rcases Nat.lt_or_ge j rs.length with h1 | h1
    · rw [h.len] at h1; simpa using h1
    · rw [List.getD_eq_getElem?_getD, List.getElem?_eq_none h1] at hj; cases hj
  have hkn : k < ops.toList.length := by
    rcases Nat.lt_or_ge k reads.length with h1 | h1
    · rw [h.rlen] at h1; simpa using h1
    · rw [List.getD_eq_getElem?_getD, List.getElem?_eq_none h1] at hk; cases hk
  have h1 := List.all_eq_true.1 h.pair j (List.mem_range.2 hjn)
  rw [hj] at h1
  have h2 := List.all_eq_true.1 h1 k (List.mem_range.2 hkn)
  rw [hk] at h2
  simp only [Nat.beq_refl, Bool.not_true, Bool.false_or, Bool.and_eq_true] at h2
  exact anc_R h2.1
theorem Rgn.sto_sto (h : Rgn P ρ ops st0 news rs needs reads) {j k b off off' : Nat} {cs cs' : List E} (hj : rs.getD j .skip = .sto b off cs) (hk : rs.getD k .skip = .sto b off' cs') (hjk : j < k) : AncR ops k j := by
  have lt : ∀ {j b off cs}, rs.getD j .skip = .sto b off cs → j < ops.toList.length := by
    intro j b off cs hj
    rcases Nat.lt_or_ge j rs.length with h1 | h1
    · rw [h.len] at h1; simpa using h1
    · rw [List.getD_eq_getElem?_getD, List.getElem?_eq_none h1] at hj; cases hj
  have h1 := List.all_eq_true.1 h.pair j (List.mem_range.2 (lt hj))
  rw [hj] at h1
  have h2 := List.all_eq_true.1 h1 k (List.mem_range.2 (lt hk))
  rw [hk, Bool.and_eq_true] at h2
  have h3 := h2.2
  simp only [Nat.beq_refl, Bool.not_true, Bool.false_or, Bool.or_eq_true] at h3
  rcases h3 with h3 | h3
  · have := Nat.le_of_ble_eq_true h3; omega
  · exact anc_R h3

/-- An operation that turns no memory of the region's own. -/
theorem RI.plain (hR : Rgn P ρ ops st0 news rs needs reads) (h : RI B w0 ρ β ops st0 news rs D a w) (hD : Closed ops D) {k : Nat} {o : Oper} (ho : ops[k]? = some o) (hk : D k = false) {w' : World} {v : Value} (hb : Below w.heap.size w w')
    (hno : ∀ b, rs.getD k .skip ≠ .new b) (hns : ∀ b off cs, rs.getD k .skip ≠ .sto b off cs) (hslot : ∀ t, o.dst = some t → slotOk ρ β (Al st0.mem.length rs D) (a.put o.dst v).tmps (rs.getD k .skip).slot v) :
    RI B w0 ρ β ops st0 news rs (fun i => D i || Nat.beq i k) (a.put o.dst v) w' := by
  have hAl : ∀ b, Al st0.mem.length rs D b → Al st0.mem.length rs (fun i => D i || Nat.beq i k) b := by
    rintro b (h1 | ⟨j, h1, h2⟩)
    · exact .inl h1
    · exact .inr ⟨j, by simp [h1], h2⟩
  have hAl' : ∀ b, Al st0.mem.length rs (fun i => D i || Nat.beq i k) b → Al st0.mem.length rs D b := by
    rintro b (h1 | ⟨j, h1, h2⟩)
    · exact .inl h1
    · rw [Bool.or_eq_true] at h1
      rcases h1 with h1 | h1
      · exact .inr ⟨j, h1, h2⟩
      · have := Nat.eq_of_beq_eq_true h1
        subst this
        exact absurd h2 (hno b)
  have hap : ∀ b c, applyB b (rsD (fun i => D i || Nat.beq i k) rs 0) c = applyB b (rsD D rs 0) c := by
    intro b c
    refine applyB_congr rs 0 c fun i off cs hi => ?_
    rw [Nat.zero_add]
    cases hb : Nat.beq i k with
    | false => simp
    | true =>
      have := Nat.eq_of_beq_eq_true hb
      subst this
      exact absurd hi (hns b off cs)
  refine h.next hR hD ho hk (fun _ _ => rfl) hAl (fun t ht => slotOk_ext (fun _ _ => rfl) hAl (hslot t ht)) ?_ (fun i j hi hj => h.inj i j (hAl' i hi) (hAl' j hj)) (fun i hi => h.low i (hAl' i hi))
    (fun b off cs hs => absurd hs (hns b off cs)) (h.below.trans (hb.mono h.base)) (Nat.le_trans h.base hb.size)
  intro b hbA c T hc
  rw [hap]
  have h1 := h.mem b (hAl' b hbA) c T hc
  rw [hb.block _ (by
    rcases Nat.lt_or_ge (β b) w.heap.size with h2 | h2
    · exact h2
    · rw [Array.getElem?_eq_none h2] at h1; cases h1)]
  exact h1
end

end Go.Sx
