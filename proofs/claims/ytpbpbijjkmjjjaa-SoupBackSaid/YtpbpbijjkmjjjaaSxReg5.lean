/- The symbolic executor: a region that draws its order, with new blocks and stores: whatever order is drawn, what is told holds. No conditions. -/
import Derived.Test.YtpbpbijjkmjjjaaSxReg4
namespace Go.Sx
open Go Go.RowKit
variable {ρ : Env} {P : Program}

section
variable {B : Nat} {w0 : World} {β : Nat → Nat} {ops : Array Oper} {st0 : St} {news : List (List E × Nat)} {rs : List OR} {needs : List E} {reads : List (Option Nat)} {a : Act} {w : World}

theorem gD_in {d : Array Bool} {i : Nat} (hi : i < d.size) (h : d.getD i false = false) : d.getD i true = false := by
  rw [Array.getD_eq_getD_getElem?, Array.getElem?_eq_getElem hi] at h ⊢; exact h
theorem gD_both {d : Array Bool} {i : Nat} (h : d.getD i true = false) : d.getD i false = false := by
  rw [Array.getD_eq_getD_getElem?] at h ⊢
  cases hx : d[i]? with
  | none => rw [hx] at h; cases h
  | some b => rw [hx] at h; exact h
theorem gD_rep (n j : Nat) : (Array.replicate n false).getD j false = false := by
  rw [Array.getD_eq_getD_getElem?]
  cases hx : (Array.replicate n false)[j]? with
  | none => rfl
  | some b =>
    rw [Array.getElem?_replicate] at hx
    split at hx
    · injection hx with hx; subst hx; rfl
    · cases hx
def dn (d : Array Bool) (j : Nat) : Bool := d.getD j false

theorem dn_set {d : Array Bool} {i : Nat} (hi : i < d.size) : dn (d.setIfInBounds i true) = fun j => dn d j || Nat.beq j i := by
  funext j
  unfold dn
  by_cases hij : i = j
  · subst hij
    simp [Array.getD_eq_getD_getElem?, hi]
  · have : Nat.beq j i = false := by
      cases hb : Nat.beq j i with
      | false => rfl
      | true => exact absurd (Nat.eq_of_beq_eq_true hb).symm hij
    simp [Array.getD_eq_getD_getElem?, Array.getElem?_setIfInBounds_ne hij, this]

theorem closed_set {d : Array Bool} {i : Nat} (hi : i ∈ Region.ready .any ops d) (hs : d.size = ops.size) (hc : Closed ops (dn d)) : Closed ops (dn (d.setIfInBounds i true)) := by
  obtain ⟨_, oi, hoi, hall⟩ := mem_ready.1 hi
  have hlt : i < d.size := by rw [hs]; exact (Array.getElem?_eq_some_iff.1 hoi).1
  rw [dn_set hlt]
  intro j o hj hd e he hb
  have h1 : dn d e.on = true := by
    rw [Bool.or_eq_true] at hd
    rcases hd with hd | hd
    · exact hc j o hj hd e he hb
    · have := Nat.eq_of_beq_eq_true hd
      subst this
      have : o = oi := Option.some.inj (hj.symm.trans hoi)
      subst this
      exact hall e he hb
  show (dn d e.on || Nat.beq e.on i) = true
  rw [h1]; rfl

theorem all_done {d : Array Bool} (hs : d.size = ops.size) (hdep : depsBelow ops.toList = true) (hr : Region.ready .any ops d = []) : ∀ k, k < ops.size → dn d k = true := by
  intro k
  induction k using Nat.strongRecOn with
  | _ k ih =>
    intro hk
    cases hd : dn d k with
    | true => rfl
    | false =>
      have hmem : k ∈ Region.ready .any ops d := by
        refine mem_ready.2 ⟨gD_in (by omega) hd, ops[k], by simp [hk], fun e he hb => ?_⟩
        have hlt := depsBelow_ok hdep (show ops[k]? = some ops[k] by simp [hk]) he hb
        exact ih e.on hlt (by omega)
      rw [hr] at hmem
      cases hmem

theorem RI.final (hR : Rgn P ρ ops st0 news rs needs reads) {D : Nat → Bool} (h : RI B w0 ρ β ops st0 news rs D a w) (hall : ∀ k, k < ops.size → D k = true) (hins : ∀ s ∈ st0.ins, InAt P B ρ w0 s) :
    Inv P B w0 ρ β { tmps := endSlots ops.toList rs (killAll (dstsOf ops.toList) st0.tmps), mem := stored (st0.mem ++ news) rs, mg := st0.mg, ins := st0.ins } a w := by
  have hlen : (stored (st0.mem ++ news) rs).length = st0.mem.length + allocs ops.toList := by
    rw [stored_length, List.length_append, (newBlocks_ok hR.nb).1]
  have hnew : ∀ n, n < allocs ops.toList → ∃ k o, ops[k]? = some o ∧ isAlloc o.op = true ∧ allocs (ops.toList.take k) = n := by
    have key : ∀ (l : List Oper) (n : Nat), n < allocs l → ∃ (k : Nat) (o : Oper), l[k]? = some o ∧ isAlloc o.op = true ∧ allocs (l.take k) = n := by
      intro l
      induction l with
      | nil => intro n hn; simp [allocs] at hn
      | cons o l ih =>
        intro n hn
        by_cases ho : isAlloc o.op = true
        · cases n with
          | zero => exact ⟨0, o, rfl, ho, by simp [allocs]⟩
          | succ n =>
            obtain ⟨k, o', h1, h2, h3⟩ := ih n (by simp [allocs, ho] at hn ⊢; omega)
            exact ⟨k + 1, o', by simpa using h1, h2, by simp [allocs, ho] at h3 ⊢; exact h3⟩
        · obtain ⟨k, o', h1, h2, h3⟩ := ih n (by simp [allocs, ho] at hn ⊢; omega)
          exact ⟨k + 1, o', by simpa using h1, h2, by simp [allocs, ho] at h3 ⊢; exact h3⟩
    intro n hn
    obtain ⟨k, o, h1, h2, h3⟩ := key _ n hn
    exact ⟨k, o, by simpa using h1, h2, h3⟩
  have hAl : ∀ b, b < st0.mem.length + allocs ops.toList → Al st0.mem.length rs D b := by
    intro b hb
    rcases Nat.lt_or_ge b st0.mem.length with h1 | h1
    · exact .inl h1
    · obtain ⟨k, o, h2, h3, h4⟩ := hnew (b - st0.mem.length) (by omega)
      obtain ⟨ns, rd, h5, _, _⟩ := hR.at h2
      have h6 := (regionOp_alloc h3 h5).1
      refine .inr ⟨k, hall k (Array.getElem?_eq_some_iff.1 h2).1, ?_⟩
      rw [h6]; congr 1; omega
  have hAl' : ∀ b, Al st0.mem.length rs D b → b < st0.mem.length + allocs ops.toList := by
    rintro b (h1 | ⟨j, _, h2⟩)
    · omega
    · obtain ⟨o, h3, h4, h5⟩ := hR.new_at h2
      have := allocs_take_lt (l := ops.toList) (k := ops.toList.length) (by simpa using h3) h4 (by
        have := (Array.getElem?_eq_some_iff.1 h3).1
        simpa using this)
      rw [List.take_length] at this
      omega
  refine ⟨h.defers, ⟨by rw [end_length, killAll_length]; exact h.size, fun t s hs => ?_⟩, fun b c T hc => ?_, fun i j hi hj => ?_, fun i hi => ?_, h.below, h.base, hins⟩
  · have hlt : t < st0.tmps.length := by
      have := (List.getElem?_eq_some_iff.1 hs).1
      rwa [end_length, killAll_length] at this
    have hext : ∀ {s : Sl} {v : Value}, slotOk ρ β (Al st0.mem.length rs D) a.tmps s v → slotOk ρ β (· < (stored (st0.mem ++ news) rs).length) a.tmps s v := fun hh =>
      slotOk_ext (fun _ _ => rfl) (fun i hi => by show i < _; rw [hlen]; exact hAl' i hi) hh
    rcases end_get _ _ _ hR.nodup hs with ⟨h1, h2⟩ | ⟨j, o, hj, hd, hm⟩
    · exact hext (h.free t s h1 h2)
    · have hj' : ops[j]? = some o := by simpa using hj
      subst hm
      exact hext (h.done j o t hj' hd (hall j (Array.getElem?_eq_some_iff.1 hj').1) hlt)
  · simp only at hc
    rw [stored_get] at hc
    rw [Option.map_eq_some_iff] at hc
    obtain ⟨⟨c0, T0⟩, hc0, he⟩ := hc
    simp only [Prod.mk.injEq] at he
    obtain ⟨rfl, rfl⟩ := he
    have hb : b < st0.mem.length + allocs ops.toList := by
      have := (List.getElem?_eq_some_iff.1 hc0).1
      rw [List.length_append, (newBlocks_ok hR.nb).1] at this
      exact this
    have h1 := h.mem b (hAl b hb) c0 T0 hc0
    have hrs : rsD D rs 0 = rs := by
      have key : ∀ (l : List OR) (j : Nat), (∀ i, i < l.length → D (j + i) = true) → rsD D l j = l := by
        intro l
        induction l with
        | nil => intro j _; rfl
        | cons r l ih =>
          intro j hh
          have h0 := hh 0 (by simp)
          simp only [Nat.add_zero] at h0
          simp only [rsD, h0, if_true]
          rw [ih (j + 1) (fun i hi => by have := hh (i + 1) (by simp; omega); rwa [show j + (i + 1) = j + 1 + i by omega] at this)]
      exact key rs 0 fun i hi => by rw [Nat.zero_add]; exact hall i (by rw [← hR.len]; exact hi)
    rwa [hrs] at h1
  · simp only [hlen] at hi hj
    exact h.inj i j (hAl i hi) (hAl j hj)
  · simp only [hlen] at hi
    exact h.low i (hAl i hi)

theorem count_set {d : Array Bool} {i : Nat} (hi : i < d.size) (hf : d.getD i true = false) : (d.setIfInBounds i true).toList.count false + 1 = d.toList.count false := by
  rw [Array.toList_setIfInBounds]
  have hil : i < d.toList.length := by simpa using hi
  have hv : d.toList[i] = false := by
    simp [Array.getD_eq_getD_getElem?, hi] at hf
    simpa using hf
  rw [List.count_set hil]
  have hpos : 0 < d.toList.count false := List.count_pos_iff.2 (by rw [← hv]; exact List.getElem_mem hil)
  simp only [hv, beq_self_eq_true, if_true]
  have : (true == false) = false := rfl
  simp only [this, Bool.false_eq_true, if_false]
  omega

theorem region_any (hΓ : ∀ x ∈ ρ.fns, x.holds P) (hR : Rgn P ρ ops st0 news rs needs reads) {Q : Exit → Act → World → Prop}
    {β0 : Nat → Nat} (hins : ∀ s ∈ st0.ins, InAt P B ρ w0 s) (hQ : ∀ β a w, (∀ i, i < st0.mem.length → β i = β0 i) → Inv P B w0 ρ β { tmps := endSlots ops.toList rs (killAll (dstsOf ops.toList) st0.tmps), mem := stored (st0.mem ++ news) rs, mg := st0.mg, ins := st0.ins } a w → Q .normal a w) :
    ∀ (n : Nat) (d : Array Bool) (β : Nat → Nat) (a : Act) (w : World), d.size = ops.size → d.toList.count false = n → Closed ops (dn d) → (∀ i, i < st0.mem.length → β i = β0 i) → RI B w0 ρ β ops st0 news rs (dn d) a w → wpAny P .any ops Q n d a w
  | 0, d, β, a, w, hs, hn, hc, he, h => by
    have hr : Region.ready .any ops d = [] := by
      apply List.eq_nil_iff_forall_not_mem.2
      intro i hi
      obtain ⟨hun, oi, hoi, _⟩ := mem_ready.1 hi
      have hlt : i < d.size := by rw [hs]; exact (Array.getElem?_eq_some_iff.1 hoi).1
      have := count_set hlt hun
      omega
    exact ⟨hr, hQ _ _ _ he (h.final hR (all_done hs hR.deps hr) hins)⟩
  | n + 1, d, β, a, w, hs, hn, hc, he, h => by
    refine ⟨fun hr => hQ _ _ _ he (h.final hR (all_done hs hR.deps hr) hins), fun i hi => ?_⟩
    obtain ⟨hun, oi, hoi, hall⟩ := mem_ready.1 hi
    have hlt : i < d.size := by rw [hs]; exact (Array.getElem?_eq_some_iff.1 hoi).1
    have hcnt := count_set hlt hun
    have hstep := RI.step hΓ hR (Q := Q) h hc hoi (gD_both hun) (fun e he hb => hall e he hb) (K := wpAny P .any ops Q n (d.setIfInBounds i true)) fun β' a' w' he' h' =>
      region_any hΓ hR hins hQ n _ β' a' w' (by simp [hs]) (by omega) (closed_set hi hs hc) (fun i hi => (he' i hi).trans (he i hi)) (by rw [dn_set hlt]; exact h')
    unfold wpOp
    simp only [hoi]
    split
    · rename_i hw
      rw [if_pos hw] at hstep
      exact .inl hstep
    · rename_i hw
      rw [if_neg hw] at hstep
      exact hstep

/-- **A region that draws its order, with new blocks and stores.** -/
theorem regionOps_ok (hΓ : ∀ x ∈ ρ.fns, x.holds P) {id : Nat} {st st' : St} {needs : List E} {Q : Exit → Act → World → Prop} (h : Inv P B w0 ρ β st a w) (hm : P.follows .mixedOrders = true) (hq : regionOps P ρ.fns ops st = some (st', needs)) (hn : ∀ c ∈ needs, boolOf (c.den ρ) = true)
    (hK : ∀ β' a' w', Ext β st β' st' → Inv P B w0 ρ β' st' a' w' → Q .normal a' w') : (Code.region id ops true).wp P Q a w := by
  unfold regionOps at hq
  simp only at hq
  split at hq
  · rename_i hc
    simp only [Bool.and_eq_true] at hc
    obtain ⟨⟨hsel, hnd⟩, hdep⟩ := hc
    split at hq
    · rename_i news hnews
      split at hq
      · rename_i r hrun
        split at hq
        · rename_i hpair
          simp only [Option.some.injEq, Prod.mk.injEq] at hq
          obtain ⟨rfl, rfl⟩ := hq
          obtain ⟨⟨x, y, z, h1, h2, h3, h4, h5⟩, hfact⟩ := regionRun_ok ops.toList 0 _ r hrun (fun j => by simp) rfl rfl (by simp [allocs])
          simp only [List.nil_append] at h1 h2 h3
          have hR : Rgn P ρ ops st news r.rs r.needs r.reads :=
            ⟨nodupN_ok hnd, hdep, hnews, fun k o ho => by have := hfact k o (by simpa using ho); rwa [Nat.zero_add] at this, by rw [h1, h4]; simp, by rw [h3, h5]; simp, hpair, hn⟩
          refine wp_region_any hm ?_
          have hrep : ∀ j, dn (Array.replicate ops.size false) j = false := fun j => gD_rep _ _
          have hb : ∀ {t : Nat} {s : Sl}, (killAll (dstsOf ops.toList) st.tmps)[t]? = some s → slotOk ρ β (Al st.mem.length r.rs (dn (Array.replicate ops.size false))) a.tmps s (a.tmps.getD t undef) := by
            intro t s hs
            rcases (killAll_get _ _ hs).1 with h6 | h6
            · subst h6; trivial
            · exact slotOk_ext (fun _ _ => rfl) (fun i hi => .inl hi) (h.fits.slot t s h6)
          have hAl : ∀ i, Al st.mem.length r.rs (dn (Array.replicate ops.size false)) i → i < st.mem.length := by
            rintro i (h6 | ⟨j, h6, _⟩)
            · exact h6
            · rw [hrep] at h6; cases h6
          have hno : ∀ b c, applyB b (rsD (dn (Array.replicate ops.size false)) r.rs 0) c = c := fun b c => applyB_none _ _ _ fun i hi => by rw [hrep] at hi; cases hi
          refine region_any (B := B) (w0 := w0) hΓ hR (β0 := β) h.ins (fun β' a' w' he hi => hK β' a' w' ⟨he, by simp only [stored_length, List.length_append]; omega⟩ hi) ops.size _ β a _ (by simp) (by simp) (fun j o _ hd => by rw [hrep] at hd; cases hd) (fun _ _ => rfl) ?_
          exact ⟨h.defers, h.fits.size, fun t s _ hs => hb hs, fun j o t s _ _ _ hs => hb hs, fun j o t _ _ hd => (by rw [hrep] at hd; cases hd),
            fun b hbA c T hc => (by
              rw [hno]
              have hlt := hAl b hbA
              rw [List.getElem?_append_left hlt] at hc
              exact h.mem b c T hc),
            fun i j hi hj => h.inj i j (hAl i hi) (hAl j hj), fun i hi => h.low i (hAl i hi), fun j b off cs hd => (by rw [hrep] at hd; cases hd), h.below.drew, h.base⟩
        · cases hq
      · cases hq
    · cases hq
  · cases hq
end

end Go.Sx
