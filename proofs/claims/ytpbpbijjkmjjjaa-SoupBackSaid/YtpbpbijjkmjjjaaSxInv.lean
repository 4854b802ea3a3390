/- The symbolic executor: one operation, a region that draws its order. No conditions. -/
import Derived.Test.YtpbpbijjkmjjjaaSxRead
namespace Go.Sx
open Go Go.RowKit
variable {ρ : Env} {P : Program}

theorem getD_of_getElem? {tm : Array Value} {t : Nat} {v : Value} (h : tm[t]? = some v) : tm.getD t undef = v := by simp [Array.getD_eq_getD_getElem?, h]
theorem getElem?_of_getD {tm : Array Value} {t : Nat} {b : Bool} (h : tm.getD t undef = .bool b) : tm[t]? = some (.bool b) := by
  rw [Array.getD_eq_getD_getElem?] at h
  cases hx : tm[t]? with
  | none => rw [hx] at h; cases h
  | some v => rw [hx] at h; simp at h; rw [h]

theorem slotOk_kill {β : Nat → Nat} {N : Nat → Prop} {tm : Array Value} {t : Nat} {s : Sl} {v u : Value} (h : slotOk ρ β N tm s v) : slotOk ρ β N (tm.setIfInBounds t u) (kill t s) v := by
  cases s with
  | dead => trivial
  | full x => exact h
  | may t' w x =>
    simp only [kill]
    split
    · trivial
    · rename_i hne
      have hne : t ≠ t' := fun e => hne (by rw [e]; exact Nat.beq_refl _)
      refine ⟨h.1, fun hb => h.2 ?_⟩
      rw [← hb]
      simp [Array.getD_eq_getD_getElem?, Array.getElem?_setIfInBounds_ne hne]

theorem fits_put {β : Nat → Nat} {st : St} {a : Act} {s : Sl} {v : Value} (hf : Fits ρ β st a.tmps) (dst : Option Nat) (h : slotOk ρ β (· < st.mem.length) a.tmps s v) : Fits ρ β (st.put dst s) (a.put dst v).tmps := by
  cases dst with
  | none => exact hf
  | some t =>
    refine ⟨by simp [Act.put, St.put, hf.size], fun i s' hi => ?_⟩
    simp only [St.put] at hi ⊢
    simp only [Act.put]
    by_cases hit : t = i
    · subst hit
      rw [List.getElem?_set_self' ] at hi
      simp only [Option.map_eq_map, Option.map_eq_some_iff] at hi
      obtain ⟨s0, hs0, rfl⟩ := hi
      have hlt : t < a.tmps.size := by
        rw [hf.size]
        have := (List.getElem?_eq_some_iff.1 hs0).1
        simpa using this
      have : (a.tmps.setIfInBounds t v).getD t undef = v := by
        simp [Array.getD_eq_getD_getElem?, hlt]
      rw [this]
      exact slotOk_kill h
    · rw [List.getElem?_set_ne hit, List.getElem?_map, Option.map_eq_some_iff] at hi
      obtain ⟨s0, hs0, rfl⟩ := hi
      have : (a.tmps.setIfInBounds t v).getD i undef = a.tmps.getD i undef := by
        simp [Array.getD_eq_getD_getElem?, Array.getElem?_setIfInBounds_ne hit]
      rw [this]
      exact slotOk_kill (hf.slot i s0 hs0)

theorem put_mem {st : St} {dst : Option Nat} {s : Sl} : (st.put dst s).mem = st.mem := by cases dst <;> rfl
theorem put_ins {st : St} {dst : Option Nat} {s : Sl} : (st.put dst s).ins = st.ins := by cases dst <;> rfl
theorem put_defers {a : Act} {dst : Option Nat} {v : Value} : (a.put dst v).defers = a.defers := by cases dst <;> rfl

structure Inv (P : Program) (B : Nat) (w0 : World) (ρ : Env) (β : Nat → Nat) (st : St) (a : Act) (w : World) : Prop where
  defers : a.defers = []
  fits : Fits ρ β st a.tmps
  mem : MemOk ρ β st.mem w
  inj : ∀ i j, i < st.mem.length → j < st.mem.length → β i = β j → i = j
  low : ∀ i, i < st.mem.length → B ≤ β i
  below : Below B w0 w
  base : B ≤ w.heap.size
  ins : ∀ s ∈ st.ins, InAt P B ρ w0 s

theorem MemOk.below {β : Nat → Nat} {mem : List (List E × Nat)} {w w' : World} (h : MemOk ρ β mem w) (hb : Below w.heap.size w w') : MemOk ρ β mem w' := by
  intro k c T hk
  have h1 := h k c T hk
  rw [hb.block _ (by
    rcases Nat.lt_or_ge (β k) w.heap.size with h2 | h2
    · exact h2
    · rw [Array.getElem?_eq_none h2] at h1; cases h1)]
  exact h1

theorem MemOk.lt {β : Nat → Nat} {mem : List (List E × Nat)} {w : World} (h : MemOk ρ β mem w) {k : Nat} (hk : k < mem.length) : β k < w.heap.size := by
  have h1 := h k mem[k].1 mem[k].2 (by simp [hk])
  rcases Nat.lt_or_ge (β k) w.heap.size with h2 | h2
  · exact h2
  · rw [Array.getElem?_eq_none h2] at h1; cases h1

section
variable {B : Nat} {w0 : World} {β : Nat → Nat} {st : St} {a : Act} {w : World}

theorem Inv.put (h : Inv P B w0 ρ β st a w) (dst : Option Nat) {s : Sl} {v : Value} (hs : slotOk ρ β (· < st.mem.length) a.tmps s v) : Inv P B w0 ρ β (st.put dst s) (a.put dst v) w :=
  ⟨by rw [put_defers]; exact h.defers, fits_put h.fits dst hs, by rw [put_mem]; exact h.mem, by rw [put_mem]; exact h.inj, by rw [put_mem]; exact h.low, h.below, h.base, by rw [put_ins]; exact h.ins⟩

theorem Inv.world (h : Inv P B w0 ρ β st a w) {w' : World} (hb : Below w.heap.size w w') : Inv P B w0 ρ β st a w' :=
  ⟨h.defers, h.fits, h.mem.below hb, h.inj, h.low, h.below.trans (hb.mono h.base), Nat.le_trans h.base hb.size, h.ins⟩

/-- Whether an operation is wanted. -/
theorem guard_none {o : Oper} {all : Array Oper} (h : o.guard = none) : Region.wanted o (yielded all a.tmps) = true := by simp [Region.wanted, h]

theorem guardOf_yes {A : Nat → Prop} {all : Array Oper} {o : Oper} (hf : FitsA ρ β A st a.tmps) (h : guardOf st all o = .yes) : Region.wanted o (yielded all a.tmps) = true := by
  unfold guardOf at h
  split at h
  · rename_i hg; exact guard_none hg
  · rename_i j want hg
    split at h
    · cases h
    · rename_i t ht
      split at h
      · rename_i b hb
        split at h
        · rename_i hbw
          have hs := (hf.slot _ _ hb).1
          have := getElem?_of_getD (b := b) hs
          simp [Region.wanted, hg, yielded, ht, this]
          simpa using hbw
        · cases h
      · cases h

theorem guardOf_no {A : Nat → Prop} {all : Array Oper} {o : Oper} (hf : FitsA ρ β A st a.tmps) (h : guardOf st all o = .no) : Region.wanted o (yielded all a.tmps) = false := by
  unfold guardOf at h
  split at h
  · cases h
  · rename_i j want hg
    split at h
    · cases h
    · rename_i t ht
      split at h
      · rename_i b hb
        split at h
        · cases h
        · rename_i hbw
          have hs := (hf.slot _ _ hb).1
          have := getElem?_of_getD (b := b) hs
          simp [Region.wanted, hg, yielded, ht, this]
          simpa using hbw
      · cases h

theorem guardOf_undecided {all : Array Oper} {o : Oper} {t : Nat} {want : Bool} (h : guardOf st all o = .undecided t want) : Region.wanted o (yielded all a.tmps) = true ↔ a.tmps.getD t undef = .bool want := by
  unfold guardOf at h
  split at h
  · cases h
  · rename_i j want' hg
    split at h
    · cases h
    · rename_i t' ht
      have hu : t' = t ∧ want' = want := by
        split at h
        · split at h <;> cases h
        · injection h with h1 h2; exact ⟨h1, h2⟩
      obtain ⟨rfl, rfl⟩ := hu
      simp only [Region.wanted, hg, yielded, ht, Option.bind_some]
      constructor
      · intro hw
        split at hw
        · rename_i b hb
          have : b = want' := by simpa using hw
          subst this
          exact getD_of_getElem? hb
        · simp at hw
      · intro hw
        simp [getElem?_of_getD hw]

/-- An operation that leaves the world alone, or calls, in its place. -/
theorem wp_pure {o : Oper} {g : Option (Nat × Bool)} {x : S0} {needs : List E} {K : Act → World → Prop} {Q : Exit → Act → World → Prop} (h : Inv P B w0 ρ β st a w) (hg : gOk a.tmps g)
    (hp : pureOp P st g o.op = some (x, needs)) (hn : ∀ c ∈ needs, boolOf (c.den ρ) = true) (hK : x.low (· < st.mem.length) → K (a.put o.dst (x.den ρ β)) w) : o.wp P a w K Q := by
  obtain ⟨h1, h2⟩ := pureOp_ok h.fits h.mem hg hp hn
  unfold Oper.wp
  rw [h1]
  exact hK h2

theorem wp_call {o : Oper} {g : Option (Nat × Bool)} {f : Nat} {l : List SV} {x : S0} {K : Act → World → Prop} {Q : Exit → Act → World → Prop} (h : Inv P B w0 ρ β st a w) (hg : gOk a.tmps g) (hΓ : ∀ x ∈ ρ.fns, x.holds P)
    (hp : callOp P ρ.fns st g o.op = some (f, l, x)) (hK : (∀ N, x.low N) → ∀ w', Below w.heap.size w w' → K (a.put o.dst (x.den ρ β)) w') : o.wp P a w K Q := by
  obtain ⟨h1, h2, h3⟩ := callOp_ok (β := β) h.fits hg hΓ hp
  unfold Oper.wp
  rw [h1]
  exact (h3 w).mono fun e w'' ⟨he, hb⟩ => by subst he; exact hK h2 w'' hb

theorem S0.den_ext {x : S0} {N : Nat → Prop} {β' : Nat → Nat} (hx : x.low N) (hβ : ∀ i, N i → β' i = β i) : x.den ρ β' = x.den ρ β := by
  cases x with
  | ptr b o => simp only [S0.den, hβ b hx]
  | clo f l =>
    simp only [S0.den, Value.func.injEq, true_and]
    congr 1
    exact List.map_congr_left fun p hp => by rw [hβ p.1 (hx p hp)]
  | _ => rfl
theorem S0.low_mono {x : S0} {N M : Nat → Prop} (hx : x.low N) (h : ∀ i, N i → M i) : x.low M := by
  cases x with
  | ptr b o => exact h _ hx
  | clo f l => exact fun p hp => h _ (hx p hp)
  | _ => trivial

theorem slotOk_ext {N M : Nat → Prop} {β' : Nat → Nat} {tm : Array Value} {s : Sl} {v : Value} (hβ : ∀ i, N i → β' i = β i) (hM : ∀ i, N i → M i) (h : slotOk ρ β N tm s v) : slotOk ρ β' M tm s v := by
  cases s with
  | dead => trivial
  | full x => exact ⟨by rw [S0.den_ext h.2 hβ]; exact h.1, S0.low_mono h.2 hM⟩
  | may t w x => exact ⟨S0.low_mono h.1 hM, fun hb => by rw [S0.den_ext h.1 hβ]; exact h.2 hb⟩

/-- A new block of the call's own. -/
theorem Inv.new (h : Inv P B w0 ρ β st a w) (dst : Option Nat) (cells : List E) (T : Nat) :
    Inv P B w0 ρ (fun k => if k = st.mem.length then w.heap.size else β k) { (st.put dst (.full (.ptr st.mem.length 0))) with mem := st.mem ++ [(cells, T)] }
      (a.put dst (.pointer (some ⟨w.heap.size, 0, none⟩))) (w.alloc (.cells (cells.map (E.den ρ)).toArray T)) := by
  have hβ : ∀ i, i < st.mem.length → (if i = st.mem.length then w.heap.size else β i) = β i := fun i hi => if_neg (by omega)
  have hf : Fits ρ (fun k => if k = st.mem.length then w.heap.size else β k) { st with mem := st.mem ++ [(cells, T)] } a.tmps :=
    ⟨h.fits.size, fun i s hi => slotOk_ext hβ (fun i hi => by simp; omega) (h.fits.slot i s hi)⟩
  have hp := fits_put hf dst (s := .full (.ptr st.mem.length 0)) (v := .pointer (some ⟨w.heap.size, 0, none⟩)) ⟨by simp [S0.den], by simp [S0.low]⟩
  refine ⟨by rw [put_defers]; exact h.defers, ?_, ?_, ?_, ?_, h.below.alloc h.base _, Nat.le_trans h.base (by simp), by show ∀ s ∈ (st.put _ _).ins, _; rw [put_ins]; exact h.ins⟩
  · have e : ({ (st.put dst (.full (.ptr st.mem.length 0))) with mem := st.mem ++ [(cells, T)] } : St) = ({ st with mem := st.mem ++ [(cells, T)] } : St).put dst (.full (.ptr st.mem.length 0)) := by
      cases dst <;> rfl
    rw [e]; exact hp
  · intro k c T' hk
    simp only at hk
    by_cases hkl : k = st.mem.length
    · subst hkl
      dsimp only
      rw [if_pos rfl]
      simp at hk
      obtain ⟨rfl, rfl⟩ := hk
      exact heap_alloc_new _ _
    · dsimp only
      rw [if_neg hkl]
      have hlt : k < st.mem.length := by
        have := (List.getElem?_eq_some_iff.1 hk).1
        simp at this; omega
      rw [List.getElem?_append_left hlt] at hk
      rw [Below.heap_alloc _ _ _ (h.mem.lt hlt)]
      exact h.mem k c T' hk
  · intro i j hi hj
    simp only [List.length_append, List.length_singleton] at hi hj
    by_cases h1 : i = st.mem.length <;> by_cases h2 : j = st.mem.length
    · intros; omega
    · simp only [if_pos h1, if_neg h2]
      intro e
      have := h.mem.lt (k := j) (by omega)
      omega
    · simp only [if_neg h1, if_pos h2]
      intro e
      have := h.mem.lt (k := i) (by omega)
      omega
    · simp only [if_neg h1, if_neg h2]
      exact h.inj i j (by omega) (by omega)
  · intro i hi
    simp only [List.length_append, List.length_singleton] at hi
    by_cases h1 : i = st.mem.length
    · simp only [if_pos h1]; exact h.base
    · simp only [if_neg h1]; exact h.low i (by omega)

/-- A store into a block of the call's own. -/
theorem Inv.stored (h : Inv P B w0 ρ β st a w) {b : Nat} {cells cells' : List E} {T : Nat} (hb : st.mem[b]? = some (cells, T)) :
    Inv P B w0 ρ β { st with mem := st.mem.set b (cells', T) } a (w.setRow (β b) (cells'.map (E.den ρ)).toArray) := by
  have hbl : b < st.mem.length := (List.getElem?_eq_some_iff.1 hb).1
  have hh := h.mem b cells T hb
  have hoth : ∀ k, k ≠ β b → (w.setRow (β b) (cells'.map (E.den ρ)).toArray).heap[k]? = w.heap[k]? := by
    intro k hk
    simp only [World.setRow, Array.getElem?_modify]
    rw [if_neg (by omega)]
  refine ⟨h.defers, ⟨h.fits.size, fun i s hi => ?_⟩, ?_, ?_, ?_, ?_, ?_, h.ins⟩
  · have := h.fits.slot i s hi
    simpa using this
  · intro k c T' hk
    simp only at hk
    by_cases hkb : b = k
    · subst hkb
      rw [List.getElem?_set_self hbl] at hk
      injection hk with hk
      injection hk with h1 h2
      subst h1; subst h2
      simp only [World.setRow, Array.getElem?_modify, if_true, hh, Option.map_some]
    · rw [List.getElem?_set_ne hkb] at hk
      have hkl : k < st.mem.length := (List.getElem?_eq_some_iff.1 hk).1
      rw [hoth _ (fun e => hkb (h.inj b k hbl hkl e.symm))]
      exact h.mem k c T' hk
  · simpa using h.inj
  · simpa using h.low
  · exact h.below.trans ⟨rfl, rfl, rfl, by simp [World.setRow], fun k hk => hoth k (by have := h.low b hbl; omega)⟩
  · simpa [World.setRow] using h.base

theorem opnd_low {A : Nat → Prop} {g h : Option (Nat × Bool)} {x : Operand} {s : S0} (hf : FitsA ρ β A st a.tmps) (ho : opnd st g h x = some s) : s.low A := by
  unfold opnd at ho
  split at ho
  · split at ho
    · rename_i x hx
      injection ho with ho; subst ho
      exact (hf.slot _ _ hx).2
    · rename_i t' w x hx
      split at ho
      · injection ho with ho; subst ho
        exact (hf.slot _ _ hx).1
      · cases ho
    · cases ho
  · unfold cstS at ho
    split at ho
    · rw [Option.map_eq_some_iff] at ho
      obtain ⟨_, _, rfl⟩ := ho; trivial
    · cases ho
    · rw [Option.map_eq_some_iff] at ho
      obtain ⟨_, _, rfl⟩ := ho; trivial
  · injection ho with ho; subst ho
    exact fun p hp => by cases hp
  · cases ho

theorem ptrs_low {A : Nat → Prop} {g : Option (Nat × Bool)} (hf : FitsA ρ β A st a.tmps) : ∀ {l : List Operand} {r : List (Nat × Nat)}, ptrs st g l = some r → ∀ p ∈ r, A p.1
  | [], r, h, p, hp => by simp only [ptrs, Option.some.injEq] at h; subst h; cases hp
  | x :: l, r, h, p, hp => by
    simp only [ptrs] at h
    split at h
    · rename_i b o r' hx hl
      injection h with h; subst h
      rcases List.mem_cons.1 hp with rfl | hp
      · exact opnd_low hf hx
      · exact ptrs_low hf hl p hp
    · cases h

theorem low_off {N : Nat → Prop} {b o o' : Nat} (h : (S0.ptr b o).low N) : (S0.ptr b o').low N := h
theorem low_of_isSv {x : S0} {N : Nat → Prop} (h : ∃ v, x = .sv v) : x.low N := by obtain ⟨v, rfl⟩ := h; trivial

theorem pureOp_low {A : Nat → Prop} {g : Option (Nat × Bool)} {op : Op} {x : S0} {needs : List E} (hf : FitsA ρ β A st a.tmps) (h : pureOp P st g op = some (x, needs)) : x.low A := by
  have mv : ∀ {y : Operand}, (opnd st g none y).map (·, ([] : List E)) = some (x, needs) → x.low A := by
    intro y hy
    rw [Option.map_eq_some_iff] at hy
    obtain ⟨s, hs, he⟩ := hy
    injection he with he _
    subst he
    exact opnd_low hf hs
  have mp : ∀ {α : Type} {o : Option α} {f : α → SV} {n : α → List E}, o.map (fun v => (S0.sv (f v), n v)) = some (x, needs) → x.low A := by
    intro α o f n hy
    rw [Option.map_eq_some_iff] at hy
    obtain ⟨s, hs, he⟩ := hy
    injection he with he _
    subst he
    trivial
  unfold pureOp at h
  split at h
  · exact mv h
  · exact mv h
  · split at h
    · exact mv h
    · exact mv h
    · split at h
      · split at h
        · split at h
          · split at h
            · simp only [Option.some.injEq, Prod.mk.injEq] at h; obtain ⟨rfl, rfl⟩ := h; trivial
            · cases h
          · cases h
        · cases h
      · cases h
    · cases h
  · exact mp h
  · split at h
    · split at h
      · exact mp h
      · cases h
    · cases h
  · split at h
    · rename_i hy hu
      split at h
      · split at h
        · split at h
          · cases h
          · simp only [Option.some.injEq, Prod.mk.injEq] at h; obtain ⟨rfl, rfl⟩ := h
            exact low_off (opnd_low hf hy)
        · cases h
      · cases h
    · cases h
  · split at h
    · split at h
      · exact mp h
      · cases h
    · cases h
  · split at h
    · rename_i hy hi hu
      split at h
      · split at h
        · simp only [Option.some.injEq, Prod.mk.injEq] at h; obtain ⟨rfl, rfl⟩ := h
          exact low_off (opnd_low hf hy)
        · cases h
      · cases h
    · cases h
  · split at h
    · split at h
      · split at h
        · exact mp h
        · cases h
      · cases h
    · cases h
  · split at h
    · exact mp h
    · split at h
      · exact mp h
      · exact mp h
      · cases h
    · cases h
  · split at h
    · split at h
      · simp only [Option.some.injEq, Prod.mk.injEq] at h; obtain ⟨rfl, rfl⟩ := h; trivial
      · simp only [Option.some.injEq, Prod.mk.injEq] at h; obtain ⟨rfl, rfl⟩ := h; trivial
      · cases h
    · cases h
  · split at h
    · exact mp h
    · cases h
  · split at h
    · rename_i hy
      simp only [Option.some.injEq, Prod.mk.injEq] at h; obtain ⟨rfl, rfl⟩ := h
      exact opnd_low hf hy
    · cases h
  · split at h
    · rename_i hl
      simp only [Option.some.injEq, Prod.mk.injEq] at h; obtain ⟨rfl, rfl⟩ := h
      exact ptrs_low hf hl
    · cases h
  · split at h
    · split at h
      · split at h
        · exact mp h
        · cases h
      · cases h
    · split at h
      · split at h
        · exact mp h
        · cases h
      · cases h
    · cases h
  · cases h

theorem appS0_low {x : Con} {args : E} {r : S0} (h : appS0 x args = some r) (N : Nat → Prop) : r.low N := by
  unfold appS0 at h
  split at h
  · injection h with h; subst h; trivial
  · injection h with h; subst h; trivial
  · cases h

theorem callOp_low {Γ : List Con} {g : Option (Nat × Bool)} {op : Op} {f : Nat} {l : List SV} {r : S0} (h : callOp P Γ st g op = some (f, l, r)) (N : Nat → Prop) : r.low N := by
  unfold callOp at h
  split at h
  · split at h
    · split at h
      · split at h
        · split at h
          · rw [Option.map_eq_some_iff] at h
            obtain ⟨r', hr, he⟩ := h
            simp only [Prod.mk.injEq] at he
            obtain ⟨_, _, rfl⟩ := he
            exact appS0_low hr N
          · cases h
        · cases h
      · cases h
    · cases h
  · cases h
end

end Go.Sx
