/- The symbolic executor: a region that draws its order, with new blocks and stores: whatever order is drawn, what is told holds. No conditions. -/
import Derived.Test.YtpbpbijjkmjjjaaSxExec
namespace Go.Sx
open Go Go.RowKit
variable {ρ : Env} {P : Program}

/-! ## Who waits for whom -/
inductive AncR (ops : Array Oper) : Nat → Nat → Prop where
  | one {k : Nat} {o : Oper} {e : Edge} : ops[k]? = some o → e ∈ o.after → Region.binds .any e = true → AncR ops k e.on
  | more {k j : Nat} {o : Oper} {e : Edge} : ops[k]? = some o → e ∈ o.after → Region.binds .any e = true → AncR ops e.on j → AncR ops k j

theorem fold_bits (acc : List Nat) (j : Nat) : ∀ (es : List Edge) (s : Nat), (es.foldl (fun s e => if Region.binds .any e then s ||| 2 ^ e.on ||| acc.getD e.on 0 else s) s).testBit j = true →
    s.testBit j = true ∨ ∃ e ∈ es, Region.binds .any e = true ∧ (j = e.on ∨ (acc.getD e.on 0).testBit j = true)
  | [], s, h => .inl h
  | e :: es, s, h => by
    simp only [List.foldl_cons] at h
    rcases fold_bits acc j es _ h with h1 | ⟨e', he', hb, hj⟩
    · split at h1
      · rename_i hb
        simp only [Nat.testBit_or, Bool.or_eq_true, Nat.testBit_two_pow, decide_eq_true_eq] at h1
        rcases h1 with (h1 | h1) | h1
        · exact .inl h1
        · exact .inr ⟨e, by simp, hb, .inl h1.symm⟩
        · exact .inr ⟨e, by simp, hb, .inr h1⟩
      · exact .inl h1
    · exact .inr ⟨e', by simp [he'], hb, hj⟩

theorem ancsFrom_ok {ops : Array Oper} : ∀ (l : List Oper) (acc : List Nat), (∀ k j, (acc.getD k 0).testBit j = true → AncR ops k j) → (∀ j, l[j]? = ops[acc.length + j]?) →
    ∀ k j, anc (ancsFrom l acc) k j = true → AncR ops k j
  | [], acc, hacc, _, k, j, h => hacc k j h
  | o :: l, acc, hacc, hl, k, j, h => by
    have ho : ops[acc.length]? = some o := by simpa using (hl 0).symm
    refine ancsFrom_ok l _ (fun k j hb => ?_) (fun i => ?_) k j h
    · by_cases hk : k < acc.length
      · rw [List.getD_eq_getElem?_getD, List.getElem?_append_left hk, ← List.getD_eq_getElem?_getD] at hb
        exact hacc k j hb
      · by_cases hk2 : k = acc.length
        · subst hk2
          rw [List.getD_eq_getElem?_getD, List.getElem?_append_right (Nat.le_refl _), Nat.sub_self] at hb
          simp only [List.getElem?_cons_zero, Option.getD_some] at hb
          rcases fold_bits acc j _ _ hb with h1 | ⟨e, he, hbi, hj | hj⟩
          · simp at h1
          · subst hj; exact .one ho (by simpa using he) hbi
          · exact .more ho (by simpa using he) hbi (hacc _ _ hj)
        · rw [List.getD_eq_getElem?_getD, List.getElem?_append_right (by omega), List.getElem?_eq_none (by simp; omega)] at hb
          simp at hb
    · have := hl (i + 1)
      rw [List.getElem?_cons_succ] at this
      rw [this]
      congr 1
      simp; omega

def Closed (ops : Array Oper) (D : Nat → Bool) : Prop := ∀ j o, ops[j]? = some o → D j = true → ∀ e ∈ o.after, Region.binds .any e = true → D e.on = true

theorem AncR.done {ops : Array Oper} {D : Nat → Bool} (hD : Closed ops D) {k j : Nat} (h : AncR ops k j) : (∀ o, ops[k]? = some o → ∀ e ∈ o.after, Region.binds .any e = true → D e.on = true) → D j = true := by
  induction h with
  | one ho he hb => intro hk; exact hk _ ho _ he hb
  | more ho he hb _ ih => intro hk; exact ih fun o' ho' => hD _ o' ho' (hk _ ho _ he hb)

theorem depsBelow_ok {ops : Array Oper} (h : depsBelow ops.toList = true) {k : Nat} {o : Oper} (ho : ops[k]? = some o) {e : Edge} (he : e ∈ o.after) (hb : Region.binds .any e = true) : e.on < k := by
  unfold depsBelow at h
  have h1 := List.all_eq_true.1 h (o, k) (by
    rw [List.mem_zipIdx_iff_getElem?]
    simpa using ho)
  have h2 := List.all_eq_true.1 h1 e (by simpa using he)
  simp only [hb, Bool.not_true, Bool.false_or] at h2
  rw [Nat.blt_eq] at h2
  exact h2

theorem AncR.lt {ops : Array Oper} (h : depsBelow ops.toList = true) {k j : Nat} (hr : AncR ops k j) : j < k := by
  induction hr with
  | one ho he hb => exact depsBelow_ok h ho he hb
  | more ho he hb _ ih => exact Nat.lt_trans ih (depsBelow_ok h ho he hb)

theorem nodupN_ok : ∀ {l : List Nat}, nodupN l = true → l.Nodup
  | [], _ => .nil
  | x :: l, h => by
    simp only [nodupN, Bool.and_eq_true, Bool.not_eq_true'] at h
    refine List.nodup_cons.2 ⟨fun hm => ?_, nodupN_ok h.2⟩
    have := List.any_eq_false.1 h.1 x hm
    simp at this

theorem dsts_inj : ∀ {l : List Oper}, (dstsOf l).Nodup → ∀ {i j : Nat} {o o' : Oper} {t : Nat}, l[i]? = some o → l[j]? = some o' → o.dst = some t → o'.dst = some t → i = j
  | [], _, i, j, o, o', t, hi, _, _, _ => by simp at hi
  | x :: l, hn, i, j, o, o', t, hi, hj, hd, hd' => by
    have hmem : ∀ {k : Nat} {p : Oper}, l[k]? = some p → p.dst = some t → t ∈ dstsOf l := fun hk hp => List.mem_filterMap.2 ⟨_, List.mem_of_getElem? hk, hp⟩
    have hn' : (dstsOf l).Nodup := by
      cases hx : x.dst with
      | none => simpa [dstsOf, hx] using hn
      | some u =>
        have : (u :: dstsOf l).Nodup := by simpa [dstsOf, hx] using hn
        exact (List.nodup_cons.1 this).2
    have hnot : x.dst = some t → t ∉ dstsOf l := fun hx => by
      have : (t :: dstsOf l).Nodup := by simpa [dstsOf, hx] using hn
      exact (List.nodup_cons.1 this).1
    cases i with
    | zero =>
      cases j with
      | zero => rfl
      | succ j =>
        simp only [List.getElem?_cons_zero, Option.some.injEq] at hi
        subst hi
        exact absurd (hmem (by simpa using hj) hd') (hnot hd)
    | succ i =>
      cases j with
      | zero =>
        simp only [List.getElem?_cons_zero, Option.some.injEq] at hj
        subst hj
        exact absurd (hmem (by simpa using hi) hd) (hnot hd')
      | succ j =>
        have := dsts_inj hn' (i := i) (j := j) (by simpa using hi) (by simpa using hj) hd hd'
        omega

/-! ## The masked slots -/
theorem mask_length (m : List Nat) (k : Nat) : ∀ (os : List Oper) (rs : List OR) (j : Nat) (l : List Sl), (maskSlots m k os rs j l).length = l.length
  | [], _, _, l => rfl
  | o :: os, rs, j, l => by
    unfold maskSlots
    split
    · exact mask_length m k os _ _ l
    · rw [mask_length m k os]; simp

theorem mask_get (m : List Nat) (k : Nat) : ∀ (os : List Oper) (rs : List OR) (j : Nat) (l : List Sl), (dstsOf os).Nodup → ∀ {t : Nat} {s : Sl}, (maskSlots m k os rs j l)[t]? = some s →
    (t ∉ dstsOf os ∧ l[t]? = some s) ∨ ∃ i o, os[i]? = some o ∧ o.dst = some t ∧ s = maskOne m k (j + i) (rs.getD i .skip) (l.getD t .dead)
  | [], _, _, l, _, t, s, h => .inl ⟨by simp [dstsOf], h⟩
  | o :: os, rs, j, l, hn, t, s, h => by
    have hrs : ∀ i, rs.tail.getD i OR.skip = rs.getD (i + 1) .skip := fun i => by cases rs <;> simp
    cases ho : o.dst with
    | none =>
      have hd : dstsOf (o :: os) = dstsOf os := by simp [dstsOf, ho]
      rw [hd] at hn ⊢
      simp only [maskSlots, ho] at h
      rcases mask_get m k os rs.tail (j + 1) l hn h with h1 | ⟨i, o', hi, hd', hs⟩
      · exact .inl h1
      · exact .inr ⟨i + 1, o', by simpa using hi, hd', by rw [hs, hrs]; congr 1; omega⟩
    | some u =>
      have hd : dstsOf (o :: os) = u :: dstsOf os := by simp [dstsOf, ho]
      rw [hd] at hn ⊢
      obtain ⟨hu, hn'⟩ := List.nodup_cons.1 hn
      simp only [maskSlots, ho] at h
      rcases mask_get m k os rs.tail (j + 1) _ hn' h with ⟨hnt, h1⟩ | ⟨i, o', hi, hd', hs⟩
      · by_cases htu : u = t
        · subst htu
          refine .inr ⟨0, o, rfl, ho, ?_⟩
          rw [List.getElem?_set_self'] at h1
          simp only [Option.map_eq_map, Option.map_eq_some_iff] at h1
          obtain ⟨_, _, rfl⟩ := h1
          cases rs <;> simp
        · rw [List.getElem?_set_ne htu] at h1
          exact .inl ⟨by simp [hnt]; exact fun e => htu e.symm, h1⟩
      · refine .inr ⟨i + 1, o', by simpa using hi, hd', ?_⟩
        have htu : u ≠ t := fun e => by
          subst e
          exact hu (List.mem_filterMap.2 ⟨_, List.mem_of_getElem? hi, hd'⟩)
        have e : ∀ x, (l.set u x).getD t Sl.dead = l.getD t .dead := fun x => by simp [List.getD_eq_getElem?_getD, List.getElem?_set_ne htu]
        rw [hs, hrs, e]
        congr 1; omega

theorem end_length : ∀ (os : List Oper) (rs : List OR) (l : List Sl), (endSlots os rs l).length = l.length
  | [], _, l => rfl
  | o :: os, rs, l => by
    unfold endSlots
    split
    · exact end_length os _ l
    · rw [end_length os]; simp
theorem end_get : ∀ (os : List Oper) (rs : List OR) (l : List Sl), (dstsOf os).Nodup → ∀ {t : Nat} {s : Sl}, (endSlots os rs l)[t]? = some s →
    (t ∉ dstsOf os ∧ l[t]? = some s) ∨ ∃ i o, os[i]? = some o ∧ o.dst = some t ∧ s = (rs.getD i .skip).slot
  | [], _, l, _, t, s, h => .inl ⟨by simp [dstsOf], h⟩
  | o :: os, rs, l, hn, t, s, h => by
    have hrs : ∀ i, rs.tail.getD i OR.skip = rs.getD (i + 1) .skip := fun i => by cases rs <;> simp
    cases ho : o.dst with
    | none =>
      have hd : dstsOf (o :: os) = dstsOf os := by simp [dstsOf, ho]
      rw [hd] at hn ⊢
      simp only [endSlots, ho] at h
      rcases end_get os rs.tail l hn h with h1 | ⟨i, o', hi, hd', hs⟩
      · exact .inl h1
      · exact .inr ⟨i + 1, o', by simpa using hi, hd', by rw [hs, hrs]⟩
    | some u =>
      have hd : dstsOf (o :: os) = u :: dstsOf os := by simp [dstsOf, ho]
      rw [hd] at hn ⊢
      obtain ⟨hu, hn'⟩ := List.nodup_cons.1 hn
      simp only [endSlots, ho] at h
      rcases end_get os rs.tail _ hn' h with ⟨hnt, h1⟩ | ⟨i, o', hi, hd', hs⟩
      · by_cases htu : u = t
        · subst htu
          refine .inr ⟨0, o, rfl, ho, ?_⟩
          rw [List.getElem?_set_self'] at h1
          simp only [Option.map_eq_map, Option.map_eq_some_iff] at h1
          obtain ⟨_, _, rfl⟩ := h1
          cases rs <;> simp
        · rw [List.getElem?_set_ne htu] at h1
          exact .inl ⟨by simp [hnt]; exact fun e => htu e.symm, h1⟩
      · exact .inr ⟨i + 1, o', by simpa using hi, hd', by rw [hs, hrs]⟩

theorem killAll_length : ∀ (ts : List Nat) (l : List Sl), (killAll ts l).length = l.length
  | [], l => rfl
  | t :: ts, l => by
    show (killAll ts (l.map (kill t))).length = _
    rw [killAll_length ts]; simp
/-- A slot of which nothing hangs on these temporaries, and which is as it was, or dead. -/
theorem killAll_get : ∀ (ts : List Nat) (l : List Sl) {i : Nat} {s : Sl}, (killAll ts l)[i]? = some s → (s = .dead ∨ l[i]? = some s) ∧ ∀ t w x, s = .may t w x → t ∉ ts
  | [], l, i, s, h => ⟨.inr h, fun _ _ _ _ => by simp⟩
  | t :: ts, l, i, s, h => by
    have h' : (killAll ts (l.map (kill t)))[i]? = some s := h
    obtain ⟨h1, h2⟩ := killAll_get ts _ h'
    have h3 : s = .dead ∨ ∃ s0, l[i]? = some s0 ∧ kill t s0 = s := by
      rcases h1 with h1 | h1
      · exact .inl h1
      · rw [List.getElem?_map, Option.map_eq_some_iff] at h1
        exact .inr h1
    have h4 : ∀ s0, kill t s0 = s → (s = .dead ∨ s0 = s) ∧ ∀ w x, s ≠ .may t w x := fun s0 hk => by
      cases s0 with
      | dead => exact ⟨.inr hk, fun w x e => by rw [e] at hk; cases hk⟩
      | full y => exact ⟨.inr hk, fun w x e => by rw [e] at hk; cases hk⟩
      | may u w y =>
        simp only [kill] at hk
        split at hk
        · exact ⟨.inl hk.symm, fun w x e => by rw [e] at hk; cases hk⟩
        · rename_i hne
          refine ⟨.inr hk, fun w x e => ?_⟩
          rw [e] at hk
          injection hk with h5
          exact hne (by rw [h5]; exact Nat.beq_refl _)
    refine ⟨?_, fun u w x e => ?_⟩
    · rcases h3 with h3 | ⟨s0, h5, h6⟩
      · exact .inl h3
      · rcases (h4 s0 h6).1 with h7 | h7
        · exact .inl h7
        · exact .inr (by rw [← h7]; exact h5)
    · rw [List.mem_cons, not_or]
      refine ⟨fun hut => ?_, h2 u w x e⟩
      subst hut
      rcases h3 with h3 | ⟨s0, _, h6⟩
      · rw [h3] at e; cases e
      · exact (h4 s0 h6).2 w x e

/-! ## Stores -/
def applyB (b : Nat) : List OR → List E → List E
  | [], c => c
  | .sto b' off cs :: rs, c => if b' = b then applyB b rs (splice c cs off) else applyB b rs c
  | .skip :: rs, c | .val _ :: rs, c | .new _ :: rs, c => applyB b rs c

theorem stored_get : ∀ (rs : List OR) (mem : List (List E × Nat)) (b : Nat), (stored mem rs)[b]? = (mem[b]?).map fun p => (applyB b rs p.1, p.2)
  | [], mem, b => by cases h : mem[b]? <;> simp [stored, applyB, h]
  | .skip :: rs, mem, b => stored_get rs mem b
  | .val _ :: rs, mem, b => stored_get rs mem b
  | .new _ :: rs, mem, b => stored_get rs mem b
  | .sto b' off cs :: rs, mem, b => by
    simp only [stored, applyB]
    rw [stored_get rs _ b]
    cases hm : mem[b']? with
    | none =>
      dsimp only
      split
      · rename_i h; subst h; rw [hm]; rfl
      · rfl
    | some p =>
      obtain ⟨c, T⟩ := p
      dsimp only
      split
      · rename_i h
        subst h
        rw [List.getElem?_set_self (List.getElem?_eq_some_iff.1 hm).1, hm]
        rfl
      · rename_i h
        rw [List.getElem?_set_ne h]
theorem stored_length (mem : List (List E × Nat)) : ∀ (rs : List OR), (stored mem rs).length = mem.length := by
  intro rs
  induction rs generalizing mem with
  | nil => rfl
  | cons r rs ih =>
    cases r with
    | sto b off cs =>
      simp only [stored]
      rw [ih]
      split <;> simp
    | _ => exact ih mem

def rsD (D : Nat → Bool) : List OR → Nat → List OR
  | [], _ => []
  | r :: rs, j => (if D j then r else .skip) :: rsD D rs (j + 1)

theorem applyB_none {b : Nat} {D : Nat → Bool} : ∀ (rs : List OR) (j : Nat) (c : List E), (∀ i, D (j + i) = true → ∀ off cs, rs.getD i .skip ≠ .sto b off cs) → applyB b (rsD D rs j) c = c
  | [], j, c, _ => rfl
  | r :: rs, j, c, h => by
    have ih := fun c => applyB_none rs (j + 1) c (fun i hi off cs => by
      have := h (i + 1) (by rwa [show j + (i + 1) = j + 1 + i by omega]) off cs
      simpa using this)
    simp only [rsD]
    split
    · rename_i hd
      have h0 := h 0 (by simpa using hd)
      simp only [List.getD_cons_zero] at h0
      cases r with
      | sto b' off cs =>
        simp only [applyB]
        rw [if_neg (fun e => h0 off cs (by rw [e])), ih]
      | _ => simp only [applyB]; exact ih c
    · exact ih c

theorem applyB_congr {b : Nat} {D D' : Nat → Bool} : ∀ (rs : List OR) (j : Nat) (c : List E), (∀ i off cs, rs.getD i .skip = .sto b off cs → D (j + i) = D' (j + i)) → applyB b (rsD D rs j) c = applyB b (rsD D' rs j) c
  | [], j, c, _ => rfl
  | r :: rs, j, c, h => by
    have ih := fun c => applyB_congr (D := D) (D' := D') rs (j + 1) c (fun i off cs hi => by
      have := h (i + 1) off cs (by simpa using hi)
      rwa [show j + (i + 1) = j + 1 + i by omega] at this)
    have skip : ∀ (r : OR) (x : List OR) (c : List E), (∀ b' off cs, r = .sto b' off cs → b' ≠ b) → applyB b (r :: x) c = applyB b x c := by
      intro r x c hr
      cases r with
      | sto b' off cs => simp only [applyB]; rw [if_neg (hr b' off cs rfl)]
      | _ => rfl
    by_cases hr : ∃ off cs, r = .sto b off cs
    · obtain ⟨off, cs, rfl⟩ := hr
      have h0 := h 0 off cs rfl
      simp only [Nat.add_zero] at h0
      simp only [rsD, h0]
      split
      · simp only [applyB, if_true]; exact ih _
      · exact ih c
    · have hr' : ∀ (d : Bool), ∀ b' off cs, (if d = true then r else OR.skip) = .sto b' off cs → b' ≠ b := by
        intro d b' off cs e hb
        subst hb
        cases d with
        | true => exact hr ⟨off, cs, by simpa using e⟩
        | false => simp at e
      simp only [rsD]
      rw [skip _ _ _ (hr' (D j)), skip _ _ _ (hr' (D' j))]
      exact ih c

/-- One store more, none behind it. -/
theorem applyB_last {b k off : Nat} {cs : List E} {D : Nat → Bool} : ∀ (rs : List OR) (j : Nat) (c : List E), j ≤ k → rs.getD (k - j) .skip = .sto b off cs → D k = false →
    (∀ i, k < j + i → D (j + i) = true → ∀ off cs, rs.getD i .skip ≠ .sto b off cs) →
    applyB b (rsD (fun i => D i || Nat.beq i k) rs j) c = splice (applyB b (rsD D rs j) c) cs off
  | [], j, c, _, hr, _, _ => by simp at hr
  | r :: rs, j, c, hjk, hr, hk, hno => by
    by_cases hjk' : j = k
    · subst hjk'
      simp only [Nat.sub_self, List.getD_cons_zero] at hr
      subst hr
      simp only [rsD, hk, Nat.beq_refl, Bool.or_true, if_true, applyB, Bool.false_eq_true, if_false]
      rw [applyB_none rs (j + 1), applyB_none rs (j + 1)]
      · intro i hi off' cs'
        have := hno (i + 1) (by omega) (by rwa [show j + (i + 1) = j + 1 + i by omega]) off' cs'
        simpa using this
      · intro i hi off' cs'
        have hne : Nat.beq (j + 1 + i) j = false := by
          cases hb : Nat.beq (j + 1 + i) j with
          | false => rfl
          | true => have := Nat.eq_of_beq_eq_true hb; omega
        rw [hne, Bool.or_false] at hi
        have := hno (i + 1) (by omega) (by rwa [show j + (i + 1) = j + 1 + i by omega]) off' cs'
        simpa using this
    · have ih := fun c => applyB_last (b := b) (k := k) (off := off) (cs := cs) (D := D) rs (j + 1) c (by omega) (by
        rw [show k - j = (k - (j + 1)) + 1 by omega] at hr
        simpa using hr) hk (fun i hi hd off' cs' => by
        have := hno (i + 1) (by omega) (by rwa [show j + (i + 1) = j + 1 + i by omega]) off' cs'
        simpa using this)
      have hne : Nat.beq j k = false := by
        cases hb : Nat.beq j k with
        | false => rfl
        | true => exact absurd (Nat.eq_of_beq_eq_true hb) hjk'
      simp only [rsD, hne, Bool.or_false]
      split
      · cases r with
        | sto b' off' cs' =>
          simp only [applyB]
          split
          · exact ih _
          · exact ih _
        | _ => simp only [applyB]; exact ih c
      · exact ih c

theorem splice_length {c cs : List E} {off : Nat} (h : off + cs.length ≤ c.length) : (splice c cs off).length = c.length := by
  simp [splice]; omega

theorem applyB_length {b N : Nat} : ∀ (rs : List OR) (c : List E), c.length = N → (∀ r ∈ rs, ∀ off cs, r = .sto b off cs → off + cs.length ≤ N) → (applyB b rs c).length = N
  | [], c, hc, _ => hc
  | .skip :: rs, c, hc, h => applyB_length (b := b) rs c hc fun r hr => h r (by simp [hr])
  | .val _ :: rs, c, hc, h => applyB_length (b := b) rs c hc fun r hr => h r (by simp [hr])
  | .new _ :: rs, c, hc, h => applyB_length (b := b) rs c hc fun r hr => h r (by simp [hr])
  | .sto b' off cs :: rs, c, hc, h => by
    simp only [applyB]
    split
    · rename_i hb
      subst hb
      refine applyB_length rs _ ?_ fun r hr => h r (by simp [hr])
      rw [splice_length (by rw [hc]; exact h _ (by simp) off cs rfl)]; exact hc
    · exact applyB_length (b := b) rs c hc fun r hr => h r (by simp [hr])

end Go.Sx
