/- A law's row out of a contract: its arguments read as data, and read behind the call as before. No conditions. -/
import Derived.Test.YtpbpbijjkmjjjaaSxCon
import Derived.ProofKit
import Derived.Carry
import Derived.OpenShut
namespace Go.Sx
open Go Go.RowKit Go.WideShapes Go.ChangeShapes

section
variable {H : Type} {enc : TypeId × Value → H} {P : Program}

theorem post_of_below {f : Func} {s : ChangeSpec} {apart fresh handsOn again : Bool} {W W' : World} {args : Array Value} {v : Value} {ds gs : List (DataW H)} {before pa pv : List MemPlace}
    (hW : DataW.Whole enc P f.params.toList s.vars apart W args.toList ds gs before)
    (hres : ∀ (b : Nat) (sp : Nat → Bool) (hd : Bool), DataW.TrodAll enc P W' b sp hd f.resultTypes.toList (v.resultList f.resultTypes.size) (s.fn H (ds ++ gs)).results [])
    (hargs : ∀ sp : Nat → Bool, (∀ p ∈ before, sp p.block = true) → DataW.TrodAll enc P W' 0 sp true f.params.toList args.toList (s.fn H (ds ++ gs)).args pa)
    (hvars : ∀ sp : Nat → Bool, (∀ p ∈ before, sp p.block = true) → DataW.TrodVars enc P W' sp s.vars (s.fn H (ds ++ gs)).vars pv)
    (hps : before = pa ++ pv) (hb : Below W.heap.size W W')
    (hok : ∀ (j : Nat) (t : TypeId) (r : Value), f.resultTypes[j]? = some t → (v.resultList f.resultTypes.size)[j]? = some r → Value.okWide P W' .any 0 t r) :
    s.post enc P f apart fresh handsOn again W args v W' := by
  have hlt : ∀ p ∈ before, p.block < W.heap.size := fun p hp => hW.lt p hp
  have hold : ∀ p ∈ before, (fun b => decide (b < W.heap.size)) p.block = true := fun p hp => by simpa using hlt p hp
  refine ⟨ds, gs, before, [], pa, pv, hW, hres _ _ _, hargs _ hold, hvars _ hold, World.keptBut_mono (fun p hp => ⟨hp, ?_⟩) (hb.frame (· ∈ before)), fun _ => ?_⟩
  · rw [hps, List.mem_append] at hp
    exact Or.inr hp
  · obtain ⟨_, _, _, _, _, hz, hn⟩ := hW
    refine ⟨hok, _, _, ([] ++ pa) ++ pv, ⟨[] ++ pa, pv, trodAll_append (hargs _ (fun _ _ => rfl)) (hres _ _ _), hvars _ (fun _ _ => rfl), rfl, ?_, ?_⟩, ?_⟩
    · intro b off hp
      have hin : MemPlace.cell b off ∈ before := by rw [hps]; simpa using hp
      rw [hb.frozen (hlt _ hin)]
      exact hz b off hin
    · intro ha
      have := hn ha
      rw [hps] at this
      simpa using this
    · intro p hp _
      rw [hps]
      simpa using hp

/-- What was read reads so still. -/
theorem args_stay (hl : laidOutB P = true) {W W' : World} (hb : Below W.heap.size W W') {sp : Nat → Bool} : ∀ {ts : List TypeId} {vs : List Value} {ds : List (DataW H)} {ps : List MemPlace}, (∀ t ∈ ts, P.readableRec t = true ∧ t < P.types.size) →
    DataW.TrodAll enc P W 0 (fun _ => true) true ts vs ds ps → (∀ p ∈ ps, p.block < W.heap.size) → (∀ p ∈ ps, sp p.block = true) → DataW.TrodAll enc P W' 0 sp true ts vs ds ps
  | [], [], [], ps, _, h, _, _ => h
  | [], [], _ :: _, _, _, h, _, _ => h.elim
  | [], _ :: _, _, _, _, h, _, _ => h.elim
  | _ :: _, [], _, _, _, h, _, _ => h.elim
  | _ :: _, _ :: _, [], _, _, h, _, _ => h.elim
  | t :: ts, v :: vs, d :: ds, ps, hr, h, hlt, hsp => by
    obtain ⟨p, q, h1, h2, rfl⟩ := h
    have hrt := hr t (by simp)
    refine ⟨p, q, ?_, args_stay hl hb (fun t ht => hr t (by simp [ht])) h2 (fun x hx => hlt x (by simp [hx])) (fun x hx => hsp x (by simp [hx])), rfl⟩
    exact WideElems.Trod_stays hl hrt.1 hrt.2 h1 (fun x hx => hb.same (hlt x (by simp [hx]))) (fun x hx => hsp x (by simp [hx]))

/-! ## Flat types -/
def flatFields (flat : TypeId → Option (List Ty)) (P : Program) : List Field → Nat → Option (List Ty)
  | [], _ => some []
  | f :: fs, off => match flat f.type with
    | some ts => if Nat.beq f.offset off && Nat.beq (P.cellsOf f.type) ts.length then (flatFields flat P fs (off + ts.length)).map (ts ++ ·) else none
    | none => none
def flatOf (P : Program) : Nat → TypeId → Option (List Ty)
  | 0, _ => none
  | n + 1, t => match P.underlying t with
    | some (.int .i64) => some [.i]
    | some .bool => some [.b]
    | some (.slice _) => some [.v]
    | some (.struct fs) => match flatFields (flatOf P n) P fs.toList 0 with
      | some ts => if Nat.beq (P.cellsOf t) ts.length then some ts else none
      | none => none
    | some (.array k e) => match flatOf P n e with
      | some ts => if Nat.beq (P.cellsOf e) ts.length && Nat.beq (P.cellsOf t) (k * ts.length) then some (List.replicate k ts).flatten else none
      | none => none
    | _ => none

/-- Cells of these kinds, each number within its kind. -/
def cellOk (v : Value) : Prop := ∀ n, v = .int .i64 n → -9223372036854775808 ≤ n ∧ n ≤ 9223372036854775807
def bounded (cs : List Value) : Prop := ∀ v ∈ cs, cellOk v

theorem flatFields_ok {w : World} {base : Nat} {sp : Nat → Bool} {hd : Bool} {flat : TypeId → Option (List Ty)} {cs : List Value} (ok : ∀ f : Field, ∀ ts, flat f.type = some ts → (∃ m x, DataW.trod enc P w base sp hd m f.type ((cs.drop f.offset).take (P.cellsOf f.type)) = some x) → typed ts ((cs.drop f.offset).take (P.cellsOf f.type)) ∧ bounded ((cs.drop f.offset).take (P.cellsOf f.type))) :
    ∀ (fs : List Field) (off : Nat) (ts : List Ty), flatFields flat P fs off = some ts → (∀ f ∈ fs, ∃ m x, DataW.trod enc P w base sp hd m f.type ((cs.drop f.offset).take (P.cellsOf f.type)) = some x) → cs.length = off + ts.length → typed ts (cs.drop off) ∧ bounded (cs.drop off)
  | [], off, ts, h, _, hl => by
    simp only [flatFields, Option.some.injEq] at h
    subst h
    have : cs.drop off = [] := List.drop_eq_nil_of_le (by simp at hl; omega)
    rw [this]
    exact ⟨rfl, fun v hv => by cases hv⟩
  | f :: fs, off, ts, h, ht, hl => by
    simp only [flatFields] at h
    split at h
    · rename_i us hu
      split at h
      · rename_i hc
        simp only [Bool.and_eq_true] at hc
        have ho := Nat.eq_of_beq_eq_true hc.1
        have hn := Nat.eq_of_beq_eq_true hc.2
        rw [Option.map_eq_some_iff] at h
        obtain ⟨rs, hr, rfl⟩ := h
        obtain ⟨h1, h2⟩ := ok f us hu (ht f (by simp))
        have ih := flatFields_ok ok fs (off + us.length) rs hr (fun g hg => ht g (by simp [hg])) (by simp at hl; omega)
        rw [ho, hn] at h1 h2
        have e : cs.drop off = (cs.drop off).take us.length ++ cs.drop (off + us.length) := by
          rw [← List.drop_drop, List.take_append_drop]
        rw [e]
        refine ⟨typed_append h1 ih.1, fun v hv => ?_⟩
        rcases List.mem_append.1 hv with hv | hv
        · exact h2 v hv
        · exact ih.2 v hv
      · cases h
    · cases h

theorem typed_len : ∀ {ts : List Ty} {cs : List Value}, typed ts cs → cs.length = ts.length
  | [], cs, h => by have : cs = [] := h; subst this; rfl
  | .i :: ts, cs, h => by obtain ⟨n, r, rfl, hr⟩ := h; simp [typed_len hr]
  | .b :: ts, cs, h => by obtain ⟨n, r, rfl, hr⟩ := h; simp [typed_len hr]
  | .v :: ts, cs, h => by obtain ⟨n, r, rfl, _, hr⟩ := h; simp [typed_len hr]

theorem typed_rep {ts : List Ty} {c : Nat} : ∀ (k : Nat) (cs : List Value), ts.length = c → cs.length = k * c → (∀ i, i < k → typed ts ((cs.drop (i * c)).take c) ∧ bounded ((cs.drop (i * c)).take c)) → typed (List.replicate k ts).flatten cs ∧ bounded cs
  | 0, cs, _, hl, _ => by
    have : cs = [] := List.eq_nil_of_length_eq_zero (by omega)
    subst this
    exact ⟨rfl, fun v hv => by cases hv⟩
  | k + 1, cs, hc, hl, h => by
    have h0 := h 0 (by omega)
    simp only [Nat.zero_mul, List.drop_zero] at h0
    have ih := typed_rep k (cs.drop c) hc (by rw [List.length_drop, hl, Nat.succ_mul]; omega) fun i hi => by
      have := h (i + 1) (by omega)
      rw [List.drop_drop, show c + i * c = (i + 1) * c by rw [Nat.succ_mul]; omega]
      exact this
    have e : cs = cs.take c ++ cs.drop c := (List.take_append_drop _ _).symm
    rw [e, List.replicate_succ, List.flatten_cons]
    refine ⟨typed_append h0.1 ih.1, fun v hv => ?_⟩
    rcases List.mem_append.1 hv with hv | hv
    · exact h0.2 v hv
    · exact ih.2 v hv

theorem flatOf_ok {w : World} {base : Nat} {sp : Nat → Bool} {hd : Bool} : ∀ (n : Nat) (t : TypeId) (ts : List Ty), flatOf P n t = some ts → ∀ (m : Nat) (cs : List Value) x, DataW.trod enc P w base sp hd m t cs = some x → typed ts cs ∧ bounded cs
  | 0, t, ts, h, _, _, _, _ => by simp [flatOf] at h
  | n + 1, t, ts, h, m, cs, x, hx => by
    simp only [flatOf] at h
    split at h
    · rename_i hu
      injection h with h; subst h
      obtain ⟨k, rfl, rfl, hw⟩ := DataW.trod_int hu hx
      refine ⟨⟨k, [], rfl, rfl⟩, fun v hv k' he => ?_⟩
      have : v = .int .i64 k := by simpa using hv
      rw [this] at he
      injection he with _ he
      subst he
      have hmin : IntKind.i64.min = -9223372036854775808 := rfl
      have hmax : IntKind.i64.max = 9223372036854775807 := rfl
      simp only [Lit.wf, Bool.and_eq_true, decide_eq_true_eq] at hw
      omega
    · rename_i hu
      injection h with h; subst h
      obtain ⟨b, rfl, rfl⟩ := DataW.trod_bool hu hx
      refine ⟨⟨b, [], rfl, rfl⟩, fun v hv k' he => ?_⟩
      have : v = .bool b := by simpa using hv
      rw [this] at he; cases he
    · rename_i e hu
      injection h with h; subst h
      cases m with
      | zero => simp [DataW.trod] at hx
      | succ m =>
        unfold DataW.trod at hx
        rw [hu] at hx
        split at hx <;> rename_i h1 <;> first | (cases h1; done) | skip
        · exact ⟨⟨_, [], rfl, rfl, rfl⟩, fun v hv k' he => by
            have := List.mem_singleton.1 hv
            rw [this] at he; cases he⟩
        · exact ⟨⟨_, [], rfl, rfl, rfl⟩, fun v hv k' he => by
            have := List.mem_singleton.1 hv
            rw [this] at he; cases he⟩
        · cases hx
    · rename_i fs hu
      split at h
      · rename_i us hus
        split at h
        · rename_i hc
          injection h with h; subst h
          have hc := Nat.eq_of_beq_eq_true hc
          obtain ⟨xs, k, _, _, hlen, hxl, hall⟩ := DataW.trod_struct hu hx
          have := flatFields_ok (enc := enc) (P := P) (w := w) (base := base) (sp := sp) (hd := hd) (cs := cs) (fun f ts hf ⟨m', x', hx'⟩ => flatOf_ok n f.type ts hf m' _ x' hx') fs.toList 0 us hus (fun f hf => by
            obtain ⟨i, hi⟩ := List.getElem?_of_mem hf
            have hi' : fs[i]? = some f := by simpa using hi
            have hlt : i < xs.length := by rw [hxl]; exact (Array.getElem?_eq_some_iff.1 hi').1
            exact ⟨k, xs[i], by rw [hall i f hi']; simp [hlt]⟩) (by rw [hlen, hc]; simp)
          simpa using this
        · cases h
      · cases h
    · rename_i k e hu
      split at h
      · rename_i us hus
        split at h
        · rename_i hc
          simp only [Bool.and_eq_true] at hc
          injection h with h; subst h
          have hc1 := Nat.eq_of_beq_eq_true hc.1
          have hc2 := Nat.eq_of_beq_eq_true hc.2
          obtain ⟨xs, m', _, _, hlen, hxl, hall⟩ := DataW.trod_array hu hx
          refine typed_rep k cs hc1.symm (by rw [hlen, hc2, hc1]) fun i hi => ?_
          have := hall i hi
          rw [List.getElem?_eq_getElem (by rw [hxl]; exact hi)] at this
          exact flatOf_ok n e us hus m' _ _ this
        · cases h
      · cases h
    · cases h

/-- The arguments of a law: each of a flat type. -/
def flatParams (P : Program) : List TypeId → Option (List (Option Nat × List Ty))
  | [] => some []
  | t :: ts => match flatOf P 20 t, flatParams P ts, P.underlying t with
    | some us, some r, some d => if isAggD d then some ((some 0, us) :: r) else match us with
      | [u] => some ((none, [u]) :: r)
      | _ => none
    | _, _, _ => none

theorem flatParams_ok {W : World} {r : Reach} {b0 : Nat} : ∀ {ts : List TypeId} {ps : List (Option Nat × List Ty)} {vs : List Value} {ds : List (DataW H)} {pl : List MemPlace}, flatParams P ts = some ps → (∀ (j : Nat) (t : TypeId) (v : Value), ts[j]? = some t → vs[j]? = some v → Value.okWide P W r b0 t v) →
    DataW.TrodAll enc P W 0 (fun _ => true) true ts vs ds pl → ∃ cs, typed (ps.flatMap (·.2)) cs ∧ bounded cs ∧ groupArgs ps cs = vs
  | [], ps, [], ds, pl, h, _, _ => by
    simp only [flatParams, Option.some.injEq] at h
    subst h
    exact ⟨[], rfl, fun v hv => (by cases hv), rfl⟩
  | [], ps, _ :: _, ds, pl, h, _, ht => by cases ds <;> exact ht.elim
  | _ :: _, ps, [], ds, pl, h, _, ht => by cases ds <;> exact ht.elim
  | _ :: _, ps, _ :: _, [], pl, h, _, ht => ht.elim
  | t :: ts, ps, v :: vs, d :: ds, pl, h, hv, ht => by
    obtain ⟨p, q, ⟨m, hm⟩, h2, rfl⟩ := ht
    simp only [flatParams] at h
    split at h
    · rename_i us rs dd hus hrs hdd
      obtain ⟨cs', c1, c2, c3⟩ := flatParams_ok (r := r) (b0 := b0) hrs (fun j t' v' hj hj' => hv (j + 1) t' v' (by simpa using hj) (by simpa using hj')) h2
      obtain ⟨t1, t2⟩ := flatOf_ok 20 t us hus m _ _ hm
      have hb : bounded (v.cells.toList ++ cs') := fun x hx => by
        rcases List.mem_append.1 hx with hx | hx
        · exact t2 x hx
        · exact c2 x hx
      split at h
      · rename_i hag
        injection h with h; subst h
        have hva : v = .agg v.cells := by
          have h0 := hv 0 t v rfl rfl
          unfold Value.okWide at h0
          rw [hdd] at h0
          cases dd <;> first | (simp [isAggD] at hag; done) | (obtain ⟨cs, rfl, _⟩ := h0; rfl)
        refine ⟨v.cells.toList ++ cs', by rw [List.flatMap_cons]; exact typed_append t1 c1, hb, ?_⟩
        have hl : us.length = v.cells.toList.length := (typed_len t1).symm
        simp only [groupArgs]
        rw [hl, List.take_left', List.drop_left', c3, Array.toArray_toList, ← hva]
        · rfl
        · rfl
      · rename_i hag
        split at h
        · rename_i u
          injection h with h; subst h
          have hone : v.cells.toList = [v] := by
            have h0 := hv 0 t v rfl rfl
            unfold Value.okWide at h0
            rw [hdd] at h0
            cases v with
            | agg cs =>
              exfalso
              cases dd <;> first | (simp [isAggD] at hag; done) | (simp [Cell.okWide, Cell.ok, hdd] at h0)
            | _ => rfl
          rw [hone] at t1 hb
          refine ⟨[v] ++ cs', by rw [List.flatMap_cons]; exact typed_append t1 c1, hb, ?_⟩
          simp only [groupArgs, List.cons_append, List.headD_cons, List.nil_append, List.tail_cons, c3]
        · cases h
    · cases h

theorem trodAll_len {W : World} {sp : Nat → Bool} {hd : Bool} {b : Nat} : ∀ {ts : List TypeId} {vs : List Value} {ds : List (DataW H)} {ps : List MemPlace}, DataW.TrodAll enc P W b sp hd ts vs ds ps → ds.length = ts.length
  | [], [], [], _, _ => rfl
  | [], [], _ :: _, _, h => h.elim
  | [], _ :: _, _, _, h => by cases ‹List (DataW H)› <;> exact h.elim
  | _ :: _, [], _, _, h => by cases ‹List (DataW H)› <;> exact h.elim
  | _ :: _, _ :: _, [], _, h => h.elim
  | _ :: _, _ :: _, _ :: _, _, h => by
    obtain ⟨_, _, _, h2, _⟩ := h
    simp [trodAll_len h2]

/-- A law's step: every call returns true, and the arguments read as before. -/
theorem law_step {f : Func} {s : ChangeSpec} {b base : Nat} {apart fresh handsOn again : Bool} {W : World} {args : Array Value} {ds gs : List (DataW H)} {before : List MemPlace} {x : Con}
    (hl : laidOutB P = true) (hr : f.params.toList.all (fun t => P.readableRec t && decide (t < P.types.size)) = true) (hps : flatParams P f.params.toList = some x.params) (hv : s.vars = []) (hrt : f.resultTypes = #[b]) (hb : P.underlying b = some .bool)
    (hfn : ∀ l : List (DataW H), l.length = f.params.size → (s.fn H l).results = [.lit (.bool true)] ∧ (s.fn H l).args = l ∧ (s.fn H l).vars = [])
    (hx : x.holds P) (htrue : ∀ cs, typed (x.params.flatMap (·.2)) cs → bounded cs → x.out cs = .bool true)
    (hval : ∀ (j : Nat) t v, f.params[j]? = some t → args[j]? = some v → Value.okWide P W .any base t v)
    (hW : DataW.Whole enc P f.params.toList s.vars apart W args.toList ds gs before) :
    Calls P x.f args W fun e W' => ∃ v, e = .returned v ∧ s.post enc P f apart fresh handsOn again W args v W' := by
  have hW' := hW
  have hlt : ∀ p ∈ before, p.block < W.heap.size := fun p hp => hW.lt p hp
  obtain ⟨p, q, hA, hV, rfl, hfz, hnd⟩ := hW
  have hgs : gs = [] ∧ q = [] := by
    rw [hv] at hV
    cases gs with
    | nil => exact ⟨rfl, hV⟩
    | cons g gs => exact hV.elim
  obtain ⟨rfl, rfl⟩ := hgs
  obtain ⟨cs, h1, h2, h3⟩ := flatParams_ok (r := .any) (b0 := base) hps (fun j t v hj hv => hval j t v (by simpa using hj) (by simpa using hv)) hA
  have hlen : (ds ++ []).length = f.params.size := by rw [List.append_nil, trodAll_len hA]; simp
  obtain ⟨f1, f2, f3⟩ := hfn (ds ++ []) hlen
  have hc := hx cs h1 W
  rw [h3, Array.toArray_toList] at hc
  have hread : ∀ t ∈ f.params.toList, P.readableRec t = true ∧ t < P.types.size := fun t ht => by
    have := List.all_eq_true.1 hr t ht
    simpa using this
  refine hc.mono fun e W' ⟨he, hbl⟩ => ⟨_, he, ?_⟩
  rw [htrue cs h1 h2]
  refine post_of_below (pa := p) (pv := []) hW' (fun b' sp hd => ?_) (fun sp hsp => ?_) (fun sp _ => ?_) rfl hbl ?_
  · rw [f1, hrt]
    exact trodAll_mk1 (shut_bool hb _)
  · rw [f2, List.append_nil]
    exact args_stay hl hbl hread hA (fun x hx => hlt x (by simp [hx])) (fun x hx => hsp x (by simp [hx]))
  · rw [hv, f3]
    exact rfl
  · exact ok_one hrt rfl (okWide_bool_mk hb _)
end
end Go.Sx
