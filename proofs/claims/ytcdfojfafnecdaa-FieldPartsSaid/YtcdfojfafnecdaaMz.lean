/- Maps as lists of keys and values, in the order in which they came: a look-up, an update, the length. No conditions. -/
import Derived.Test.YtcdfojfafnecdaaGe
import Derived.MapKept
import Derived.ChangeMaps4
import Derived.Maps.OwnIn
namespace Go.Mp
set_option linter.unusedSectionVars false
open Go Go.MapKept Go.ChangeMaps
variable {P : Program} {κ : Type} [DecidableEq κ] {kv : κ → Value}
/-- What a map asks of its keys. -/
structure KeyB (P : Program) (kt : TypeId) (kv : κ → Value) : Prop where
  inj : ∀ a b, kv a = kv b → a = b
  check : ∀ (em : Bool) (w : World) (a : κ), (Instr.checkKey em 10000 kt (kv a)).run P w = .ok () w
  find : ∀ (w : World) (a : κ) (l : List MapEntry), (∀ x ∈ l, ∃ b, x.key = kv b) → ((Instr.findKey kt (kv a) l).run P w = .ok none w ∧ ∀ x ∈ l, x.key ≠ kv a) ∨
    ∃ j e, (Instr.findKey kt (kv a) l).run P w = .ok (some (j, e.val)) w ∧ l[j]? = some e ∧ e.key = kv a
  stays : ∀ (w : World) (a : κ), (Instr.keyThatStays (kv a) (kv a)).run P w = .ok (kv a) w
def iv (n : Int) : Value := .int .i64 n
theorem int_keys {kt : TypeId} (h : P.underlying kt = some (.int .i64)) : KeyB P kt iv where
  inj a b h := by injection h
  check em w a := run_checkKey (d := .int .i64) (k := iv a) h (show IsKey (.int .i64) (.int .i64 a) from rfl) em 9999
  find w a l hl := by
    have hk : IsKey (.int .i64) (iv a) := rfl
    rcases findNow_spec hk l 0 (fun x hx => by obtain ⟨b, hb⟩ := hl x hx; rw [hb]; rfl) with ⟨h1, h2⟩ | ⟨j, e, h1, h2, h3⟩
    · exact .inl ⟨run_findKey h h1, h2⟩
    · rw [Nat.zero_add] at h1
      exact .inr ⟨j, e, run_findKey h h1, h2, h3⟩
  stays w a := run_keyThatStays (d := .int .i64) (k := iv a) (show IsKey (.int .i64) (.int .i64 a) from rfl)
def lookM : List (κ × Value) → κ → Option Value
  | [], _ => none
  | (a, v) :: r, k => if a = k then some v else lookM r k
def updM : List (κ × Value) → κ → Value → List (κ × Value)
  | [], k, v => [(k, v)]
  | (a, u) :: r, k, v => if a = k then (k, v) :: r else (a, u) :: updM r k v
/-- A map's block. -/
def MapAt (kv : κ → Value) (w : World) (b : Nat) (m : List (κ × Value)) : Prop :=
  ∃ es clock, w.heap[b]? = some (.map es clock) ∧ Stamped es clock ∧ es.toList.map (fun e => (e.key, e.val)) = m.map (fun p => (kv p.1, p.2))
theorem MapAt.of_block {w w' : World} {b : Nat} {m : List (κ × Value)} (h : MapAt kv w b m) (hb : w'.heap[b]? = w.heap[b]?) : MapAt kv w' b m := by
  obtain ⟨es, c, h1, h2⟩ := h
  exact ⟨es, c, hb.trans h1, h2⟩
theorem MapAt.lt {w : World} {b : Nat} {m : List (κ × Value)} (h : MapAt kv w b m) : b < w.heap.size := by
  obtain ⟨es, c, h1, _⟩ := h
  exact (Array.getElem?_eq_some_iff.1 h1).1
theorem MapAt.made (w : World) : MapAt kv (w.alloc (.map #[] 0)) w.heap.size [] := ⟨#[], 0, World.alloc_heap_new _ _, stamped_empty 0, rfl⟩
theorem keys_of : ∀ {l : List MapEntry} {m : List (κ × Value)}, l.map (fun e => (e.key, e.val)) = m.map (fun p => (kv p.1, p.2)) → ∀ x ∈ l, ∃ b, x.key = kv b
  | [], _, _, x, hx => by simp at hx
  | e :: l, [], h, _, _ => by simp at h
  | e :: l, p :: m, h, x, hx => by
    simp only [List.map_cons, List.cons.injEq, Prod.mk.injEq] at h
    rcases List.mem_cons.1 hx with rfl | hx
    · exact ⟨_, h.1.1⟩
    · exact keys_of h.2 x hx
theorem look_none (hi : ∀ a b, kv a = kv b → a = b) : ∀ {l : List MapEntry} {m : List (κ × Value)} {k : κ}, l.map (fun e => (e.key, e.val)) = m.map (fun p => (kv p.1, p.2)) → (∀ x ∈ l, x.key ≠ kv k) → lookM m k = none
  | [], [], _, _, _ => rfl
  | [], p :: m, _, h, _ => by simp at h
  | e :: l, [], _, h, _ => by simp at h
  | e :: l, p :: m, k, h, hn => by
    simp only [List.map_cons, List.cons.injEq, Prod.mk.injEq] at h
    have h1 : p.1 ≠ k := fun e' => hn e (by simp) (by rw [h.1.1, e'])
    simp only [lookM]
    rw [if_neg h1]
    exact look_none hi h.2 (fun x hx => hn x (by simp [hx]))
theorem look_some (hi : ∀ a b, kv a = kv b → a = b) : ∀ {l : List MapEntry} {m : List (κ × Value)} {k : κ} {j : Nat} {e0 : MapEntry}, l.map (fun e => (e.key, e.val)) = m.map (fun p => (kv p.1, p.2)) → (l.map (·.key)).Nodup → l[j]? = some e0 → e0.key = kv k → lookM m k = some e0.val
  | [], _, _, _, _, _, _, h, _ => by simp at h
  | e :: l, [], _, _, _, h, _, _, _ => by simp at h
  | e :: l, p :: m, k, j, e0, h, hn, hj, hk => by
    simp only [List.map_cons, List.cons.injEq, Prod.mk.injEq] at h
    simp only [List.map_cons, List.nodup_cons] at hn
    cases j with
    | zero =>
      simp only [List.getElem?_cons_zero, Option.some.injEq] at hj
      subst hj
      have : p.1 = k := hi _ _ (by rw [← h.1.1, hk])
      simp only [lookM]
      rw [if_pos this, h.1.2]
    | succ j =>
      simp only [List.getElem?_cons_succ] at hj
      have h1 : p.1 ≠ k := fun e' => hn.1 (List.mem_map.2 ⟨e0, List.mem_of_getElem? hj, by rw [h.1.1, hk, e']⟩)
      simp only [lookM]
      rw [if_neg h1]
      exact look_some hi h.2 hn.2 hj hk
theorem upd_none (hi : ∀ a b, kv a = kv b → a = b) : ∀ {l : List MapEntry} {m : List (κ × Value)} {k : κ} {v : Value}, l.map (fun e => (e.key, e.val)) = m.map (fun p => (kv p.1, p.2)) → (∀ x ∈ l, x.key ≠ kv k) → updM m k v = m ++ [(k, v)]
  | [], [], _, _, _, _ => rfl
  | [], p :: m, _, _, h, _ => by simp at h
  | e :: l, [], _, _, h, _ => by simp at h
  | e :: l, p :: m, k, v, h, hn => by
    simp only [List.map_cons, List.cons.injEq, Prod.mk.injEq] at h
    have h1 : p.1 ≠ k := fun e' => hn e (by simp) (by rw [h.1.1, e'])
    simp only [updM]
    rw [if_neg h1, upd_none hi h.2 (fun x hx => hn x (by simp [hx]))]
    rfl
theorem upd_some (hi : ∀ a b, kv a = kv b → a = b) {v : Value} : ∀ {l : List MapEntry} {m : List (κ × Value)} {k : κ} {j : Nat} {e0 : MapEntry}, l.map (fun e => (e.key, e.val)) = m.map (fun p => (kv p.1, p.2)) → (l.map (·.key)).Nodup → l[j]? = some e0 → e0.key = kv k →
    (l.modify j (fun e' => { e' with key := kv k, val := v })).map (fun e => (e.key, e.val)) = (updM m k v).map (fun p => (kv p.1, p.2))
  | [], _, _, _, _, _, _, h, _ => by simp at h
  | e :: l, [], _, _, _, h, _, _, _ => by simp at h
  | e :: l, p :: m, k, j, e0, h, hn, hj, hk => by
    simp only [List.map_cons, List.cons.injEq, Prod.mk.injEq] at h
    simp only [List.map_cons, List.nodup_cons] at hn
    cases j with
    | zero =>
      simp only [List.getElem?_cons_zero, Option.some.injEq] at hj
      subst hj
      have : p.1 = k := hi _ _ (by rw [← h.1.1, hk])
      simp only [updM]
      rw [if_pos this]
      simp [h.2]
    | succ j =>
      simp only [List.getElem?_cons_succ] at hj
      have h1 : p.1 ≠ k := fun e' => hn.1 (List.mem_map.2 ⟨e0, List.mem_of_getElem? hj, by rw [h.1.1, hk, e']⟩)
      simp only [updM]
      rw [if_neg h1]
      simp only [List.modify_succ_cons, List.map_cons]
      rw [upd_some hi h.2 hn.2 hj hk, h.1.1, h.1.2]
theorem updM_length_le (m : List (κ × Value)) (k : κ) (v : Value) : (updM m k v).length ≤ m.length + 1 := by
  induction m with
  | nil => simp [updM]
  | cons p m ih => simp only [updM]; split <;> simp; omega
/-- A look-up. -/
theorem MapAt.look {kt et t : TypeId} (K : KeyB P kt kv) (ht : P.underlying t = some (.map kt et)) {z : Value} (hz : ∀ w, (zeroValue et).run P w = .ok z w) {w : World} {b : Nat} {m : List (κ × Value)} (h : MapAt kv w b m) (k : κ) (c : Bool) :
    (Instr.lookup t (.map (some b)) (kv k) c).run P w = .ok (if c then .tuple #[(lookM m k).getD z, .bool (lookM m k).isSome] else (lookM m k).getD z) w := by
  obtain ⟨es, clock, hb, hs, hm⟩ := h
  rcases K.find w k es.toList (keys_of hm) with ⟨h1, h2⟩ | ⟨j, e0, h1, h2, h3⟩
  · have e := look_none K.inj hm h2
    cases c <;> simp [Instr.lookup, run_underlying ht, MapKept.run_getObj_map hb, K.check, h1, hz, e, Result.andThen]
  · have e := look_some K.inj hm hs.2.2 h2 h3
    cases c <;> simp [Instr.lookup, run_underlying ht, MapKept.run_getObj_map hb, K.check, h1, e, Result.andThen]
/-- An update. -/
theorem MapAt.upd {kt et t : TypeId} (K : KeyB P kt kv) (ht : P.underlying t = some (.map kt et)) {w : World} {b : Nat} {m : List (κ × Value)} (h : MapAt kv w b m) (k : κ) (v : Value) :
    ∃ w', (Instr.mapUpdate t (.map (some b)) (kv k) v).run P w = .ok () w' ∧ MapAt kv w' b (updM m k v) ∧ w.grownBy w' (some b) := by
  obtain ⟨es, clock, hb, hs, hm⟩ := h
  have hg : ∀ o, w.grownBy (setBlock w b o) (some b) := fun o => ⟨rfl, rfl, rfl, by simp [setBlock], fun k _ hk => (heap_set (o' := o) hb).2 k (fun e => hk (by rw [e]))⟩
  rcases K.find w k es.toList (keys_of hm) with ⟨h1, h2⟩ | ⟨j, e0, h1, h2, h3⟩
  · refine ⟨setBlock w b (.map (es.push ⟨kv k, v, clock⟩) (clock + 1)), ?_, ⟨_, _, (heap_set hb).1, stamped_push hs h2, ?_⟩, hg _⟩
    · simp [Instr.mapUpdate, run_underlying ht, MapKept.run_getObj_map hb, K.check, h1, MapKept.run_setObj_map _ hb, Result.andThen, setBlock]
    · rw [upd_none K.inj hm h2]
      simp [hm]
  · have hj : es[j]? = some e0 := by simpa using h2
    have hkeyf : ∀ e', es[j]? = some e' → ({ e' with key := kv k, val := v } : MapEntry).key = e'.key := fun e' he' => by rw [hj] at he'; cases he'; exact h3.symm
    refine ⟨setBlock w b (.map (es.modify j (fun e' => { e' with key := kv k, val := v })) clock), ?_, ⟨_, _, (heap_set hb).1, stamped_modify hs _ _ (fun _ _ => rfl) (fun e' _ he' => hkeyf e' he'), ?_⟩, hg _⟩
    · simp [Instr.mapUpdate, run_underlying ht, MapKept.run_getObj_map hb, K.check, h1, hj, h3, K.stays, MapKept.run_setObj_map _ hb, Result.andThen, setBlock]
    · rw [Array.toList_modify]
      exact upd_some K.inj hm hs.2.2 h2 h3
theorem MapAt.len {t kt et : TypeId} (ht : P.underlying t = some (.map kt et)) {w : World} {b : Nat} {m : List (κ × Value)} (h : MapAt kv w b m) (ty : TypeId) : (Builtin.len_ #[t] ty #[.map (some b)]).run P w = .ok (.int .i64 m.length) w := by
  obtain ⟨es, clock, hb, hs, hm⟩ := h
  have e : es.size = m.length := by
    have := congrArg List.length hm
    simpa using this
  simp [Builtin.len_, run_underlying ht, MapKept.run_getObj_map hb, Result.andThen, goInt, e]
/-- An update, at the operation. -/
theorem wpIn_mapUpdate {n : Nat} {o : Oper} {a : Act} {w : World} {K' : Act → World → Prop} {Q : Exit → Act → World → Prop} {kt et t : TypeId} (x y z : Operand) (ho : o.op = .mapUpdate t x y z) (K : KeyB P kt kv) (ht : P.underlying t = some (.map kt et)) {b : Nat} {m : List (κ × Value)} (h : MapAt kv w b m) {k : κ} {v : Value}
    (hx : a.eval x = .map (some b)) (hy : a.eval y = kv k) (hz : a.eval z = v) (hK : ∀ w', MapAt kv w' b (updM m k v) → w.grownBy w' (some b) → K' (a.put o.dst undef) w') : o.wpIn Fence.wide n P a w K' Q := by
  obtain ⟨w', h1, h2, h3⟩ := h.upd K ht k v
  refine wpIn_done (w' := w') (fun c hc => by rw [ho] at hc; cases hc) ?_ (hK w' h2 h3)
  unfold execOp
  simp only [ho, hx, hy, hz, Sem.run_bind, h1, Result.andThen_ok, Sem.run_pure]
end Go.Mp
