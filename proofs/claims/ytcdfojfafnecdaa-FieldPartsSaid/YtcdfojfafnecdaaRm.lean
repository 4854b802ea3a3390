/- A map under a range loop: the keys that have come; each entry comes once, in whatever order. Keys of two ints. No conditions. -/
import Derived.Test.YtcdfojfafnecdaaMz
import Derived.Maps.RangeRun
import Derived.WideKeyRuns
namespace Go.Mp
set_option linter.unusedSectionVars false
open Go Go.MapKept Go.ChangeMaps
section
variable {P : Program} {κ : Type} [DecidableEq κ] {kv : κ → Value}
/-- Under way: the keys that have come. -/
def ItAt (kv : κ → Value) (w : World) (r b : Nat) (m : List (κ × Value)) (done : List κ) : Prop :=
  ∃ es clock since seen c0, w.heap[b]? = some (.map es clock) ∧ Stamped es clock ∧ es.toList.map (fun e => (e.key, e.val)) = m.map (fun p => (kv p.1, p.2)) ∧
    w.heap[r]? = some (.mapIter (some b) since seen c0) ∧ (∀ x ∈ es.toList, x.born < since) ∧ since ≤ c0 ∧ since ≤ clock ∧ done.Nodup ∧ (∀ k ∈ done, ∃ v, (k, v) ∈ m) ∧
    ∀ x ∈ es.toList, ∀ k, x.key = kv k → (seen.contains x.born = true ↔ k ∈ done)
theorem ItAt.map {w : World} {r b : Nat} {m : List (κ × Value)} {done : List κ} (h : ItAt kv w r b m done) : MapAt kv w b m := by
  obtain ⟨es, c, _, _, _, h1, h2, h3, _⟩ := h
  exact ⟨es, c, h1, h2, h3⟩
theorem ItAt.ne {w : World} {r b : Nat} {m : List (κ × Value)} {done : List κ} (h : ItAt kv w r b m done) : r ≠ b := by
  obtain ⟨es, c, _, _, _, h1, _, _, h4, _⟩ := h
  intro e
  rw [e, h1] at h4
  cases h4
theorem ItAt.ltr {w : World} {r b : Nat} {m : List (κ × Value)} {done : List κ} (h : ItAt kv w r b m done) : r < w.heap.size := by
  obtain ⟨es, c, _, _, _, h1, _, _, h4, _⟩ := h
  exact (Array.getElem?_eq_some_iff.1 h4).1
theorem ItAt.of_blocks {w w' : World} {r b : Nat} {m : List (κ × Value)} {done : List κ} (h : ItAt kv w r b m done) (hb : w'.heap[b]? = w.heap[b]?) (hr : w'.heap[r]? = w.heap[r]?) : ItAt kv w' r b m done := by
  obtain ⟨es, c, si, se, c0, h1, h2, h3, h4, h5⟩ := h
  exact ⟨es, c, si, se, c0, hb.trans h1, h2, h3, hr.trans h4, h5⟩
theorem entry_of {l : List MapEntry} {m : List (κ × Value)} (h : l.map (fun e => (e.key, e.val)) = m.map (fun p => (kv p.1, p.2))) {x : MapEntry} (hx : x ∈ l) : ∃ p ∈ m, x.key = kv p.1 ∧ x.val = p.2 := by
  have : (x.key, x.val) ∈ m.map (fun p => (kv p.1, p.2)) := by rw [← h]; exact List.mem_map.2 ⟨x, hx, rfl⟩
  obtain ⟨p, hp, e⟩ := List.mem_map.1 this
  injection e with e1 e2
  exact ⟨p, hp, e1.symm, e2.symm⟩
theorem of_entry {l : List MapEntry} {m : List (κ × Value)} (h : l.map (fun e => (e.key, e.val)) = m.map (fun p => (kv p.1, p.2))) {p : κ × Value} (hp : p ∈ m) : ∃ x ∈ l, x.key = kv p.1 ∧ x.val = p.2 := by
  have : (kv p.1, p.2) ∈ l.map (fun e => (e.key, e.val)) := by rw [h]; exact List.mem_map.2 ⟨p, hp, rfl⟩
  obtain ⟨x, hx, e⟩ := List.mem_map.1 this
  injection e with e1 e2
  exact ⟨x, hx, e1, e2⟩
theorem keys_nodup {l : List MapEntry} {m : List (κ × Value)} (h : l.map (fun e => (e.key, e.val)) = m.map (fun p => (kv p.1, p.2))) (hn : (l.map (·.key)).Nodup) : (m.map (·.1)).Nodup := by
  have e : l.map (·.key) = (m.map (·.1)).map kv := by
    have := congrArg (List.map Prod.fst) h
    simpa [List.map_map, Function.comp_def] using this
  rw [e] at hn
  exact (List.pairwise_map.1 hn).imp fun hne he => hne (by rw [he])
theorem MapAt.nodup {w : World} {b : Nat} {m : List (κ × Value)} (h : MapAt kv w b m) : (m.map (·.1)).Nodup := by
  obtain ⟨es, c, _, h2, h3⟩ := h
  exact keys_nodup h3 h2.2.2
theorem len_of_sub {α : Type} [DecidableEq α] : ∀ {d l : List α}, d.Nodup → d ⊆ l → d.length ≤ l.length
  | [], _, _, _ => Nat.zero_le _
  | k :: d, l, hd, hs => by
    have hk : k ∈ l := hs (by simp)
    obtain ⟨h1, h2⟩ := List.nodup_cons.1 hd
    have := len_of_sub h2 (l := l.erase k) (fun x hx => (List.mem_erase_of_ne (fun e : x = k => h1 (e ▸ hx))).2 (hs (by simp [hx])))
    rw [List.length_erase_of_mem hk] at this
    have := List.length_pos_of_mem hk
    simp only [List.length_cons]
    omega
/-- How many have come. -/
theorem ItAt.le {w : World} {r b : Nat} {m : List (κ × Value)} {done : List κ} (h : ItAt kv w r b m done) : done.length ≤ m.length := by
  have hnd := h.map.nodup
  obtain ⟨es, c, si, se, c0, _, _, _, _, _, _, _, hd, hm, _⟩ := h
  have hs : done ⊆ m.map (·.1) := fun k hk => by obtain ⟨v, hv⟩ := hm k hk; exact List.mem_map.2 ⟨_, hv, rfl⟩
  simpa using len_of_sub hd hs
theorem left_of_blocks {w w' : World} {b r : Nat} (hb : w'.heap[b]? = w.heap[b]?) (hr : w'.heap[r]? = w.heap[r]?) : w'.rangeLeft b r = w.rangeLeft b r := by
  unfold World.rangeLeft
  rw [hb, hr]
/-- 'range m'. -/
theorem MapAt.range {t kt et : TypeId} (ht : P.underlying t = some (.map kt et)) {w : World} {b : Nat} {m : List (κ × Value)} (h : MapAt kv w b m) :
    ∃ w', (Instr.range t (.map (some b))).run P w = .ok (.pointer (some ⟨w.heap.size, 0, none⟩)) w' ∧ ItAt kv w' w.heap.size b m [] ∧ w.grownBy w' none ∧ w'.heap.size = w.heap.size + 1 := by
  have hlt := h.lt
  obtain ⟨es, clock, hb, hs, hm⟩ := h
  refine ⟨_, run_range_map w t kt et b es clock ht hb, ⟨es, clock, clock, #[], clock, ((MapKept.heap_alloc w _).2 b hlt).trans hb, hs, hm, (MapKept.heap_alloc w _).1, hs.1, Nat.le_refl _, Nat.le_refl _, List.nodup_nil, by simp, by simp⟩, World.grownBy_alloc w _ none, by simp⟩
/-- The step. -/
theorem ItAt.next {kt : TypeId} (K : KeyB P kt kv) {w : World} {r b : Nat} {m : List (κ × Value)} {done : List κ} (h : ItAt kv w r b m done) (ty : TypeId) :
    ((∀ p ∈ m, p.1 ∈ done) ∧ (Instr.next (.pointer (some ⟨r, 0, none⟩)) false ty).run P w = .ok (.tuple #[.bool false]) w) ∨
    ∃ k v w', (k, v) ∈ m ∧ k ∉ done ∧ (Instr.next (.pointer (some ⟨r, 0, none⟩)) false ty).run P w = .ok (.tuple #[.bool true, kv k, v]) w' ∧ ItAt kv w' r b m (k :: done) ∧ w'.rangeLeft b r < w.rangeLeft b r ∧ w.grownBy w' (some r) ∧ w'.heap.size = w.heap.size ∧
      (Instr.entry (.pointer (some ⟨r, 0, none⟩))).run P w' = .ok (.tuple #[kv k, v]) w' := by
  have hne := h.ne
  obtain ⟨es, clock, since, seen, c0, hb, hs, hm, hr, hold, hsc, hsk, hnd, hin, hsn⟩ := h
  rcases run_next_at (P := P) w ty r b since c0 seen es clock hr hb hold hsc with ⟨h0, hrun⟩ | ⟨e, he, w1, hal, hrun⟩
  · refine .inl ⟨fun p hp => ?_, hrun⟩
    obtain ⟨x, hx, e1, _⟩ := of_entry hm hp
    exact (hsn x hx p.1 e1).1 (all_seen es seen h0 x hx)
  · obtain ⟨hem, hes⟩ := mem_left he
    obtain ⟨⟨k, v⟩, hp, e1, e2⟩ := entry_of hm hem
    dsimp only at e1 e2
    have hr1 : w1.heap[r]? = some (.mapIter (some b) since seen c0) := by rcases hal with rfl | rfl <;> exact hr
    have hb1 : w1.heap[b]? = some (.map es clock) := by rcases hal with rfl | rfl <;> exact hb
    have hset := heap_set (o' := .mapIter (some b) since (seen.push e.born) clock) hr1
    have hb' : (setBlock w1 r (.mapIter (some b) since (seen.push e.born) clock)).heap[b]? = some (.map es clock) := (hset.2 b (fun e1 => hne e1.symm)).trans hb1
    have hk : k ∉ done := fun hk => by
      have := (hsn e hem k e1).2 hk
      rw [hes] at this
      cases this
    have hst := (stamped_iff es clock).1 hs
    refine .inr ⟨k, v, _, hp, hk, by rw [← e1, ← e2]; exact hrun, ⟨es, clock, since, seen.push e.born, clock, hb', hs, hm, hset.1, hold, hsk, hsk, List.nodup_cons.2 ⟨hk, hnd⟩, ?_, ?_⟩, ?_, ?_, ?_, ?_⟩
    · intro k' hk'
      rcases List.mem_cons.1 hk' with rfl | hk'
      · exact ⟨v, hp⟩
      · exact hin k' hk'
    · intro x hx k' hk'
      rw [contains_push, Bool.or_eq_true, hsn x hx k' hk', List.mem_cons]
      constructor
      · rintro (h | h)
        · exact .inr h
        · have hbe : x.born = e.born := by simpa using h
          obtain rfl := born_inj hst.2.1 hx hem hbe
          exact .inl (K.inj _ _ (by rw [← hk', e1]))
      · rintro (rfl | h)
        · right
          obtain rfl := entry_eq_of_key hst.2.2 hx hem (by rw [hk', e1])
          simp
        · exact .inl h
    · simp only [World.rangeLeft, hb', hb, hr]
      rw [show (setBlock w1 r (.mapIter (some b) since (seen.push e.born) clock)).heap[r]? = some (.mapIter (some b) since (seen.push e.born) clock) from hset.1]
      exact left_shrinks es seen e he
    · rcases hal with rfl | rfl <;> exact ⟨rfl, rfl, rfl, by simp [setBlock], fun i _ hi => hset.2 i (fun e1 => hi (by rw [e1]))⟩
    · rcases hal with rfl | rfl <;> simp [setBlock]
    · rw [← e1, ← e2]
      exact run_entry_at _ r b since seen es clock e hset.1 hb' hem hst.2.1
end
section
variable {F : Fence} {n : Nat} {P : Program} (w : World) {ops : Array Oper} {rest : List Oper} {o : Oper} {a : Act} {Q : Exit → Act → World → Prop} {κ : Type} [DecidableEq κ] {kv : κ → Value}
theorem wpListIn_range_map (hg : o.guard = none) (m : Operand) (t : TypeId) (hop : o.op = Op.range t m) {kt et : TypeId} (ht : P.underlying t = some (.map kt et)) {b : Nat} {mm : List (κ × Value)}
    (hm : a.eval m = .map (some b)) (hown : MapAt kv w b mm)
    (hK : ∀ w', ItAt kv w' w.heap.size b mm [] → w.grownBy w' none → w'.heap.size = w.heap.size + 1 → wpListIn F n P ops Q rest (a.put o.dst (.pointer (some ⟨w.heap.size, 0, none⟩))) w') :
    wpListIn F n P ops Q (o :: rest) a w := by
  refine wpListIn_plain hg fun K' hK' => ?_
  obtain ⟨w', hrun, r1, r2, r3⟩ := hown.range ht
  unfold Oper.wpIn
  refine ⟨?_, ?_⟩
  · simp [Oper.about, hop]
  · rw [Oper.semAt_plain F _ _ (by rw [hop]; intro c hc'; cases hc')]
    simp [execOp, hop, hm, hrun, Result.andThen]
    exact hK' _ _ (hK w' r1 r2 r3)
theorem wpListIn_next_map (hg : o.guard = none) (it : Operand) (hop : o.op = Op.next it false) {kt : TypeId} (K : KeyB P kt kv) {r b : Nat} {m : List (κ × Value)} {done : List κ}
    (hit : a.eval it = .pointer (some ⟨r, 0, none⟩)) (h : ItAt kv w r b m done)
    (hDone : (∀ p ∈ m, p.1 ∈ done) → wpListIn F n P ops Q rest (a.put o.dst (.tuple #[.bool false])) w)
    (hMore : ∀ k v w', (k, v) ∈ m → k ∉ done → ItAt kv w' r b m (k :: done) → w'.rangeLeft b r < w.rangeLeft b r → w.grownBy w' (some r) → w'.heap.size = w.heap.size → (Instr.entry (.pointer (some ⟨r, 0, none⟩))).run P w' = .ok (.tuple #[kv k, v]) w' → wpListIn F n P ops Q rest (a.put o.dst (.tuple #[.bool true, kv k, v])) w') :
    wpListIn F n P ops Q (o :: rest) a w := by
  refine wpListIn_plain hg fun K' hK' => ?_
  unfold Oper.wpIn
  refine ⟨by simp [Oper.about, hop], ?_⟩
  rw [Oper.semAt_plain F _ _ (by rw [hop]; intro c hc'; cases hc')]
  rcases h.next K o.type with ⟨h0, hrun⟩ | ⟨k, v, w', h1, h2, hrun, h3, h4, h5, h6, h7⟩
  · simp [execOp, hop, hit, hrun, Result.andThen]
    exact hK' _ _ (hDone h0)
  · simp [execOp, hop, hit, hrun, Result.andThen]
    exact hK' _ _ (hMore k v w' h1 h2 h3 h4 h5 h6 h7)
end
end Go.Mp
namespace Go.Proofs.Ytcdfojfafnecdaa
open Go Go.RowKit Go.Sx Go.Mp
/-- A spot's value. -/
def spv (p : Nat × Nat) : Value := .agg #[.int .i64 p.1, .int .i64 p.2]
theorem spv_inj (a b : Nat × Nat) (h : spv a = spv b) : a = b := by
  simp only [spv, Value.agg.injEq, Array.mk.injEq, List.cons.injEq, Value.int.injEq, true_and, and_true] at h
  exact Prod.ext (by omega) (by omega)
theorem spot_check (em : Bool) (w : World) (a : Nat × Nat) : (Instr.checkKey em 10000 67 (spv a)).run Try.prog w = .ok () w := by kernel_rfl
theorem spot_stays (w : World) (a : Nat × Nat) : (Instr.keyThatStays (spv a) (spv a)).run Try.prog w = .ok (spv a) w := by
  have : Instr.sameBits 10000 (spv a) (spv a) = true := by simp [spv, Instr.sameBits]
  simp [Instr.keyThatStays, this]
theorem spot_eql (w : World) (a b : Nat × Nat) : (Op.equal 67 (spv a) (spv b)).run Try.prog w = .ok (decide (a = b)) w := by
  have h : ∀ p q r s : Int, (Op.equalIn 10000 67 (.agg #[.int .i64 p, .int .i64 q]) (.agg #[.int .i64 r, .int .i64 s])).run Try.prog w = .ok (p == r && q == s) w := fun p q r s => by
    simp [go_sem]
    by_cases h1 : p = r <;> by_cases h2 : q = s <;> simp [h1, h2]
  unfold Op.equal
  rw [spv, spv]
  refine (h _ _ _ _).trans ?_
  obtain ⟨a1, a2⟩ := a
  obtain ⟨b1, b2⟩ := b
  have e : ((a1 : Int) == b1 && (a2 : Int) == b2) = decide ((a1, a2) = (b1, b2)) := by
    by_cases h1 : a1 = b1 <;> by_cases h2 : a2 = b2 <;> simp [h1, h2]
    · omega
    · intro h; omega
    · intro h; omega
  rw [e]
theorem spot_find (w : World) (a : Nat × Nat) : ∀ (l : List MapEntry), (∀ x ∈ l, ∃ b, x.key = spv b) → ∀ i, ((Instr.findAsking 67 (spv a) l i).run Try.prog w = .ok none w ∧ ∀ x ∈ l, x.key ≠ spv a) ∨
    ∃ j e, (Instr.findAsking 67 (spv a) l i).run Try.prog w = .ok (some (i + j, e.val)) w ∧ l[j]? = some e ∧ e.key = spv a
  | [], _, i => .inl ⟨by simp [Instr.findAsking], by simp⟩
  | e :: l, h, i => by
    obtain ⟨b, hb⟩ := h e (by simp)
    by_cases hab : a = b
    · exact .inr ⟨0, e, by simp [Instr.findAsking, hb, spot_eql, hab, Result.andThen], rfl, by rw [hb, hab]⟩
    · have hne : e.key ≠ spv a := fun q => hab (spv_inj _ _ (by rw [← q, hb]))
      rcases spot_find w a l (fun x hx => h x (by simp [hx])) (i + 1) with ⟨h1, h2⟩ | ⟨j, e', h1, h2, h3⟩
      · exact .inl ⟨by simp [Instr.findAsking, hb, spot_eql, hab, Result.andThen, h1], fun x hx => by
          rcases List.mem_cons.1 hx with rfl | hx
          · exact hne
          · exact h2 x hx⟩
      · exact .inr ⟨j + 1, e', by simp [Instr.findAsking, hb, spot_eql, hab, Result.andThen, h1]; omega, h2, h3⟩
theorem spot_keys : KeyB Try.prog 67 spv where
  inj := spv_inj
  check := fun em w a => spot_check em w a
  find w a l hl := by
    have e := run_findKey_eq (P := Try.prog) w (k := 67) (by kernel_rfl) (spv a) l
    rcases spot_find w a l hl 0 with ⟨h1, h2⟩ | ⟨j, e', h1, h2, h3⟩
    · exact .inl ⟨e.trans h1, h2⟩
    · rw [Nat.zero_add] at h1
      exact .inr ⟨j, e', e.trans h1, h2, h3⟩
  stays := spot_stays
end Go.Proofs.Ytcdfojfafnecdaa
