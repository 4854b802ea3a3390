/- A region that draws its order, as in the law before, but what holds throughout may turn at one operation that moves: what only reads, and must come ahead of it, may lean on what it does away with. No conditions but those that the law names. -/
import Derived.Test.YtpbpbijjkmjjjaaRg
import Derived.Laws.CopyRow
import Derived.Test.YtpbpbijjkmjjjaaSxExec
namespace Go
section
variable {F : Fence} {n : Nat} {P : Program} {ops : Array Oper} {Q : Exit → Act → World → Prop} {md : Region.Mode} {S : Bool → World → Prop} {k : Nat}
/-- The head of a region in whatever order; S holds behind each operation, in its form for 'number k has come up, or not'. -/
def wpAnyP (F : Fence) (n : Nat) (P : Program) (md : Region.Mode) (ops : Array Oper) (Q : Exit → Act → World → Prop) (S : Bool → World → Prop) (k N : Nat) (L : Array Bool → Act → World → Prop) : Nat → Array Bool → Act → World → Prop
  | 0, listed, a, w => L listed a w
  | f + 1, listed, a, w =>
    Region.ready md ops listed ≠ [] ∧ ∀ i ∈ Region.ready md ops listed, i < N ∧ wpOpIn F n P ops Q i (fun a' w' => S ((listed.setIfInBounds i true).getD k false) w' ∧ wpAnyP F n P md ops Q S k N L f (listed.setIfInBounds i true) a' w') a w
theorem wpAnyIn_of_P {N g : Nat} {L : Array Bool → Act → World → Prop} (hL : ∀ listed a w, L listed a w → wpAnyIn F n P md ops Q g listed a w) :
    ∀ (f : Nat) (listed : Array Bool) (a : Act) (w : World), wpAnyP F n P md ops Q S k N L f listed a w → wpAnyIn F n P md ops Q (f + g) listed a w
  | 0, listed, a, w, h => by rw [Nat.zero_add]; exact hL _ _ _ h
  | f + 1, listed, a, w, h => by
    rw [show f + 1 + g = (f + g) + 1 by omega]
    exact ⟨fun h0 => absurd h0 h.1, fun i hi => wpOpIn_mono (fun a' w' h' => wpAnyIn_of_P hL f _ a' w' h'.2) (h.2 i hi).2⟩
theorem getD_set_nef {listed : Array Bool} {i k : Nat} (h : i ≠ k) : (listed.setIfInBounds i true).getD k false = listed.getD k false := by
  simp [Array.getD_eq_getD_getElem?, Array.getElem?_setIfInBounds_ne h]
theorem wpAnyP_first {N i : Nat} {oi : Oper} {v : Value} {L : Array Bool → Act → World → Prop} {Si : World → Prop} (hF : ∀ f, F.fn f) (hnd : Region.noDefer ops = true) (hi : ops[i]? = some oi) (hsel : ∀ (j : Nat) (o : Oper) cs b, ops[j]? = some o → o.op ≠ .select cs b)
    (hQ : ∀ c a w, Q (.panic c) (a.put oi.dst v) w → Q (.panic c) a w)
    (hs : Region.sinkB md ops N = true) (hc : Region.chainB md ops N = true) (hn : N < ops.size) (hin : i < N) (hik : i ≠ k)
    (hSi : ∀ listed, HeadInv md ops N listed → listed.getD i true = false → ∀ w, S (listed.getD k false) w → Si w)
    (hdone : ∀ listed a w, L listed a w → ∀ j ∈ Region.ready md ops listed, N ≤ j) :
    ∀ (f : Nat) (listed : Array Bool) (a : Act) (w : World), HeadInv md ops N listed →
      (∀ j oj, ops[j]? = some oj → j ≠ i → listed.getD j true = false → (∀ e ∈ oj.after, Region.binds md e = true → e.on ≠ i) → oi.apart ops oj = true) →
      i ∈ Region.ready md ops listed → YieldsIf P ops Si oi v a → S (listed.getD k false) w →
      wpAnyP F n P md ops Q S k N L f (listed.setIfInBounds i true) (a.put oi.dst v) w → wpAnyP F n P md ops Q S k N L (f + 1) listed a w := by
  intro f
  induction f with
  | zero =>
    intro listed a w inv _ hr hy hS H
    have hun := (mem_ready.1 hr).1
    refine ⟨fun h => (by rw [h] at hr; cases hr), fun j hj => ?_⟩
    have hjn : j < N := by
      rcases Nat.lt_or_ge j N with h | h
      · exact h
      · exact absurd hj (tail_waits hs hc hn inv _ i rfl hin hun j h)
    refine ⟨hjn, ?_⟩
    by_cases hji : j = i
    · subst hji
      exact hy.wpOpIn hF (Region.noDefer_spec hnd hi) hi (hSi _ inv hun _ hS) ⟨by rw [getD_set_nef hik]; exact hS, H⟩
    · have := hdone _ _ _ H j (ready_mono hj hji)
      omega
  | succ f ih =>
    intro listed a w inv hfree hr hy hS H
    have hun := (mem_ready.1 hr).1
    refine ⟨fun h => (by rw [h] at hr; cases hr), fun j hj => ?_⟩
    have hjn : j < N := by
      rcases Nat.lt_or_ge j N with h | h
      · exact h
      · exact absurd hj (tail_waits hs hc hn inv _ i rfl hin hun j h)
    refine ⟨hjn, ?_⟩
    by_cases hji : j = i
    · subst hji
      exact hy.wpOpIn hF (Region.noDefer_spec hnd hi) hi (hSi _ inv hun _ hS) ⟨by rw [getD_set_nef hik]; exact hS, H⟩
    · have h1 := (H.2 j (ready_mono hj hji)).2
      obtain ⟨hjun, oj, hoj, hall⟩ := mem_ready.1 hj
      have hnot : ∀ e ∈ oj.after, Region.binds md e = true → e.on ≠ i := fun e he hb heq => by
        have h1 := hall e he hb
        rw [heq, getD_both hun] at h1
        cases h1
      have h2 := wpOpIn_putIf hF (Region.noDefer_spec hnd hoj) hoj (hfree j oj hoj hji hjun hnot) (fun cs b => hsel i oi cs b hi) (fun cs b => hsel j oj cs b hoj) hQ hy h1
      have hfree' : ∀ k ok, ops[k]? = some ok → k ≠ i → (listed.setIfInBounds j true).getD k true = false →
          (∀ e ∈ ok.after, Region.binds md e = true → e.on ≠ i) → oi.apart ops ok = true := fun k ok hk hki hun hno => by
        refine hfree k ok hk hki ?_ hno
        by_cases hjk : j = k
        · subst hjk; exact hjun
        · rw [getD_set_ne true hjk] at hun; exact hun
      have ec : (listed.setIfInBounds i true).setIfInBounds j true = (listed.setIfInBounds j true).setIfInBounds i true := by rw [Array.setIfInBounds_comm _ _ (Ne.symm hji)]
      rw [ec] at h2
      refine wpOpIn_mono (fun a' w' h3 => ?_) h2
      have hS' : S ((listed.setIfInBounds j true).getD k false) w' := by have := h3.2.1; rwa [getD_set_nef hik] at this
      exact ⟨hS', ih (listed.setIfInBounds j true) a' w' (inv.set hj hjn) hfree' (ready_mono hr (Ne.symm hji)) h3.1 hS' h3.2.2⟩
/-- The class of worlds in which what only reads must read alike: if number k waits for it, those ahead of k. -/
def Cls (md : Region.Mode) (ops : Array Oper) (S : Bool → World → Prop) (k i : Nat) (w : World) : Prop := S false w ∨ (Region.waitsFor md ops k i = false ∧ S true w)
def wpOrdP (F : Fence) (n : Nat) (P : Program) (md : Region.Mode) (ops : Array Oper) (Q : Exit → Act → World → Prop) (S : Bool → World → Prop) (k : Nat) (Lq : Act → World → Prop) : Bool → List (Nat × Bool) → Act → World → Prop
  | ph, (i, true) :: r, a, w => ∃ o, ops[i]? = some o ∧ S ph w ∧ ∃ v, YieldsIf P ops (Cls md ops S k i) o v a ∧ wpOrdP F n P md ops Q S k Lq ph r (a.put o.dst v) w
  | ph, (i, false) :: r, a, w => ∃ o, ops[i]? = some o ∧ Region.wanted o (yielded ops a.tmps) = true ∧ o.wpIn F n P a w (fun a' w' => S (ph || i == k) w' ∧ wpOrdP F n P md ops Q S k Lq (ph || i == k) r a' w') Q
  | _, [], a, w => Lq a w
/-- What only reads, and number k waits for it. -/
theorem wpOrdP_ahead {Lq : Act → World → Prop} {ph : Bool} {i : Nat} {o : Oper} {r : List (Nat × Bool)} {a : Act} {w : World} {v : Value} (hi : ops[i]? = some o) (hS : S ph w) (hw : Region.wanted o (yielded ops a.tmps) = true) (hk : Region.waitsFor md ops k i = true) (h : ∀ w', S false w' → (execOp a.eval o).run P w' = .ok (.value v) w')
    (hr : wpOrdP F n P md ops Q S k Lq ph r (a.put o.dst v) w) : wpOrdP F n P md ops Q S k Lq ph ((i, true) :: r) a w :=
  ⟨o, hi, hS, v, .inl ⟨hw, fun w' h' => by rcases h' with h' | ⟨h', _⟩; exact h w' h'; rw [hk] at h'; cases h'⟩, hr⟩
/-- What reads alike in whatever world. -/
theorem wpOrdP_any {Lq : Act → World → Prop} {ph : Bool} {i : Nat} {o : Oper} {r : List (Nat × Bool)} {a : Act} {w : World} {v : Value} (hi : ops[i]? = some o) (hS : S ph w) (hw : Region.wanted o (yielded ops a.tmps) = true) (h : ∀ w', (execOp a.eval o).run P w' = .ok (.value v) w')
    (hr : wpOrdP F n P md ops Q S k Lq ph r (a.put o.dst v) w) : wpOrdP F n P md ops Q S k Lq ph ((i, true) :: r) a w :=
  ⟨o, hi, hS, v, .inl ⟨hw, fun w' _ => h w'⟩, hr⟩
theorem wpOrdP_off {Lq : Act → World → Prop} {ph : Bool} {i : Nat} {o : Oper} {r : List (Nat × Bool)} {a : Act} {w : World} (hi : ops[i]? = some o) (hS : S ph w) (hw : Region.wanted o (yielded ops a.tmps) = false)
    (hr : wpOrdP F n P md ops Q S k Lq ph r (a.put o.dst undef) w) : wpOrdP F n P md ops Q S k Lq ph ((i, true) :: r) a w := ⟨o, hi, hS, undef, .inr ⟨hw, rfl⟩, hr⟩
theorem wpOrdP_move {Lq : Act → World → Prop} {ph : Bool} {i : Nat} {o : Oper} {r : List (Nat × Bool)} {a : Act} {w : World} (hi : ops[i]? = some o) (hw : Region.wanted o (yielded ops a.tmps) = true)
    (h : o.wpIn F n P a w (fun a' w' => S (ph || i == k) w' ∧ wpOrdP F n P md ops Q S k Lq (ph || i == k) r a' w') Q) : wpOrdP F n P md ops Q S k Lq ph ((i, false) :: r) a w := ⟨o, hi, hw, h⟩
theorem wpOrdP_nil {Lq : Act → World → Prop} {ph : Bool} {a : Act} {w : World} (h : Lq a w) : wpOrdP F n P md ops Q S k Lq ph [] a w := h
theorem waits_listed {N : Nat} {listed : Array Bool} (inv : HeadInv md ops N listed) {k i : Nat} (h : Region.waitsFor md ops k i = true) (hk : listed.getD k false = true) : listed.getD i false = true := by
  unfold Region.waitsFor at h
  cases ho : ops[k]? with
  | none => rw [ho] at h; simp at h
  | some o =>
    rw [ho] at h
    simp only [Array.any_eq_true', Bool.and_eq_true, beq_iff_eq] at h
    obtain ⟨e, he, hb, hei⟩ := h
    rw [← hei]
    exact inv.closed k o ho hk e he hb
def Region.ordPHead (md : Region.Mode) (ops : Array Oper) (k N g : Nat) : List (Nat × Bool) → Array Bool → Bool
  | [], listed => Region.seqB md ops g N listed
  | (i, true) :: r, listed => (Region.ready md ops listed).contains i && Region.free md ops listed i && decide (i < N) && decide (i ≠ k) && Region.ordPHead md ops k N g r (listed.setIfInBounds i true)
  | (i, false) :: r, listed => decide (Region.ready md ops listed = [i]) && decide (i < N) && Region.ordPHead md ops k N g r (listed.setIfInBounds i true)
theorem wpAnyP_ord {N g : Nat} {Lq : Act → World → Prop} (hF : ∀ f, F.fn f) (hnd : Region.noDefer ops = true) (hQ : ∀ c d v (a : Act) w, Q (.panic c) (a.put d v) w → Q (.panic c) a w) (hsel : Region.noSelect ops = true) (hs : Region.sinkB md ops N = true) (hc : Region.chainB md ops N = true) (hn : N < ops.size) :
    ∀ (is : List (Nat × Bool)) (ph : Bool) (listed : Array Bool) (a : Act) (w : World), HeadInv md ops N listed → listed.getD k false = ph →
    Region.ordPHead md ops k N g is listed = true → wpOrdP F n P md ops Q S k Lq ph is a w →
    wpAnyP F n P md ops Q S k N (fun listed' a' w' => Region.seqB md ops g N listed' = true ∧ Lq a' w') is.length listed a w
  | [], _, listed, a, w, _, _, hB, h => ⟨hB, h⟩
  | (i, true) :: r, ph, listed, a, w, inv, hph, hB, h => by
    simp only [Region.ordPHead, Bool.and_eq_true, decide_eq_true_eq] at hB
    obtain ⟨⟨⟨⟨hr, hf⟩, hin⟩, hik⟩, hB'⟩ := hB
    have hr' : i ∈ Region.ready md ops listed := by simpa using hr
    obtain ⟨o, h0, hS, v, hy, hK⟩ := h
    refine wpAnyP_first (Si := Cls md ops S k i) hF hnd h0 (Region.noSelect_spec hsel) (fun c a w => hQ c _ v a w) hs hc hn hin hik (fun l' inv' hun w' hS' => ?_) (fun listed' a' w' hL => seqB_ready hL.1) r.length listed a w inv (Region.free_spec h0 hf) hr' hy (by rw [hph]; exact hS)
      (wpAnyP_ord hF hnd hQ hsel hs hc hn r ph _ _ _ (inv.set hr' hin) (by rw [getD_set_nef hik]; exact hph) hB' hK)
    cases hl : l'.getD k false with
    | false => rw [hl] at hS'; exact .inl hS'
    | true =>
      rw [hl] at hS'
      refine .inr ⟨?_, hS'⟩
      cases hwf : Region.waitsFor md ops k i with
      | false => rfl
      | true =>
        have := waits_listed inv' hwf hl
        rw [getD_both hun] at this
        cases this
  | (i, false) :: r, ph, listed, a, w, inv, hph, hB, h => by
    simp only [Region.ordPHead, Bool.and_eq_true, decide_eq_true_eq] at hB
    obtain ⟨⟨hr, hin⟩, hB'⟩ := hB
    have hr' : i ∈ Region.ready md ops listed := by rw [hr]; simp
    obtain ⟨o, h0, hw0, hK⟩ := h
    refine ⟨fun h => (by rw [h] at hr; cases hr), fun j hj => ?_⟩
    rw [hr] at hj
    have hji : j = i := by simpa using hj
    subst hji
    refine ⟨hin, ?_⟩
    have hlt : j < listed.size := by rw [inv.size]; omega
    have hph' : (listed.setIfInBounds j true).getD k false = (ph || j == k) := by
      by_cases hjk : j = k
      · subst hjk
        simp [Array.getD_eq_getD_getElem?, hlt]
      · rw [getD_set_nef hjk, hph]
        simp [hjk]
    have hw : wpOpIn F n P ops Q j (fun a' w' => S (ph || j == k) w' ∧ wpOrdP F n P md ops Q S k Lq (ph || j == k) r a' w') a w := by
      unfold wpOpIn
      simp only [h0]
      rw [if_pos hw0]
      exact hK
    exact wpOpIn_mono (fun a' w' h' => ⟨by rw [hph']; exact h'.1, wpAnyP_ord hF hnd hQ hsel hs hc hn r _ _ _ _ (inv.set hr' hin) hph' hB' h'.2⟩) hw
def Region.ordPB (md : Region.Mode) (ops : Array Oper) (k : Nat) (is : List (Nat × Bool)) : Bool :=
  Region.noSelect ops && Region.noDefer ops && decide (is.length < ops.size) && Region.sinkB md ops is.length && Region.chainB md ops is.length && Region.ordPHead md ops k is.length (ops.size - is.length) is (Array.replicate ops.size false)
/-- **The law.** -/
theorem wpIn_region_ordP {id : Nat} {a : Act} {w : World} {l : List Oper} (is : List (Nat × Bool)) (k : Nat) (S : Bool → World → Prop) (hF : ∀ f, F.fn f) (hm : P.follows .mixedOrders = true) (hQ : ∀ c d v (a : Act) w, Q (.panic c) (a.put d v) w → Q (.panic c) a w) (hB : Region.ordPB .any l.toArray k is = true)
    (h : wpOrdP F n P .any l.toArray Q S k (fun a' w' => wpListIn F n P l.toArray Q (l.drop is.length) a' w') false is a w.drew) : (Code.region id l.toArray true).wpIn F n P Q a w := by
  simp only [Region.ordPB, Bool.and_eq_true, decide_eq_true_eq] at hB
  obtain ⟨⟨⟨⟨⟨hsel, hnd⟩, hn⟩, hs⟩, hc⟩, hlex⟩ := hB
  have hn' : is.length < l.length := by simpa using hn
  have hdl : (l.drop is.length).length = l.toArray.size - is.length := by simp
  have inv0 : HeadInv .any l.toArray is.length (Array.replicate l.toArray.size false) :=
    ⟨by simp, fun j oj _ hl => (by rw [getD_replicate_false] at hl; cases hl), fun t _ ht => getD_in (by simpa using ht) (getD_replicate_false _ _)⟩
  have H := wpAnyP_ord (md := .any) (g := l.toArray.size - is.length) hF hnd hQ hsel hs hc hn is false _ a w.drew inv0 (getD_replicate_false _ _) hlex h
  refine wpIn_region_any hm ?_
  have := wpAnyIn_of_P (Q := Q) (g := l.toArray.size - is.length) (fun listed a' w' hL => by
    have := wpAnyIn_of_seq (md := .any) (F := F) (n := n) (P := P) (Q := Q) (l.drop is.length) is.length listed a' w' (fun j => by simp [List.getElem?_drop]) (by rw [hdl]; exact hL.1) hL.2
    rwa [hdl] at this) _ _ _ _ H
  rw [show is.length + (l.toArray.size - is.length) = l.toArray.size by omega] at this
  exact this
end
end Go
namespace Go
section
variable {P : Program} {n : Nat} {o : Oper} {a : Act} {w : World} {K : Act → World → Prop} {Q : Exit → Act → World → Prop}
/-- A store of a whole value into a block. -/
theorem wpIn_store_block {t : TypeId} (x y : Operand) (ho : o.op = .store t x y) {inf : TypeInfo} (hi : P.info? t = some inf) {g off : Nat} {T : TypeId} {cur : Array Value} (hx : a.eval x = .pointer (some ⟨g, off, none⟩)) {v : Value} (hy : a.eval y = v)
    (cs : List Value) (hc : v.cells.toList = cs) (hl : cs.length = inf.size) (h1 : ∀ u ∈ cs, u.oneCell' = true) (hg : w.heap[g]? = some (.cells cur T (0, 0))) (hfit : off + cs.length ≤ cur.size)
    (h : K (a.put o.dst undef) (w.setRow g (cur.toList.take off ++ cs ++ cur.toList.drop (off + cs.length)).toArray)) : o.wpIn Fence.wide n P a w K Q := by
  have hst := run_storeCells_at (P := P) g off T cs 0 cur w hg (by simpa using hfit) h1
  have hsz : v.cells.size = inf.size := by rw [← Array.length_toList, hc]; exact hl
  refine wpIn_done (fun c hc => by rw [ho] at hc; cases hc) ?_ h
  unfold execOp
  simp only [ho, Instr.storeAt, Instr.sureAddr, hx, hy, storeVar, Sem.run_bind, Sem.run_pure, Result.andThen_ok, Sx.sizeOf_run hi, Sem.run_ite, hsz, ne_eq, not_true, if_false, hc, hst, Nat.add_zero]
end
/-- A part of a row of one's own is written. -/
theorem World.ownsRow.splice {w : World} {base e size g n cap : Nat} {xs : List Value} (h : w.ownsRow base e size (.slice (some ⟨g, 0, none⟩) n cap) n xs) {off : Nat} {cs : List Value} (hf : off + cs.length ≤ n * size) :
    ∃ cur, w.heap[g]? = some (.cells cur e (0, 0)) ∧ off + cs.length ≤ cur.size ∧ (w.setRow g (cur.toList.take off ++ cs ++ cur.toList.drop (off + cs.length)).toArray).ownsRow base e size (.slice (some ⟨g, 0, none⟩) n cap) n (xs.take off ++ cs ++ xs.drop (off + cs.length)) ∧
      w.grownBy (w.setRow g (cur.toList.take off ++ cs ++ cur.toList.drop (off + cs.length)).toArray) (some g) := by
  rcases h.2 with ⟨h', _⟩ | ⟨g', cap', cur, h', hb, hg, hnc, hcm, hcs, htake⟩
  · simp at h'
  · simp only [Value.slice.injEq, Option.some.injEq, Addr.mk.injEq, and_true, true_and] at h'
    obtain ⟨rfl, rfl⟩ := h'
    have hle : n * size ≤ cur.size := by rw [hcs]; exact Nat.mul_le_mul_right _ hnc
    have hxl := h.1
    refine ⟨cur, hg, by omega, ⟨by simp; omega, .inr ⟨g, cap, _, rfl, hb, setRow_heap _ _ _ _ _ _ hg, hnc, hcm, by simp; omega, ?_⟩⟩, ⟨rfl, rfl, rfl, by simp [World.setRow], fun k _ hk => setRow_other w g k _ (fun e => hk (by rw [e]))⟩⟩
    rw [← htake]
    have e1 : (cur.toList.take (n * size)).take off = cur.toList.take off := by rw [List.take_take, Nat.min_eq_left (by omega)]
    have e2 : (cur.toList.take (n * size)).drop (off + cs.length) = (cur.toList.drop (off + cs.length)).take (n * size - (off + cs.length)) := by rw [List.drop_take]
    rw [e1, e2, List.take_append, List.take_of_length_le (by simp; omega)]
    congr 2
    simp
    omega
end Go
