/- Laws on regions that draw their order, inside a fence that bars no function: positional, and in an order of one's own. No conditions. -/
import Derived.StillTail
import Derived.RangeFuncNested
import Derived.RangeFuncBound
import Derived.RangeFuncCalls
import Derived.RangeFuncLeaves
import Derived.RangeFuncBox
import Derived.RangeFuncRecord
import Derived.Shelf.Abstract
import Derived.Shelf.RegionOpen
import Derived.WalkKit
import Derived.OwnWalkIn
import Derived.TacticsInMore
import Derived.LoopNIn
import Derived.LoopIn
import Derived.Deep.OwnRows
import Derived.Maps.OwnIn
import Derived.Laws.StructEq
import Derived.OrdersIn
import Derived.TacticsIn
import Derived.OrdersHeld
import Derived.Test.YtpbpbijjkmjjjaaV3
namespace Go
section
variable {F : Fence} {n : Nat} {P : Program} {ops : Array Oper} {Q : Exit → Act → World → Prop} {md : Region.Mode} {S : World → Prop}
def Region.noDefer (ops : Array Oper) : Bool := ops.toList.all fun o => match o.op with
  | .defer _ => false
  | _ => true
theorem Region.noDefer_spec (h : Region.noDefer ops = true) {j : Nat} {o : Oper} (hj : ops[j]? = some o) : ∀ c, o.op ≠ .defer c := by
  intro c hc
  have hm : o ∈ ops.toList := by
    have := List.mem_of_getElem? (l := ops.toList) (i := j) (a := o) (by simpa using hj)
    exact this
  have := List.all_eq_true.1 h o hm
  rw [hc] at this
  cases this
theorem YieldsIf.wpOpIn {i : Nat} {oi : Oper} {v : Value} {a : Act} (hF : ∀ f, F.fn f) (hnd : ∀ c, oi.op ≠ .defer c) (hi : ops[i]? = some oi) (hy : YieldsIf P ops S oi v a)
    {K : Act → World → Prop} {w : World} (hS : S w) (h : K (a.put oi.dst v) w) : wpOpIn F n P ops Q i K a w := by
  unfold Go.wpOpIn
  simp only [hi]
  rcases hy with ⟨hw, hv⟩ | ⟨hw, rfl⟩
  · simp only [hw, if_true, Oper.wpIn, Oper.semAt_eq _ _ _ hnd, hv w hS, Oper.uponIn]
    exact ⟨fun f _ => hF f, h⟩
  · simp only [hw, Bool.false_eq_true, if_false]
    exact ⟨fun f _ => hF f, h⟩
theorem wpOpIn_putIf {j : Nat} {oi oj : Oper} {v : Value} (hF : ∀ f, F.fn f) (hnd : ∀ c, oj.op ≠ .defer c) (hj : ops[j]? = some oj) (hap : oi.apart ops oj = true)
    (hsi : ∀ cs b, oi.op ≠ .select cs b) (hsj : ∀ cs b, oj.op ≠ .select cs b)
    (hQ : ∀ c a w, Q (.panic c) (a.put oi.dst v) w → Q (.panic c) a w) {K : Act → World → Prop} {a : Act} {w : World}
    (hy : YieldsIf P ops S oi v a) (h : wpOpIn F n P ops Q j K (a.put oi.dst v) w) :
    wpOpIn F n P ops Q j (fun a' w' => YieldsIf P ops S oi v a' ∧ K (a'.put oi.dst v) w') a w := by
  obtain ⟨h1, h2, h3⟩ := Oper.apart_spec hap
  have keep : ∀ (a : Act), YieldsIf P ops S oi v a → ∀ u, YieldsIf P ops S oi v (a.put oj.dst u) := fun a hy u =>
    hy.of_same (execOp_put oi hsi a oj.dst u h3) (wanted_put oi a oj.dst u h3)
  have keepD : ∀ d, YieldsIf P ops S oi v { a with defers := d :: a.defers } := fun d => hy.of_same rfl rfl
  unfold wpOpIn at *
  simp only [hj] at *
  rw [wanted_put oj a oi.dst v h1] at h
  split
  · rename_i hw
    simp only [hw, if_true] at h
    unfold Oper.wpIn at *
    refine ⟨fun f _ => hF f, ?_⟩
    have h := h.2
    rw [Oper.semAt_eq _ _ _ hnd, execOp_put oj hsj a oi.dst v h1] at h
    rw [Oper.semAt_eq _ _ _ hnd]
    generalize (execOp a.eval oj).run P w = r at *
    cases r with
    | ok x w' =>
      cases x <;> simp only [Oper.uponIn] at h ⊢
      case value u => exact ⟨keep a hy u, by rw [← Act.put_comm a v u h2]; exact h⟩
      case skip => exact ⟨keep a hy _, by rw [← Act.put_comm a v undef h2]; exact h⟩
      case defer d =>
        refine ⟨keep _ (keepD d) _, ?_⟩
        rw [← Act.put_comm _ v undef h2, ← Act.put_defers]
        exact h
      case enter f args =>
        refine ⟨h.1, CallsIn.mono h.2 fun e w'' he => ?_⟩
        cases e with
        | returned u => exact ⟨keep a hy u, by rw [← Act.put_comm a v u h2]; exact he⟩
        | panicked c => exact hQ _ _ _ he
        | outgrown => exact he
      case row row args => exact ⟨h.1, RowsIn.mono h.2 fun u w'' he => ⟨keep a hy u, by rw [← Act.put_comm a v u h2]; exact he⟩⟩
      case round l f tmps assign body =>
        refine ⟨h.1, RoundIn.mono h.2 fun e w'' he => ?_⟩
        cases e with
        | returned u => exact ⟨keep a hy u, by rw [← Act.put_comm a v u h2]; exact he⟩
        | panicked c => exact hQ _ _ _ he
        | outgrown => exact he
    | halt x w' =>
      cases x <;> simp only [Oper.uponIn] at h ⊢
      case panic u => exact hQ _ _ _ h
  · rename_i hw
    simp only [hw] at h
    exact ⟨fun f _ => hF f, keep a hy _, by rw [← Act.put_comm a v undef h2]; exact h.2⟩
/-- The head of a region in whatever order; S holds behind each operation; L behind the head. -/
def wpAnyM (F : Fence) (n : Nat) (P : Program) (md : Region.Mode) (ops : Array Oper) (Q : Exit → Act → World → Prop) (S : World → Prop) (N : Nat) (L : Array Bool → Act → World → Prop) : Nat → Array Bool → Act → World → Prop
  | 0, listed, a, w => L listed a w
  | f + 1, listed, a, w =>
    Region.ready md ops listed ≠ [] ∧ ∀ i ∈ Region.ready md ops listed, i < N ∧ wpOpIn F n P ops Q i (fun a' w' => S w' ∧ wpAnyM F n P md ops Q S N L f (listed.setIfInBounds i true) a' w') a w
theorem wpAnyIn_of_M {N g : Nat} {L : Array Bool → Act → World → Prop} (hL : ∀ listed a w, L listed a w → wpAnyIn F n P md ops Q g listed a w) :
    ∀ (f : Nat) (listed : Array Bool) (a : Act) (w : World), wpAnyM F n P md ops Q S N L f listed a w → wpAnyIn F n P md ops Q (f + g) listed a w
  | 0, listed, a, w, h => by rw [Nat.zero_add]; exact hL _ _ _ h
  | f + 1, listed, a, w, h => by
    rw [show f + 1 + g = (f + g) + 1 by omega]
    exact ⟨fun h0 => absurd h0 h.1, fun i hi => wpOpIn_mono (fun a' w' h' => wpAnyIn_of_M hL f _ a' w' h'.2) (h.2 i hi).2⟩
theorem wpAnyM_first {N i : Nat} {oi : Oper} {v : Value} {L : Array Bool → Act → World → Prop} (hF : ∀ f, F.fn f) (hnd : Region.noDefer ops = true) (hi : ops[i]? = some oi) (hsel : ∀ (j : Nat) (o : Oper) cs b, ops[j]? = some o → o.op ≠ .select cs b)
    (hQ : ∀ c a w, Q (.panic c) (a.put oi.dst v) w → Q (.panic c) a w)
    (hs : Region.sinkB md ops N = true) (hc : Region.chainB md ops N = true) (hn : N < ops.size) (hin : i < N)
    (hdone : ∀ listed a w, L listed a w → ∀ j ∈ Region.ready md ops listed, N ≤ j) :
    ∀ (f : Nat) (listed : Array Bool) (a : Act) (w : World), HeadInv md ops N listed →
      (∀ j oj, ops[j]? = some oj → j ≠ i → listed.getD j true = false → (∀ e ∈ oj.after, Region.binds md e = true → e.on ≠ i) → oi.apart ops oj = true) →
      i ∈ Region.ready md ops listed → YieldsIf P ops S oi v a → S w →
      wpAnyM F n P md ops Q S N L f (listed.setIfInBounds i true) (a.put oi.dst v) w → wpAnyM F n P md ops Q S N L (f + 1) listed a w := by
  intro f
  induction f with
  | zero =>
    intro listed a w inv _ hr hy hS H
    have hun := (mem_ready.1 hr).1
    refine ⟨fun h => (by rw [h] at hr; cases hr), fun j hj => ?_⟩
    have hjn : j < N := by
      rcases Nat.lt_or_ge j N with h | h
      · exact h
      · exact absurd hj (tail_waits hs hc hn inv _ i rfl hin hun j h)
    refine ⟨hjn, ?_⟩
    by_cases hji : j = i
    · subst hji; exact hy.wpOpIn hF (Region.noDefer_spec hnd hi) hi hS ⟨hS, H⟩
    · have := hdone _ _ _ H j (ready_mono hj hji)
      omega
  | succ f ih =>
    intro listed a w inv hfree hr hy hS H
    have hun := (mem_ready.1 hr).1
    refine ⟨fun h => (by rw [h] at hr; cases hr), fun j hj => ?_⟩
    have hjn : j < N := by
      rcases Nat.lt_or_ge j N with h | h
      · exact h
      · exact absurd hj (tail_waits hs hc hn inv _ i rfl hin hun j h)
    refine ⟨hjn, ?_⟩
    by_cases hji : j = i
    · subst hji; exact hy.wpOpIn hF (Region.noDefer_spec hnd hi) hi hS ⟨hS, H⟩
    · have h1 := (H.2 j (ready_mono hj hji)).2
      obtain ⟨hjun, oj, hoj, hall⟩ := mem_ready.1 hj
      have hnot : ∀ e ∈ oj.after, Region.binds md e = true → e.on ≠ i := fun e he hb heq => by
        have h1 := hall e he hb
        rw [heq, getD_both hun] at h1
        cases h1
      have h2 := wpOpIn_putIf hF (Region.noDefer_spec hnd hoj) hoj (hfree j oj hoj hji hjun hnot) (fun cs b => hsel i oi cs b hi) (fun cs b => hsel j oj cs b hoj) hQ hy h1
      have hfree' : ∀ k ok, ops[k]? = some ok → k ≠ i → (listed.setIfInBounds j true).getD k true = false →
          (∀ e ∈ ok.after, Region.binds md e = true → e.on ≠ i) → oi.apart ops ok = true := fun k ok hk hki hun hno => by
        refine hfree k ok hk hki ?_ hno
        by_cases hjk : j = k
        · subst hjk; exact hjun
        · rw [getD_set_ne true hjk] at hun; exact hun
      refine wpOpIn_mono (fun a' w' h3 => ⟨h3.2.1, ih (listed.setIfInBounds j true) a' w' (inv.set hj hjn) hfree' (ready_mono hr (Ne.symm hji)) h3.1 h3.2.1 ?_⟩) h2
      rw [Array.setIfInBounds_comm _ _ hji]
      exact h3.2.2
theorem wpAnyIn_of_seq : ∀ (l : List Oper) (k : Nat) (listed : Array Bool) (a : Act) (w : World), (∀ j, l[j]? = ops[k + j]?) →
    Region.seqB md ops l.length k listed = true → wpListIn F n P ops Q l a w → wpAnyIn F n P md ops Q l.length listed a w
  | [], _, _, _, _, _, hB, h => ⟨by simpa [Region.seqB] using hB, h⟩
  | o :: l, k, listed, a, w, hl, hB, h => by
    have h0 : ops[k]? = some o := by simpa using (hl 0).symm
    simp only [List.length_cons, Region.seqB, Bool.and_eq_true, decide_eq_true_eq] at hB
    refine ⟨fun h1 => (by rw [hB.1] at h1; cases h1), fun i hi => ?_⟩
    rw [hB.1] at hi
    have hik : i = k := by simpa using hi
    subst hik
    have hw : wpOpIn F n P ops Q i (wpListIn F n P ops Q l) a w := by unfold wpOpIn; simp only [h0]; exact h
    exact wpOpIn_mono (fun a' w' h' => wpAnyIn_of_seq l (i + 1) _ a' w' (fun j => by have := hl (j + 1); simpa [Nat.add_assoc, Nat.add_comm 1 j] using this) hB.2 h') hw
/-- Quiet ones may come up and be taken first; the others stand alone when they come up. -/
def Region.lexHead2 (md : Region.Mode) (ops : Array Oper) (g : Nat) : List Bool → Nat → Array Bool → Bool
  | [], k, listed => Region.seqB md ops g k listed
  | true :: r, k, listed => (Region.ready md ops listed).contains k && Region.free md ops listed k && Region.lexHead2 md ops g r (k + 1) (listed.setIfInBounds k true)
  | false :: r, k, listed => decide (Region.ready md ops listed = [k]) && Region.lexHead2 md ops g r (k + 1) (listed.setIfInBounds k true)
def wpHd (F : Fence) (n : Nat) (P : Program) (ops : Array Oper) (Q : Exit → Act → World → Prop) (S : World → Prop) (Lq : Act → World → Prop) : List Oper → List Bool → Act → World → Prop
  | o :: l, true :: ks, a, w => S w ∧ ∃ v, YieldsIf P ops S o v a ∧ wpHd F n P ops Q S Lq l ks (a.put o.dst v) w
  | o :: l, false :: ks, a, w => o.guard = none ∧ o.wpIn F n P a w (fun a' w' => S w' ∧ wpHd F n P ops Q S Lq l ks a' w') Q
  | _, _, a, w => Lq a w
theorem wpHd_quiet {Lq : Act → World → Prop} {o : Oper} {l : List Oper} {ks : List Bool} {a : Act} {w : World} {v : Value} (hg : o.guard = none) (hS : S w) (h : ∀ w', S w' → (execOp a.eval o).run P w' = .ok (.value v) w')
    (hr : wpHd F n P ops Q S Lq l ks (a.put o.dst v) w) : wpHd F n P ops Q S Lq (o :: l) (true :: ks) a w :=
  ⟨hS, v, .inl ⟨by simp [Region.wanted, hg], h⟩, hr⟩
theorem wpHd_move {Lq : Act → World → Prop} {o : Oper} {l : List Oper} {ks : List Bool} {a : Act} {w : World} (hg : o.guard = none)
    (h : o.wpIn F n P a w (fun a' w' => S w' ∧ wpHd F n P ops Q S Lq l ks a' w') Q) : wpHd F n P ops Q S Lq (o :: l) (false :: ks) a w := ⟨hg, h⟩
theorem wpHd_nil {Lq : Act → World → Prop} {a : Act} {w : World} (h : Lq a w) : wpHd F n P ops Q S Lq [] [] a w := h
theorem wpAnyM_lex {N g : Nat} {Lq : Act → World → Prop} (hF : ∀ f, F.fn f) (hnd : Region.noDefer ops = true) (hQ : ∀ c d v (a : Act) w, Q (.panic c) (a.put d v) w → Q (.panic c) a w) (hsel : Region.noSelect ops = true) (hs : Region.sinkB md ops N = true) (hc : Region.chainB md ops N = true) (hn : N < ops.size) :
    ∀ (l : List Oper) (ks : List Bool) (k : Nat) (listed : Array Bool) (a : Act) (w : World), l.length = ks.length → (∀ j, j < l.length → l[j]? = ops[k + j]?) → k + l.length = N → HeadInv md ops N listed →
    Region.lexHead2 md ops g ks k listed = true → wpHd F n P ops Q S Lq l ks a w →
    wpAnyM F n P md ops Q S N (fun listed' a' w' => Region.seqB md ops g N listed' = true ∧ Lq a' w') l.length listed a w
  | [], [], k, listed, a, w, _, _, hk, _, hB, h => by
    have : k = N := by simpa using hk
    subst this
    exact ⟨by simpa [Region.lexHead2] using hB, h⟩
  | o :: l, true :: ks, k, listed, a, w, hkl, hl, hk, inv, hB, h => by
    have h0 : ops[k]? = some o := by simpa using (hl 0 (by simp)).symm
    simp only [Region.lexHead2, Bool.and_eq_true] at hB
    obtain ⟨⟨hr, hf⟩, hB'⟩ := hB
    have hkn : k < N := by simp only [List.length_cons] at hk; omega
    have hr' : k ∈ Region.ready md ops listed := by simpa using hr
    obtain ⟨hS, v, hy, hK⟩ := h
    exact wpAnyM_first hF hnd h0 (Region.noSelect_spec hsel) (fun c a w => hQ c _ v a w) hs hc hn hkn (fun listed' a' w' hL => seqB_ready hL.1) l.length listed a w inv (Region.free_spec h0 hf) hr' hy hS
      (wpAnyM_lex hF hnd hQ hsel hs hc hn l ks (k + 1) _ _ _ (by simpa using hkl) (fun j hj => by have := hl (j + 1) (by simp; omega); simpa [Nat.add_assoc, Nat.add_comm 1 j] using this) (by simp only [List.length_cons] at hk; omega) (inv.set hr' hkn) hB' hK)
  | o :: l, false :: ks, k, listed, a, w, hkl, hl, hk, inv, hB, h => by
    have h0 : ops[k]? = some o := by simpa using (hl 0 (by simp)).symm
    simp only [Region.lexHead2, Bool.and_eq_true, decide_eq_true_eq] at hB
    obtain ⟨hr, hB'⟩ := hB
    have hkn : k < N := by simp only [List.length_cons] at hk; omega
    have hr' : k ∈ Region.ready md ops listed := by rw [hr]; simp
    obtain ⟨hg, hK⟩ := h
    refine ⟨fun h => (by rw [h] at hr; cases hr), fun i hi => ?_⟩
    rw [hr] at hi
    have hik : i = k := by simpa using hi
    subst hik
    refine ⟨hkn, ?_⟩
    have hw : wpOpIn F n P ops Q i (fun a' w' => S w' ∧ wpHd F n P ops Q S Lq l ks a' w') a w := by
      unfold wpOpIn
      simp only [h0]
      rw [if_pos (by simp [Region.wanted, hg])]
      exact hK
    exact wpOpIn_mono (fun a' w' h' => ⟨h'.1, wpAnyM_lex hF hnd hQ hsel hs hc hn l ks (i + 1) _ _ _ (by simpa using hkl) (fun j hj => by have := hl (j + 1) (by simp; omega); simpa [Nat.add_assoc, Nat.add_comm 1 j] using this) (by simp only [List.length_cons] at hk; omega) (inv.set hr' hkn) hB' h'.2⟩) hw
/-- What the law asks of a region, to be reckoned. -/
def Region.tail2B (md : Region.Mode) (ops : Array Oper) (ks : List Bool) : Bool :=
  Region.noSelect ops && Region.noDefer ops && decide (ks.length < ops.size) && Region.sinkB md ops ks.length && Region.chainB md ops ks.length && Region.lexHead2 md ops (ops.size - ks.length) ks 0 (Array.replicate ops.size false)
/-- **The law.** -/
theorem wpIn_region_tail2 {id : Nat} {a : Act} {w : World} {l : List Oper} (ks : List Bool) (S : World → Prop) (hF : ∀ f, F.fn f) (hm : P.follows .mixedOrders = true) (hQ : ∀ c d v (a : Act) w, Q (.panic c) (a.put d v) w → Q (.panic c) a w) (hB : Region.tail2B .any l.toArray ks = true)
    (h : wpHd F n P l.toArray Q S (fun a' w' => wpListIn F n P l.toArray Q (l.drop ks.length) a' w') (l.take ks.length) ks a w.drew) : (Code.region id l.toArray true).wpIn F n P Q a w := by
  simp only [Region.tail2B, Bool.and_eq_true, decide_eq_true_eq] at hB
  obtain ⟨⟨⟨⟨⟨hsel, hnd⟩, hn⟩, hs⟩, hc⟩, hlex⟩ := hB
  have hn' : ks.length < l.length := by simpa using hn
  have htl : (l.take ks.length).length = ks.length := by simp; omega
  have hdl : (l.drop ks.length).length = l.toArray.size - ks.length := by simp
  have inv0 : HeadInv .any l.toArray ks.length (Array.replicate l.toArray.size false) :=
    ⟨by simp, fun j oj _ hl => (by rw [getD_replicate_false] at hl; cases hl), fun t _ ht => getD_in (by simpa using ht) (getD_replicate_false _ _)⟩
  have H := wpAnyM_lex (md := .any) (g := l.toArray.size - ks.length) hF hnd hQ hsel hs hc hn (l.take ks.length) ks 0 _ a w.drew htl (fun j hj => by
    have hj' : j < ks.length := by rw [htl] at hj; exact hj
    simp [hj']) (by simpa using htl) inv0 hlex h
  refine wpIn_region_any hm ?_
  have := wpAnyIn_of_M (Q := Q) (g := l.toArray.size - ks.length) (fun listed a' w' hL => by
    have := wpAnyIn_of_seq (md := .any) (F := F) (n := n) (P := P) (Q := Q) (l.drop ks.length) ks.length listed a' w' (fun j => by simp [List.getElem?_drop]) (by rw [hdl]; exact hL.1) hL.2
    rwa [hdl] at this) _ _ _ _ H
  rw [htl, show ks.length + (l.toArray.size - ks.length) = l.toArray.size by omega] at this
  exact this
end
end Go
namespace Go
section
variable {F : Fence} {n : Nat} {P : Program} {ops : Array Oper} {Q : Exit → Act → World → Prop} {md : Region.Mode} {S : World → Prop}
def Region.ordHead (md : Region.Mode) (ops : Array Oper) (N g : Nat) : List (Nat × Bool) → Array Bool → Bool
  | [], listed => Region.seqB md ops g N listed
  | (i, true) :: r, listed => (Region.ready md ops listed).contains i && Region.free md ops listed i && decide (i < N) && Region.ordHead md ops N g r (listed.setIfInBounds i true)
  | (i, false) :: r, listed => decide (Region.ready md ops listed = [i]) && decide (i < N) && Region.ordHead md ops N g r (listed.setIfInBounds i true)
def wpOrd (F : Fence) (n : Nat) (P : Program) (ops : Array Oper) (Q : Exit → Act → World → Prop) (S : World → Prop) (Lq : Act → World → Prop) : List (Nat × Bool) → Act → World → Prop
  | (i, true) :: r, a, w => ∃ o, ops[i]? = some o ∧ S w ∧ ∃ v, YieldsIf P ops S o v a ∧ wpOrd F n P ops Q S Lq r (a.put o.dst v) w
  | (i, false) :: r, a, w => ∃ o, ops[i]? = some o ∧ Region.wanted o (yielded ops a.tmps) = true ∧ o.wpIn F n P a w (fun a' w' => S w' ∧ wpOrd F n P ops Q S Lq r a' w') Q
  | [], a, w => Lq a w
theorem wpOrd_quiet {Lq : Act → World → Prop} {i : Nat} {o : Oper} {r : List (Nat × Bool)} {a : Act} {w : World} {v : Value} (hi : ops[i]? = some o) (hS : S w) (hw : Region.wanted o (yielded ops a.tmps) = true) (h : ∀ w', S w' → (execOp a.eval o).run P w' = .ok (.value v) w')
    (hr : wpOrd F n P ops Q S Lq r (a.put o.dst v) w) : wpOrd F n P ops Q S Lq ((i, true) :: r) a w := ⟨o, hi, hS, v, .inl ⟨hw, h⟩, hr⟩
theorem wpOrd_off {Lq : Act → World → Prop} {i : Nat} {o : Oper} {r : List (Nat × Bool)} {a : Act} {w : World} (hi : ops[i]? = some o) (hS : S w) (hw : Region.wanted o (yielded ops a.tmps) = false)
    (hr : wpOrd F n P ops Q S Lq r (a.put o.dst undef) w) : wpOrd F n P ops Q S Lq ((i, true) :: r) a w := ⟨o, hi, hS, undef, .inr ⟨hw, rfl⟩, hr⟩
theorem wpOrd_move {Lq : Act → World → Prop} {i : Nat} {o : Oper} {r : List (Nat × Bool)} {a : Act} {w : World} (hi : ops[i]? = some o) (hw : Region.wanted o (yielded ops a.tmps) = true)
    (h : o.wpIn F n P a w (fun a' w' => S w' ∧ wpOrd F n P ops Q S Lq r a' w') Q) : wpOrd F n P ops Q S Lq ((i, false) :: r) a w := ⟨o, hi, hw, h⟩
theorem wpOrd_nil {Lq : Act → World → Prop} {a : Act} {w : World} (h : Lq a w) : wpOrd F n P ops Q S Lq [] a w := h
theorem wpAnyM_ord {N g : Nat} {Lq : Act → World → Prop} (hF : ∀ f, F.fn f) (hnd : Region.noDefer ops = true) (hQ : ∀ c d v (a : Act) w, Q (.panic c) (a.put d v) w → Q (.panic c) a w) (hsel : Region.noSelect ops = true) (hs : Region.sinkB md ops N = true) (hc : Region.chainB md ops N = true) (hn : N < ops.size) :
    ∀ (is : List (Nat × Bool)) (listed : Array Bool) (a : Act) (w : World), HeadInv md ops N listed →
    Region.ordHead md ops N g is listed = true → wpOrd F n P ops Q S Lq is a w →
    wpAnyM F n P md ops Q S N (fun listed' a' w' => Region.seqB md ops g N listed' = true ∧ Lq a' w') is.length listed a w
  | [], listed, a, w, _, hB, h => ⟨hB, h⟩
  | (k, true) :: r, listed, a, w, inv, hB, h => by
    simp only [Region.ordHead, Bool.and_eq_true, decide_eq_true_eq] at hB
    obtain ⟨⟨⟨hr, hf⟩, hkn⟩, hB'⟩ := hB
    have hr' : k ∈ Region.ready md ops listed := by simpa using hr
    obtain ⟨o, h0, hS, v, hy, hK⟩ := h
    exact wpAnyM_first hF hnd h0 (Region.noSelect_spec hsel) (fun c a w => hQ c _ v a w) hs hc hn hkn (fun listed' a' w' hL => seqB_ready hL.1) r.length listed a w inv (Region.free_spec h0 hf) hr' hy hS
      (wpAnyM_ord hF hnd hQ hsel hs hc hn r _ _ _ (inv.set hr' hkn) hB' hK)
  | (k, false) :: r, listed, a, w, inv, hB, h => by
    simp only [Region.ordHead, Bool.and_eq_true, decide_eq_true_eq] at hB
    obtain ⟨⟨hr, hkn⟩, hB'⟩ := hB
    have hr' : k ∈ Region.ready md ops listed := by rw [hr]; simp
    obtain ⟨o, h0, hw0, hK⟩ := h
    refine ⟨fun h => (by rw [h] at hr; cases hr), fun i hi => ?_⟩
    rw [hr] at hi
    have hik : i = k := by simpa using hi
    subst hik
    refine ⟨hkn, ?_⟩
    have hw : wpOpIn F n P ops Q i (fun a' w' => S w' ∧ wpOrd F n P ops Q S Lq r a' w') a w := by
      unfold wpOpIn
      simp only [h0]
      rw [if_pos hw0]
      exact hK
    exact wpOpIn_mono (fun a' w' h' => ⟨h'.1, wpAnyM_ord hF hnd hQ hsel hs hc hn r _ _ _ (inv.set hr' hkn) hB' h'.2⟩) hw
def Region.ordB (md : Region.Mode) (ops : Array Oper) (is : List (Nat × Bool)) : Bool :=
  Region.noSelect ops && Region.noDefer ops && decide (is.length < ops.size) && Region.sinkB md ops is.length && Region.chainB md ops is.length && Region.ordHead md ops is.length (ops.size - is.length) is (Array.replicate ops.size false)
/-- **The law.** -/
theorem wpIn_region_ord {id : Nat} {a : Act} {w : World} {l : List Oper} (is : List (Nat × Bool)) (S : World → Prop) (hF : ∀ f, F.fn f) (hm : P.follows .mixedOrders = true) (hQ : ∀ c d v (a : Act) w, Q (.panic c) (a.put d v) w → Q (.panic c) a w) (hB : Region.ordB .any l.toArray is = true)
    (h : wpOrd F n P l.toArray Q S (fun a' w' => wpListIn F n P l.toArray Q (l.drop is.length) a' w') is a w.drew) : (Code.region id l.toArray true).wpIn F n P Q a w := by
  simp only [Region.ordB, Bool.and_eq_true, decide_eq_true_eq] at hB
  obtain ⟨⟨⟨⟨⟨hsel, hnd⟩, hn⟩, hs⟩, hc⟩, hlex⟩ := hB
  have hn' : is.length < l.length := by simpa using hn
  have hdl : (l.drop is.length).length = l.toArray.size - is.length := by simp
  have inv0 : HeadInv .any l.toArray is.length (Array.replicate l.toArray.size false) :=
    ⟨by simp, fun j oj _ hl => (by rw [getD_replicate_false] at hl; cases hl), fun t _ ht => getD_in (by simpa using ht) (getD_replicate_false _ _)⟩
  have H := wpAnyM_ord (md := .any) (g := l.toArray.size - is.length) hF hnd hQ hsel hs hc hn is _ a w.drew inv0 hlex h
  refine wpIn_region_any hm ?_
  have := wpAnyIn_of_M (Q := Q) (g := l.toArray.size - is.length) (fun listed a' w' hL => by
    have := wpAnyIn_of_seq (md := .any) (F := F) (n := n) (P := P) (Q := Q) (l.drop is.length) is.length listed a' w' (fun j => by simp [List.getElem?_drop]) (by rw [hdl]; exact hL.1) hL.2
    rwa [hdl] at this) _ _ _ _ H
  rw [show is.length + (l.toArray.size - is.length) = l.toArray.size by omega] at this
  exact this
end
theorem bodyPost_put {P : Program} {fn : Func} {R : Ending → World → Prop} {c : List PanicEntry} {d : Option Tmp} {v : Value} {a : Act} {w : World} (h : bodyPost P fn R (.panic c) (a.put d v) w) : bodyPost P fn R (.panic c) a w := by cases d <;> exact h
theorem then_put {K : Act → World → Prop} {Q : Exit → Act → World → Prop} {P : Program} {fn : Func} {R : Ending → World → Prop} (hQ : Q = bodyPost P fn R) (c : List PanicEntry) (d : Option Tmp) (v : Value) (a : Act) (w : World) (h : Exit.then K Q (.panic c) (a.put d v) w) : Exit.then K Q (.panic c) a w := by subst hQ; cases d <;> exact h
section
variable {P : Program} {n : Nat} {o : Oper} {a : Act} {w : World} {K : Act → World → Prop} {Q : Exit → Act → World → Prop}
theorem wpIn_val (hnd : ∀ c, o.op ≠ .defer c) {v : Value} {w' : World} (hrun : (execOp a.eval o).run P w = .ok (.value v) w') (h : K (a.put o.dst v) w') : o.wpIn Fence.wide n P a w K Q := by
  unfold Oper.wpIn
  refine ⟨fun f _ => trivial, ?_⟩
  rw [Oper.semAt_eq _ _ _ hnd, hrun]
  exact h
theorem wpIn_done (hnd : ∀ c, o.op ≠ .defer c) {w' : World} (hrun : (execOp a.eval o).run P w = .ok .skip w') (h : K (a.put o.dst undef) w') : o.wpIn Fence.wide n P a w K Q := by
  unfold Oper.wpIn
  refine ⟨fun f _ => trivial, ?_⟩
  rw [Oper.semAt_eq _ _ _ hnd, hrun]
  exact h
/-- 'append', of what lies somewhere, onto a row of the call's own. -/
theorem wpIn_append_at (s x : Operand) (t : TypeId)
    (ho : o.op = .call { callee := .builtin .append, args := #[s, x], argTypes := #[t, t] })
    (base : Nat) (e : TypeId) (i : TypeInfo) (z : Value) (size bytes : Nat) (ht : P.underlying t = some (.slice e)) (hi : P.info? e = some i) (hz : i.zero = some z)
    (hsize : i.size = size) (hby : i.bytes = bytes) (hzs : z.cells.size = size) (hsz : 0 < size)
    (v : Value) (k : Nat) (xs : List Value) (hs : a.eval s = v) (hown : w.ownsRow base e size v k xs)
    (ad : Addr) (m c : Nat) (news : List Value) (hx : a.eval x = .slice (some ad) m c) (hl : news.length = m * size) (hnews : ∀ j u, news[j]? = some u → w.cell? (ad.add j) = some u) (h1 : ∀ u ∈ news, u.oneCell' = true)
    (h63 : k + m ≤ maxLen) (hbytes : (k + m) * bytes ≤ 140737488355328) (hbase : base ≤ w.heap.size)
    (h : ∀ v' w', w'.ownsRow base e size v' (k + m) (xs ++ news) → w.grownBy w' v.ownBlock → (v'.ownBlock = v.ownBlock ∨ v'.ownBlock = some w.heap.size) → K (a.put o.dst v') w') : o.wpIn Fence.wide n P a w K Q := by
  obtain ⟨v', w', hr, h2, h3, _, h5⟩ := run_append_own_at (P := P) w base t o.type e i z size bytes ht hi hz hsize hby hzs hsz v k xs hown ad m c news hl hnews h1 h63 hbytes hbase
  refine wpIn_val (v := v') (w' := w') (fun c hc => by rw [ho] at hc; cases hc) ?_ (h v' w' h2 h3 h5)
  unfold execOp
  simp only [ho, resolve, invoke, builtin, Sem.run_bind, Sem.run_pure, Result.andThen_ok, List.map_toArray, List.map_cons, List.map_nil, hs, hx, hr]
end
end Go
