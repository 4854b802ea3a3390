/- A region that draws its order, walked in an order of the prover's own: what only reads is taken when it may be taken, what moves must stand alone when it comes up; a guard may be false. No conditions but those that the law names. -/
import Derived.Test.YtbjbiimkhpfieaaAm
namespace Go
section
variable {F : Fence} {n : Nat} {P : Program} {ops : Array Oper} {Q : Exit → Act → World → Prop} {md : Region.Mode} {S : World → Prop}
def Region.ordHead (md : Region.Mode) (ops : Array Oper) (N g : Nat) : List (Nat × Bool) → Array Bool → Bool
  | [], listed => Region.seqB md ops g N listed
  | (i, true) :: r, listed => (Region.ready md ops listed).contains i && Region.free md ops listed i && decide (i < N) && Region.ordHead md ops N g r (listed.setIfInBounds i true)
  | (i, false) :: r, listed => decide (Region.ready md ops listed = [i]) && decide (i < N) && Region.ordHead md ops N g r (listed.setIfInBounds i true)
def wpOrd (F : Fence) (n : Nat) (P : Program) (ops : Array Oper) (Q : Exit → Act → World → Prop) (S : World → Prop) (Lq : Act → World → Prop) : List (Nat × Bool) → Act → World → Prop
  | (i, true) :: r, a, w => ∃ o, ops[i]? = some o ∧ S w ∧ ∃ v, YieldsIf P ops S o v a ∧ wpOrd F n P ops Q S Lq r (a.put o.dst v) w
  | (i, false) :: r, a, w => ∃ o, ops[i]? = some o ∧ Region.wanted o (yielded ops a.tmps) = true ∧ o.wpIn F n P a w (fun a' w' => S w' ∧ wpOrd F n P ops Q S Lq r a' w') Q
  | [], a, w => Lq a w
theorem wpOrd_quiet {Lq : Act → World → Prop} {i : Nat} {o : Oper} {r : List (Nat × Bool)} {a : Act} {w : World} {v : Value} (hi : ops[i]? = some o) (hS : S w) (hw : Region.wanted o (yielded ops a.tmps) = true) (h : ∀ w', S w' → (execOp a.eval o).run P w' = .ok (.value v) w')
    (hr : wpOrd F n P ops Q S Lq r (a.put o.dst v) w) : wpOrd F n P ops Q S Lq ((i, true) :: r) a w := ⟨o, hi, hS, v, .inl ⟨hw, h⟩, hr⟩
theorem wpOrd_off {Lq : Act → World → Prop} {i : Nat} {o : Oper} {r : List (Nat × Bool)} {a : Act} {w : World} (hi : ops[i]? = some o) (hS : S w) (hw : Region.wanted o (yielded ops a.tmps) = false)
    (hr : wpOrd F n P ops Q S Lq r (a.put o.dst undef) w) : wpOrd F n P ops Q S Lq ((i, true) :: r) a w := ⟨o, hi, hS, undef, .inr ⟨hw, rfl⟩, hr⟩
theorem wpOrd_move {Lq : Act → World → Prop} {i : Nat} {o : Oper} {r : List (Nat × Bool)} {a : Act} {w : World} (hi : ops[i]? = some o) (hw : Region.wanted o (yielded ops a.tmps) = true)
    (h : o.wpIn F n P a w (fun a' w' => S w' ∧ wpOrd F n P ops Q S Lq r a' w') Q) : wpOrd F n P ops Q S Lq ((i, false) :: r) a w := ⟨o, hi, hw, h⟩
theorem wpOrd_nil {Lq : Act → World → Prop} {a : Act} {w : World} (h : Lq a w) : wpOrd F n P ops Q S Lq [] a w := h
theorem wpAnyM_ord {N g : Nat} {Lq : Act → World → Prop} (hF : ∀ f, F.fn f) (hnd : Region.noDefer ops = true) (hQ : ∀ c d v (a : Act) w, Q (.panic c) (a.put d v) w → Q (.panic c) a w) (hsel : Region.noSelect ops = true) (hs : Region.sinkB md ops N = true) (hc : Region.chainB md ops N = true) (hn : N < ops.size) :
    ∀ (is : List (Nat × Bool)) (listed : Array Bool) (a : Act) (w : World), HeadInv md ops N listed →
    Region.ordHead md ops N g is listed = true → wpOrd F n P ops Q S Lq is a w →
    wpAnyM F n P md ops Q S N (fun listed' a' w' => Region.seqB md ops g N listed' = true ∧ Lq a' w') is.length listed a w
  | [], listed, a, w, _, hB, h => ⟨hB, h⟩
  | (k, true) :: r, listed, a, w, inv, hB, h => by
    simp only [Region.ordHead, Bool.and_eq_true, decide_eq_true_eq] at hB
    obtain ⟨⟨⟨hr, hf⟩, hkn⟩, hB'⟩ := hB
    have hr' : k ∈ Region.ready md ops listed := by simpa using hr
    obtain ⟨o, h0, hS, v, hy, hK⟩ := h
    exact wpAnyM_first hF hnd h0 (Region.noSelect_spec hsel) (fun c a w => hQ c _ v a w) hs hc hn hkn (fun listed' a' w' hL => seqB_ready hL.1) r.length listed a w inv (Region.free_spec h0 hf) hr' hy hS
      (wpAnyM_ord hF hnd hQ hsel hs hc hn r _ _ _ (inv.set hr' hkn) hB' hK)
  | (k, false) :: r, listed, a, w, inv, hB, h => by
    simp only [Region.ordHead, Bool.and_eq_true, decide_eq_true_eq] at hB
    obtain ⟨⟨hr, hkn⟩, hB'⟩ := hB
    have hr' : k ∈ Region.ready md ops listed := by rw [hr]; simp
    obtain ⟨o, h0, hw0, hK⟩ := h
    refine ⟨fun h => (by rw [h] at hr; cases hr), fun i hi => ?_⟩
    rw [hr] at hi
    have hik : i = k := by simpa using hi
    subst hik
    refine ⟨hkn, ?_⟩
    have hw : wpOpIn F n P ops Q i (fun a' w' => S w' ∧ wpOrd F n P ops Q S Lq r a' w') a w := by
      unfold wpOpIn
      simp only [h0]
      rw [if_pos hw0]
      exact hK
    exact wpOpIn_mono (fun a' w' h' => ⟨h'.1, wpAnyM_ord hF hnd hQ hsel hs hc hn r _ _ _ (inv.set hr' hkn) hB' h'.2⟩) hw
def Region.ordB (md : Region.Mode) (ops : Array Oper) (is : List (Nat × Bool)) : Bool :=
  Region.noSelect ops && Region.noDefer ops && decide (is.length < ops.size) && Region.sinkB md ops is.length && Region.chainB md ops is.length && Region.ordHead md ops is.length (ops.size - is.length) is (Array.replicate ops.size false)
/-- **The law.** -/
theorem wpIn_region_ord {id : Nat} {a : Act} {w : World} {l : List Oper} (is : List (Nat × Bool)) (S : World → Prop) (hF : ∀ f, F.fn f) (hm : P.follows .mixedOrders = true) (hQ : ∀ c d v (a : Act) w, Q (.panic c) (a.put d v) w → Q (.panic c) a w) (hB : Region.ordB .any l.toArray is = true)
    (h : wpOrd F n P l.toArray Q S (fun a' w' => wpListIn F n P l.toArray Q (l.drop is.length) a' w') is a w.drew) : (Code.region id l.toArray true).wpIn F n P Q a w := by
  simp only [Region.ordB, Bool.and_eq_true, decide_eq_true_eq] at hB
  obtain ⟨⟨⟨⟨⟨hsel, hnd⟩, hn⟩, hs⟩, hc⟩, hlex⟩ := hB
  have hn' : is.length < l.length := by simpa using hn
  have hdl : (l.drop is.length).length = l.toArray.size - is.length := by simp
  have inv0 : HeadInv .any l.toArray is.length (Array.replicate l.toArray.size false) :=
    ⟨by simp, fun j oj _ hl => (by rw [getD_replicate_false] at hl; cases hl), fun t _ ht => getD_in (by simpa using ht) (getD_replicate_false _ _)⟩
  have H := wpAnyM_ord (md := .any) (g := l.toArray.size - is.length) hF hnd hQ hsel hs hc hn is _ a w.drew inv0 hlex h
  refine wpIn_region_any hm ?_
  have := wpAnyIn_of_M (Q := Q) (g := l.toArray.size - is.length) (fun listed a' w' hL => by
    have := wpAnyIn_of_seq (md := .any) (F := F) (n := n) (P := P) (Q := Q) (l.drop is.length) is.length listed a' w' (fun j => by simp [List.getElem?_drop]) (by rw [hdl]; exact hL.1) hL.2
    rwa [hdl] at this) _ _ _ _ H
  rw [show is.length + (l.toArray.size - is.length) = l.toArray.size by omega] at this
  exact this
end
end Go
