/- Rows of things with ids: plain. No conditions. -/
import Derived.Test.YtpbpbijjkmjjjaaGe
set_option linter.unusedSimpArgs false
set_option linter.unusedVariables false
namespace Go.Proofs.Ytpbpbijjkmjjjaa
open Go Go.RowKit Go.Sx
section
variable {α : Type} {cs : α → List Value} {k : Nat}
/-- The cells of a row. -/
def fl (cs : α → List Value) (l : List α) : List Value := l.flatMap cs
theorem fl_cons (x : α) (l : List α) : fl cs (x :: l) = cs x ++ fl cs l := rfl
theorem fl_append (l m : List α) : fl cs (l ++ m) = fl cs l ++ fl cs m := by simp [fl]
theorem fl_length (hk : ∀ x, (cs x).length = k) (l : List α) : (fl cs l).length = l.length * k := by
  induction l with
  | nil => simp [fl]
  | cons x l ih => rw [fl_cons, List.length_append, ih, hk, List.length_cons, Nat.add_mul, Nat.one_mul, Nat.add_comm]
theorem fl_get (hk : ∀ x, (cs x).length = k) (l : List α) (j : Nat) (h : j < l.length) (q : Nat) (hq : q < k) : (fl cs l)[j * k + q]? = (cs l[j])[q]? := by
  induction l generalizing j with
  | nil => simp at h
  | cons x l ih =>
    rw [fl_cons]
    cases j with
    | zero => rw [Nat.zero_mul, Nat.zero_add, List.getElem?_append_left (by rw [hk]; exact hq)]; rfl
    | succ j =>
      have h' : j < l.length := by simp at h; omega
      rw [List.getElem?_append_right (by rw [hk, Nat.add_mul]; omega), hk, show (j + 1) * k + q - k = j * k + q by rw [Nat.add_mul]; omega, ih j h']
      rfl
theorem fl_take (hk : ∀ x, (cs x).length = k) (l : List α) (q : Nat) : (fl cs l).take (q * k) = fl cs (l.take q) := by
  induction l generalizing q with
  | nil => simp [fl]
  | cons x l ih =>
    cases q with
    | zero => simp [fl]
    | succ q => rw [fl_cons, List.take_succ_cons, fl_cons, Nat.add_mul, Nat.one_mul, Nat.add_comm, ← hk x, List.take_length_add_append, hk x, ih]
theorem fl_drop (hk : ∀ x, (cs x).length = k) (l : List α) (q : Nat) : (fl cs l).drop (q * k) = fl cs (l.drop q) := by
  induction l generalizing q with
  | nil => simp [fl]
  | cons x l ih =>
    cases q with
    | zero => simp [fl]
    | succ q => rw [fl_cons, List.drop_succ_cons, Nat.add_mul, Nat.one_mul, Nat.add_comm, ← hk x, List.drop_length_add_append, hk x, ih]
theorem fl_one (h1 : ∀ x, ∀ u ∈ cs x, u.oneCell' = true) (l : List α) : ∀ u ∈ fl cs l, u.oneCell' = true := fun u hu => by
  obtain ⟨x, _, h⟩ := List.mem_flatMap.1 hu
  exact h1 x u h
/-- The cells of the thing in a place. -/
theorem fl_at (hk : ∀ x, (cs x).length = k) {w : World} {B n : Nat} {A : Option Addr} {l : List α} (h : Reads w B k A n (fl cs l)) (hn : n = l.length) {j : Nat} (hj : j < l.length) :
    ∃ ad, A = some ad ∧ ad.block < B ∧ ∀ q u, q < k → (cs l[j])[q]? = some u → w.cell? (ad.add (j * k + q)) = some u := by
  obtain ⟨ad, e, hb, hc⟩ := h.2 (by omega)
  exact ⟨ad, e, hb, fun q u hq hu => hc _ _ (by rw [fl_get hk l j hj q hq]; exact hu)⟩
variable {p : α → Bool} {id : α → Int}
/-- All are so, and their ids rise. -/
def chk (p : α → Bool) (id : α → Int) : Int → List α → Bool
  | _, [] => true
  | last, x :: l => p x && decide (last < id x) && chk p id (id x) l
theorem chk_cons {last : Int} {x : α} {l : List α} : chk p id last (x :: l) = true ↔ p x = true ∧ last < id x ∧ chk p id (id x) l = true := by
  simp [chk, and_assoc]
theorem chk_mem {last : Int} {l : List α} (h : chk p id last l = true) {x : α} (hx : x ∈ l) : p x = true ∧ last < id x := by
  induction l generalizing last with
  | nil => cases hx
  | cons y l ih =>
    obtain ⟨h1, h2, h3⟩ := chk_cons.1 h
    rcases List.mem_cons.1 hx with rfl | hx
    · exact ⟨h1, h2⟩
    · obtain ⟨a, b⟩ := ih h3 hx
      exact ⟨a, by omega⟩
theorem chk_lt {last : Int} {l : List α} (h : chk p id last l = true) {i j : Nat} (hij : i < j) (hj : j < l.length) : id (l[i]'(by omega)) < id l[j] := by
  induction l generalizing last i j with
  | nil => simp at hj
  | cons y l ih =>
    obtain ⟨h1, h2, h3⟩ := chk_cons.1 h
    cases j with
    | zero => omega
    | succ j =>
      have hj' : j < l.length := by simp at hj; omega
      cases i with
      | zero => exact (chk_mem h3 (List.getElem_mem hj')).2
      | succ i => exact ih h3 (by omega) hj'
theorem chk_uniq {last : Int} {l : List α} (h : chk p id last l = true) {i j : Nat} (hi : i < l.length) (hj : j < l.length) (he : id l[i] = id l[j]) : i = j := by
  rcases Nat.lt_trichotomy i j with hlt | he' | hlt
  · have := chk_lt h hlt hj; omega
  · exact he'
  · have := chk_lt h hlt hi; omega
theorem chk_snoc {last : Int} {l : List α} {x : α} (h : chk p id last l = true) (hp : p x = true) (hl : ∀ y ∈ l, id y < id x) (h0 : last < id x) : chk p id last (l ++ [x]) = true := by
  induction l generalizing last with
  | nil => exact chk_cons.2 ⟨hp, h0, rfl⟩
  | cons y l ih =>
    obtain ⟨h1, h2, h3⟩ := chk_cons.1 h
    exact chk_cons.2 ⟨h1, h2, ih h3 (fun z hz => hl z (List.mem_cons_of_mem _ hz)) (hl y List.mem_cons_self)⟩
/-- A row with a thing more. -/
def insAt (l : List α) (k : Nat) (x : α) : List α := l.take k ++ x :: l.drop k
theorem insAt_length {l : List α} {k : Nat} {x : α} (h : k ≤ l.length) : (insAt l k x).length = l.length + 1 := by
  simp [insAt]; omega
theorem insAt_mem {l : List α} {k : Nat} {x y : α} : y ∈ insAt l k x ↔ y = x ∨ y ∈ l := by
  have h : y ∈ l ↔ y ∈ l.take k ∨ y ∈ l.drop k := by rw [← List.mem_append, List.take_append_drop]
  rw [h]
  simp only [insAt, List.mem_append, List.mem_cons]
  constructor
  · rintro (h | h | h)
    · exact .inr (.inl h)
    · exact .inl h
    · exact .inr (.inr h)
  · rintro (h | h | h)
    · exact .inr (.inl h)
    · exact .inl h
    · exact .inr (.inr h)
theorem insAt_chk {last : Int} {l : List α} {k : Nat} {x : α} (h : chk p id last l = true) (hk : k ≤ l.length) (hp : p x = true) (h0 : last < id x) (h1 : ∀ m (hm : m < l.length), m < k → id l[m] < id x) (h2 : ∀ m (hm : m < l.length), k ≤ m → id x < id l[m]) :
    chk p id last (insAt l k x) = true := by
  induction l generalizing last k with
  | nil =>
    obtain rfl : k = 0 := by simpa using hk
    exact chk_cons.2 ⟨hp, h0, rfl⟩
  | cons y l ih =>
    obtain ⟨g1, g2, g3⟩ := chk_cons.1 h
    cases k with
    | zero => exact chk_cons.2 ⟨hp, h0, chk_cons.2 ⟨g1, h2 0 (by simp) (Nat.le_refl _), g3⟩⟩
    | succ k =>
      show chk p id last (y :: insAt l k x) = true
      refine chk_cons.2 ⟨g1, g2, ih g3 (by simp at hk; omega) (h1 0 (by simp) (by omega)) (fun m hm hmk => ?_) (fun m hm hmk => ?_)⟩
      · exact h1 (m + 1) (by simp; omega) (by omega)
      · exact h2 (m + 1) (by simp; omega) (by omega)
theorem insAt_get {l : List α} {k : Nat} {x : α} (h : k ≤ l.length) : ∃ hk : k < (insAt l k x).length, (insAt l k x)[k] = x := by
  refine ⟨by rw [insAt_length h]; omega, ?_⟩
  unfold insAt
  rw [List.getElem_append_right (by simp; omega)]
  simp [Nat.min_eq_left h]
theorem insAt_drop {l : List α} {k : Nat} {x : α} (h : k ≤ l.length) : (insAt l k x).take k ++ (insAt l k x).drop (k + 1) = l := by
  have e : (l.take k).length = k := by simp; omega
  unfold insAt
  have h1 : (l.take k ++ x :: l.drop k).take k = l.take k := by
    rw [List.take_append_of_le_length (by rw [e]; exact Nat.le_refl _), List.take_of_length_le (by rw [e]; exact Nat.le_refl _)]
  have h2 : (l.take k ++ x :: l.drop k).drop (k + 1) = l.drop k := by
    rw [List.drop_append, List.drop_eq_nil_of_le (by rw [e]; omega), e, show k + 1 - k = 1 by omega]
    rfl
  rw [h1, h2, List.take_append_drop]
/-- Two rows whose ids rise, of the same things, are the same. -/
theorem chk_ext {last : Int} {l m : List α} (hl : chk p id last l = true) {last' : Int} (hm : chk p id last' m = true) (h : ∀ x, x ∈ l ↔ x ∈ m) : l = m := by
  induction l generalizing last last' m with
  | nil =>
    cases m with
    | nil => rfl
    | cons y m => exact absurd ((h y).2 List.mem_cons_self) (by simp)
  | cons x l ih =>
    cases m with
    | nil => exact absurd ((h x).1 List.mem_cons_self) (by simp)
    | cons y m =>
      obtain ⟨_, _, h3⟩ := chk_cons.1 hl
      obtain ⟨_, _, g3⟩ := chk_cons.1 hm
      have e : x = y := by
        rcases List.mem_cons.1 ((h x).1 List.mem_cons_self) with e | e
        · exact e
        · rcases List.mem_cons.1 ((h y).2 List.mem_cons_self) with e' | e'
          · exact e'.symm
          · have := (chk_mem g3 e).2
            have := (chk_mem h3 e').2
            omega
      subst e
      rw [ih h3 g3 (fun z => ?_)]
      constructor
      · intro hz
        rcases List.mem_cons.1 ((h z).1 (List.mem_cons_of_mem _ hz)) with rfl | hz'
        · have := (chk_mem h3 hz).2; omega
        · exact hz'
      · intro hz
        rcases List.mem_cons.1 ((h z).2 (List.mem_cons_of_mem _ hz)) with rfl | hz'
        · have := (chk_mem g3 hz).2; omega
        · exact hz'
/-- The place of the first thing of an id. -/
def FindAt (id : α → Int) (l : List α) (i : Int) (r : Int) : Prop :=
  (r = -1 ∧ ∀ x ∈ l, id x ≠ i) ∨ ∃ (k : Nat) (hk : k < l.length), r = k ∧ id l[k] = i ∧ ∀ m (hm : m < l.length), m < k → id l[m] ≠ i
theorem FindAt.chk {last : Int} {l : List α} {i r : Int} (h : FindAt id l i r) (hc : chk p id last l = true) {x : α} (hx : x ∈ l) (hi : id x = i) : ∃ (k : Nat) (hk : k < l.length), r = k ∧ l[k] = x := by
  rcases h with ⟨_, h⟩ | ⟨k, hk, e, h1, _⟩
  · exact absurd hi (h x hx)
  · obtain ⟨j, hj, ej⟩ := List.mem_iff_getElem.1 hx
    have : k = j := chk_uniq hc hk hj (by rw [h1, ej, hi])
    subst this
    exact ⟨k, hk, e, ej⟩
theorem FindAt.ins {last : Int} {l : List α} {k : Nat} {x : α} {r : Int} (hk : k ≤ l.length) (h : FindAt id (insAt l k x) (id x) r) (hc : Go.Proofs.Ytpbpbijjkmjjjaa.chk p id last (insAt l k x) = true) : r = k := by
  obtain ⟨j, hj, e, ej⟩ := h.chk hc (insAt_mem.2 (.inl rfl)) rfl
  obtain ⟨hk', ek⟩ := insAt_get (x := x) hk
  have : j = k := chk_uniq hc hj hk' (by rw [ej, ek])
  omega
end
end Go.Proofs.Ytpbpbijjkmjjjaa
