/- Clearances, plain; what field.Build keeps in memory. No conditions. -/
import Derived.Test.YtcdfojfafnecdaaFh
namespace Go.Proofs.Ytcdfojfafnecdaa
open Go Go.RowKit Go.Sx Go.Mp
section
variable {N : Nat × Nat → Option (List (Nat × Nat))} {s : Nat × Nat}
/-- Whether a floor's clearance is n at most. -/
def kn (N : Nat × Nat → Option (List (Nat × Nat))) : Nat → Nat × Nat → Bool
  | 0, s => (N s).isNone
  | n + 1, s => kn N n s || match N s with
    | some l => l.any (kn N n)
    | none => true
/-- A floor's clearance, c at most. -/
def cl (N : Nat × Nat → Option (List (Nat × Nat))) : Nat → Nat × Nat → Nat
  | 0, _ => 0
  | c + 1, s => cl N c s + if kn N c s = true then 0 else 1
theorem kn_succ {n : Nat} (h : kn N n s = true) : kn N (n + 1) s = true := by rw [kn, h]; rfl
theorem kn_le {n m : Nat} (hnm : n ≤ m) (h : kn N n s = true) : kn N m s = true := by
  obtain ⟨j, rfl⟩ := Nat.exists_eq_add_of_le hnm
  induction j with
  | zero => exact h
  | succ j ih => exact kn_succ (ih (by omega))
theorem kn_none {n : Nat} (h : N s = none) : kn N n s = true := kn_le (Nat.zero_le n) (by rw [kn, h]; rfl)
theorem kn_some {n : Nat} {l : List (Nat × Nat)} (h : N s = some l) : kn N (n + 1) s = (kn N n s || l.any (kn N n)) := by rw [kn, h]
theorem not_le {n m : Nat} (hnm : n ≤ m) (h : kn N m s = false) : kn N n s = false := by
  cases h' : kn N n s with
  | false => rfl
  | true => rw [kn_le hnm h'] at h; cases h
theorem cl_not : ∀ {n : Nat}, kn N n s = false → cl N (n + 1) s = n + 1
  | 0, h => by simp [cl, h]
  | n + 1, h => by rw [cl, cl_not (not_le (Nat.le_succ n) h), if_neg (by rw [h]; decide)]
theorem cl_known {n m : Nat} (hnm : n ≤ m) (h : kn N n s = true) : cl N m s = cl N n s := by
  obtain ⟨j, rfl⟩ := Nat.exists_eq_add_of_le hnm
  induction j with
  | zero => rfl
  | succ j ih => rw [show n + (j + 1) = (n + j) + 1 by omega, cl, ih (by omega), if_pos (kn_le (by omega) h)]; rfl
theorem lt_cl : ∀ {c m : Nat}, m < cl N c s ↔ m < c ∧ kn N m s = false
  | 0, m => by simp [cl]
  | c + 1, m => by
    rw [cl]
    cases h : kn N c s with
    | true =>
      rw [if_pos rfl, Nat.add_zero, lt_cl]
      constructor
      · rintro ⟨h1, h2⟩; exact ⟨by omega, h2⟩
      · rintro ⟨h1, h2⟩
        refine ⟨?_, h2⟩
        rcases Nat.lt_or_ge m c with h3 | h3
        · exact h3
        · obtain rfl : m = c := by omega
          rw [h] at h2; cases h2
    | false =>
      have e : cl N c s = c := by
        cases c with
        | zero => rfl
        | succ c => exact cl_not (not_le (Nat.le_succ c) h)
      rw [if_neg (by decide), e]
      exact ⟨fun h1 => ⟨h1, not_le (by omega) h⟩, fun h1 => h1.1⟩
theorem cl_le {c : Nat} : cl N c s ≤ c := by
  rcases Nat.lt_or_ge c (cl N c s) with h | h
  · have := (lt_cl.1 h).1; omega
  · exact h
/-- Nothing new: nothing ever. -/
theorem kn_stop {n : Nat} {G : Nat × Nat → Prop} (hG : ∀ s l, G s → N s = some l → ∀ t ∈ l, G t) (h : ∀ s, G s → kn N (n + 1) s = kn N n s) : ∀ j s, G s → kn N (n + j) s = kn N n s
  | 0, s, _ => rfl
  | j + 1, s, hs => by
    rw [← h s hs, show n + (j + 1) = (n + j) + 1 by omega]
    cases hN : N s with
    | none => rw [kn_none hN, kn_none hN]
    | some l =>
      rw [kn_some hN, kn_some hN, kn_stop hG h j s hs]
      congr 1
      have : ∀ l' : List (Nat × Nat), (∀ t ∈ l', G t) → l'.any (kn N (n + j)) = l'.any (kn N n) := fun l' hl' => by
        induction l' with
        | nil => rfl
        | cons t l' ih => rw [List.any_cons, List.any_cons, kn_stop hG h j t (hl' t (by simp)), ih (fun t ht => hl' t (by simp [ht]))]
      exact this l (hG s l hs hN)
/-- What is known behind n rounds. -/
noncomputable def vn (N : Nat × Nat → Option (List (Nat × Nat))) (n : Nat) (len : Nat → Nat) (q : Nat) (s : Nat × Nat) : Option Nat :=
  open Classical in if InG n len s ∧ kn N q s = true then some (cl N q s) else none
theorem vn_isSome {n q : Nat} {len : Nat → Nat} : (vn N n len q s).isSome = true ↔ InG n len s ∧ kn N q s = true := by
  unfold vn
  split
  · rename_i h; exact ⟨fun _ => h, fun _ => rfl⟩
  · rename_i h; exact ⟨fun h' => by simp at h', fun h' => absurd h' h⟩
end
/-- Rows of ints, in a making: m of n are made. -/
def outHd (n m : Nat) (bl len : Nat → Nat) : List Value := (List.range n).map fun i => if i < m then .slice (some ⟨bl i, 0, none⟩) (len i) (len i) else .slice none 0 0
def intRow (q : Nat) (f : Nat → Int) : List Value := (List.range q).map fun k => .int .i64 (f k)
structure OutS (w : World) (B O n m : Nat) (bl len : Nat → Nat) (f : Nat → Nat → Int) : Prop where
  hd : w.heap[O]? = some (.cells (outHd n m bl len).toArray 46 (0, 0))
  row : ∀ i, i < m → w.heap[bl i]? = some (.cells (intRow (len i) (f i)).toArray 3 (0, 0))
  inj : ∀ i j, i < m → j < m → bl i = bl j → i = j
  lo : B ≤ O
  lor : ∀ i, i < m → B ≤ bl i
theorem OutS.of_blocks {w w' : World} {B O n m : Nat} {bl len : Nat → Nat} {f : Nat → Nat → Int} (h : OutS w B O n m bl len f) (hO : w'.heap[O]? = w.heap[O]?) (hr : ∀ i, i < m → w'.heap[bl i]? = w.heap[bl i]?) : OutS w' B O n m bl len f :=
  ⟨hO.trans h.hd, fun i hi => (hr i hi).trans (h.row i hi), h.inj, h.lo, h.lor⟩
theorem intRow_length (q : Nat) (f : Nat → Int) : (intRow q f).length = q := by simp [intRow]
theorem intRow_get {q k : Nat} {f : Nat → Int} (h : k < q) : (intRow q f)[k]? = some (.int .i64 (f k)) := by simp [intRow, h]
theorem intRow_ext {q : Nat} {f g : Nat → Int} (h : ∀ k, k < q → f k = g k) : intRow q f = intRow q g := by
  unfold intRow
  refine List.map_congr_left fun k hk => ?_
  rw [h k (List.mem_range.1 hk)]
theorem intRow_set {q k : Nat} {f : Nat → Int} (x : Int) : (intRow q f).set k (.int .i64 x) = intRow q (fun j => if j = k then x else f j) := by
  refine List.ext_getElem? fun j => ?_
  unfold intRow
  rw [List.getElem?_set]
  by_cases hj : k = j
  · subst hj
    by_cases hk : k < q
    · simp [hk]
    · simp [hk]
  · rw [if_neg hj]
    by_cases hk : j < q
    · simp [hk, Ne.symm hj]
    · simp [hk]
theorem OutS.ext {w : World} {B O n m : Nat} {bl len : Nat → Nat} {f g : Nat → Nat → Int} (h : OutS w B O n m bl len f) (hfg : ∀ i k, i < m → k < len i → f i k = g i k) : OutS w B O n m bl len g :=
  ⟨h.hd, fun i hi => by rw [← intRow_ext (fun k hk => hfg i k hi hk)]; exact h.row i hi, h.inj, h.lo, h.lor⟩
theorem OutS.set {w : World} {B O n m : Nat} {bl len : Nat → Nat} {f : Nat → Nat → Int} (h : OutS w B O n m bl len f) {i : Nat} (hi : i < m) (k : Nat) (x : Int) : OutS (w.setCell ⟨bl i, k, none⟩ (.int .i64 x)) B O n m bl len (fun i' k' => if i' = i ∧ k' = k then x else f i' k') := by
  have hr := h.row i hi
  have hO : O ≠ bl i := fun e => by rw [← e, h.hd] at hr; injection hr with hr; injection hr with _ hr; cases hr
  have hs := set_block (k := k) hr (.int .i64 x)
  refine ⟨((grownBy_set w (bl i) k _).block O (lt_of_block h.hd) (fun e => by injection e with e; exact hO e)).trans h.hd, fun i' hi' => ?_, h.inj, h.lo, h.lor⟩
  by_cases he : i' = i
  · subst he
    rw [hs, List.setIfInBounds_toArray, intRow_set]
    congr 3
    refine intRow_ext fun k' _ => ?_
    simp
  · rw [(grownBy_set w (bl i) k (.int .i64 x)).block (bl i') (lt_of_block (h.row i' hi')) (fun e => by injection e with e; exact he (h.inj _ _ hi' hi e)), h.row i' hi']
    congr 3
    refine intRow_ext fun k' _ => ?_
    simp [he]
theorem outHd_length (n m : Nat) (bl len : Nat → Nat) : (outHd n m bl len).length = n := by simp [outHd]
theorem outHd_get {n m i : Nat} {bl len : Nat → Nat} (hi : i < n) : (outHd n m bl len)[i]? = some (if i < m then .slice (some ⟨bl i, 0, none⟩) (len i) (len i) else .slice none 0 0) := by simp [outHd, hi]
/-- A row more. -/
theorem OutS.push {w : World} {B O n m : Nat} {bl len : Nat → Nat} {f : Nat → Nat → Int} (h : OutS w B O n m bl len f) (hm : m < n) {b : Nat} {g : Nat → Int} (hB : B ≤ b) (hb : w.heap[b]? = some (.cells (intRow (len m) g).toArray 3 (0, 0))) (hn : ∀ i, i < m → bl i ≠ b) :
    OutS (w.setCell ⟨O, m, none⟩ (.slice (some ⟨b, 0, none⟩) (len m) (len m))) B O n (m + 1) (fun i => if i = m then b else bl i) len (fun i => if i = m then g else f i) := by
  have hOb : O ≠ b := fun e => by rw [← e, h.hd] at hb; injection hb with hb; injection hb with _ hb; cases hb
  have hs := set_block (k := m) h.hd (.slice (some ⟨b, 0, none⟩) (len m) (len m))
  have hk : ∀ j, j < w.heap.size → O ≠ j → (w.setCell ⟨O, m, none⟩ (.slice (some ⟨b, 0, none⟩) (len m) (len m))).heap[j]? = w.heap[j]? := fun j hj hne => (grownBy_set w O m _).block j hj (fun e => by injection e with e; exact hne e.symm)
  refine ⟨?_, fun i hi => ?_, fun i j hi hj => ?_, h.lo, fun i hi => ?_⟩
  · rw [hs, List.setIfInBounds_toArray]
    congr 3
    refine List.ext_getElem? fun j => ?_
    rw [List.getElem?_set]
    by_cases hj : m = j
    · subst hj
      rw [if_pos rfl, if_pos (by rw [outHd_length]; exact hm), outHd_get hm, if_pos (by omega), if_pos rfl]
    · rw [if_neg hj]
      by_cases hjn : j < n
      · rw [outHd_get hjn, outHd_get hjn]
        by_cases hjm : j < m
        · rw [if_pos hjm, if_pos (by omega), if_neg (fun e => hj e.symm)]
        · rw [if_neg hjm, if_neg (by omega)]
      · rw [List.getElem?_eq_none (by rw [outHd_length]; omega), List.getElem?_eq_none (by rw [outHd_length]; omega)]
  · by_cases he : i = m
    · subst he
      rw [if_pos rfl, if_pos rfl]
      rw [hk b (lt_of_block hb) hOb]
      exact hb
    · rw [if_neg he, if_neg he]
      have hr := h.row i (by omega)
      rw [hk (bl i) (lt_of_block hr) (fun e => by rw [← e, h.hd] at hr; injection hr with hr; injection hr with _ hr; cases hr)]
      exact hr
  · by_cases h1 : i = m <;> by_cases h2 : j = m <;> simp only [h1, h2, if_true, if_false]
    · intro _; trivial
    · intro e; exact absurd e.symm (hn j (by omega))
    · intro e; exact absurd e (hn i (by omega))
    · exact h.inj i j (by omega) (by omega)
  · split
    · exact hB
    · exact h.lor i (by omega)
/-- A row of eight spots. -/
def ERow (w : World) (B : Nat) (v : Value) (l : List (Nat × Nat)) : Prop := ∃ g cap, v = .slice (some ⟨g, 0, none⟩) l.length cap ∧ w.ownsRow B 67 2 v l.length (spcs l) ∧ ∃ cur, w.heap[g]? = some (.cells cur 67 (0, 0))
theorem ERow.of {w : World} {B : Nat} {v : Value} {l : List (Nat × Nat)} (h : w.ownsRow B 67 2 v l.length (spcs l)) (hl : 0 < l.length) : ERow w B v l := by
  have h' := h
  rcases h.2 with ⟨_, he⟩ | ⟨g, cap, cur, rfl, _, hg, _⟩
  · have := h.1
    rw [he] at this
    simp at this
    omega
  · exact ⟨g, cap, rfl, h', cur, hg⟩
theorem ERow.kept {w w' : World} {B : Nat} {v : Value} {l : List (Nat × Nat)} {row : Option Nat} (h : ERow w B v l) (hg : w.grownBy w' row) (hr : ∀ b cur, row = some b → w.heap[b]? ≠ some (.cells cur 67 (0, 0))) : ERow w' B v l := by
  obtain ⟨g, cap, rfl, h1, cur, h2⟩ := h
  have hne : some g ≠ row := fun e => hr g cur e.symm h2
  exact ⟨g, cap, rfl, h1.kept hg (.inr (fun e => hne e)), cur, (hg.block g (lt_of_block h2) hne).trans h2⟩
end Go.Proofs.Ytcdfojfafnecdaa
