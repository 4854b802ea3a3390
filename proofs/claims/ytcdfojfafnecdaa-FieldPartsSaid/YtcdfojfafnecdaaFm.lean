/- field.Build's first pass, plain: what it holds at each floor. No conditions. -/
import Derived.Test.YtcdfojfafnecdaaFk
import Derived.Laws.MakeOwn
namespace Go.Proofs.Ytcdfojfafnecdaa
open Go Go.RowKit Go.Sx Go.Mp
/-- The floors that have come, ahead of the floor (col, k). -/
def proc (len : Nat → Nat) (col k : Nat) (s : Nat × Nat) : Bool := decide (s.1 < col ∧ s.2 < len s.1) || decide (s.1 = col ∧ s.2 < k)
theorem proc_succ {len : Nat → Nat} {col k : Nat} (s : Nat × Nat) : proc len col (k + 1) s = (proc len col k s || decide (s = (col, k))) := by
  obtain ⟨i, j⟩ := s
  unfold proc
  rw [Bool.eq_iff_iff]
  simp only [Bool.or_eq_true, decide_eq_true_eq, Prod.mk.injEq]
  constructor
  · rintro (h | ⟨h1, h2⟩)
    · exact .inl (.inl h)
    · by_cases h3 : j = k
      · exact .inr ⟨h1, h3⟩
      · exact .inl (.inr ⟨h1, by omega⟩)
  · rintro ((h | ⟨h1, h2⟩) | ⟨h1, h2⟩)
    · exact .inl h
    · exact .inr ⟨h1, by omega⟩
    · exact .inr ⟨h1, by omega⟩
theorem proc_row {len : Nat → Nat} {col : Nat} (s : Nat × Nat) : proc len col (len col) s = proc len (col + 1) 0 s := by
  obtain ⟨i, j⟩ := s
  unfold proc
  rw [Bool.eq_iff_iff]
  simp only [Bool.or_eq_true, decide_eq_true_eq]
  constructor
  · rintro (⟨h1, h2⟩ | ⟨h1, h2⟩)
    · exact .inl ⟨by omega, h2⟩
    · exact .inl ⟨by omega, by rw [h1]; exact h2⟩
  · rintro (⟨h1, h2⟩ | ⟨_, h2⟩)
    · by_cases h3 : i = col
      · exact .inr ⟨h3, by rw [← h3]; exact h2⟩
      · exact .inl ⟨by omega, h2⟩
    · omega
theorem proc_start {len : Nat → Nat} (s : Nat × Nat) : proc len 0 0 s = false := by simp [proc]
theorem proc_all {n : Nat} {len : Nat → Nat} {s : Nat × Nat} : proc len n 0 s = true ↔ InG n len s := by
  unfold proc InG
  simp
theorem proc_here {len : Nat → Nat} {col k : Nat} : proc len col k (col, k) = false := by simp [proc]
theorem proc_past {len : Nat → Nat} {col j : Nat} : proc len col 0 (col, j) = false := by simp [proc]
section
variable {N : Nat × Nat → Option (List (Nat × Nat))} {len : Nat → Nat} {cp : Int} {col k : Nat} {nr ar : List ((Nat × Nat) × Value)}
/-- The first pass's numbers. -/
def f1 (N : Nat × Nat → Option (List (Nat × Nat))) (len : Nat → Nat) (cp : Int) (col k : Nat) (i j : Nat) : Int := if (proc len col k (i, j) && (N (i, j)).isSome) = true then cp else 0
/-- The first pass's maps. -/
structure P1 (N : Nat × Nat → Option (List (Nat × Nat))) (len : Nat → Nat) (col k : Nat) (nr ar : List ((Nat × Nat) × Value)) : Prop where
  near : ∀ s, lookM nr s = if (proc len col k s && (N s).isNone) = true then some (.int .i64 0) else none
  around : ∀ s, (lookM ar s).isSome = (proc len col k s && (N s).isSome)
theorem P1.start : P1 N len 0 0 [] [] := ⟨fun s => by rw [proc_start]; rfl, fun s => by rw [proc_start]; rfl⟩
theorem P1.next (h : P1 N len col (len col) nr ar) : P1 N len (col + 1) 0 nr ar := ⟨fun s => by rw [← proc_row]; exact h.near s, fun s => by rw [← proc_row]; exact h.around s⟩
theorem f1_next (i j : Nat) : f1 N len cp col (len col) i j = f1 N len cp (col + 1) 0 i j := by unfold f1; rw [proc_row]
theorem P1.no (h : P1 N len col k nr ar) (hN : N (col, k) = none) : P1 N len col (k + 1) (updM nr (col, k) (.int .i64 0)) ar := by
  refine ⟨fun s => ?_, fun s => ?_⟩
  · rw [look_upd, h.near s, proc_succ]
    by_cases hs : s = (col, k)
    · subst hs
      simp [hN]
    · simp [hs]
  · rw [h.around s, proc_succ]
    by_cases hs : s = (col, k)
    · subst hs
      simp [hN]
    · simp [hs]
theorem f1_no (hN : N (col, k) = none) (i j : Nat) : f1 N len cp col k i j = f1 N len cp col (k + 1) i j := by
  unfold f1
  rw [proc_succ]
  by_cases hs : (i, j) = (col, k)
  · rw [hs, hN]
    simp
  · simp [hs]
theorem P1.yes (h : P1 N len col k nr ar) {l : List (Nat × Nat)} (hN : N (col, k) = some l) (v : Value) : P1 N len col (k + 1) nr (updM ar (col, k) v) := by
  refine ⟨fun s => ?_, fun s => ?_⟩
  · rw [h.near s, proc_succ]
    by_cases hs : s = (col, k)
    · subst hs
      simp [hN]
    · simp [hs]
  · rw [look_upd, proc_succ]
    by_cases hs : s = (col, k)
    · subst hs
      simp [hN]
    · simp [hs, h.around s]
theorem f1_yes {l : List (Nat × Nat)} (hN : N (col, k) = some l) (i j : Nat) : (if i = col ∧ j = k then cp else f1 N len cp col k i j) = f1 N len cp col (k + 1) i j := by
  unfold f1
  rw [proc_succ]
  by_cases hs : i = col ∧ j = k
  · obtain ⟨rfl, rfl⟩ := hs
    simp [hN]
  · have : ¬ (i, j) = (col, k) := fun e => hs (by injection e with e1 e2; exact ⟨e1, e2⟩)
    simp [hs, this]
/-- A new row of nothing. -/
theorem f1_push (i j : Nat) : (if i = col then (fun _ => (0 : Int)) else f1 N len cp col 0 i) j = f1 N len cp col 0 i j := by
  by_cases hi : i = col
  · subst hi
    rw [if_pos rfl]
    unfold f1
    rw [proc_past]
    rfl
  · rw [if_neg hi]
end
theorem made_rep (n : Nat) (z : Value) : madeCells #[z] n = (List.replicate n z).toArray := by
  have := toList_madeCells_one z n
  rw [← this]
theorem made_hd (n : Nat) (bl len : Nat → Nat) : madeCells #[.slice none 0 0] n = (outHd n 0 bl len).toArray := by
  rw [made_rep]
  congr 1
  unfold outHd
  simp [List.map_const']
theorem made_row (n : Nat) : madeCells #[.int .i64 0] n = (intRow n (fun _ => 0)).toArray := by
  rw [made_rep]
  congr 1
  unfold intRow
  simp [List.map_const']
theorem FS.ext {w0 w : World} {Bw T9 M9 T10 M10 O : Nat} {wv : Array Value} {n m : Nat} {bl len : Nat → Nat} {f g : Nat → Nat → Int} {N : Nat × Nat → Option (List (Nat × Nat))} {nr ar : List ((Nat × Nat) × Value)} (h : FS w0 w Bw T9 M9 T10 M10 O wv n m bl len f N nr ar) (hfg : ∀ i k, i < m → k < len i → f i k = g i k) : FS w0 w Bw T9 M9 T10 M10 O wv n m bl len g N nr ar :=
  ⟨h.low, h.bw, h.t9, h.t10, h.near, h.around, h.ne, h.out.ext hfg, h.rows, h.lo⟩
section
variable {N : Nat × Nat → Option (List (Nat × Nat))} {len : Nat → Nat} {n q : Nat} {nr ar : List ((Nat × Nat) × Value)}
/-- What is known behind q rounds, in the map. -/
def P2 (N : Nat × Nat → Option (List (Nat × Nat))) (n : Nat) (len : Nat → Nat) (q : Nat) (nr : List ((Nat × Nat) × Value)) : Prop := ∀ s, lookM nr s = (vn N n len q s).map fun x => .int .i64 x
noncomputable def f2 (N : Nat × Nat → Option (List (Nat × Nat))) (n : Nat) (len : Nat → Nat) (cp q : Nat) (i j : Nat) : Int := ((vn N n len q (i, j)).getD cp : Nat)
theorem P1.second (h : P1 N len n 0 nr ar) : P2 N n len 0 nr := fun s => by
  rw [h.near s]
  unfold vn
  by_cases hs : InG n len s
  · rw [proc_all.2 hs]
    cases hN : N s with
    | none => simp [hs, kn, cl, hN]
    | some l => simp [kn, hN]
  · have : proc len n 0 s = false := by
      cases h' : proc len n 0 s with
      | false => rfl
      | true => exact absurd (proc_all.1 h') hs
    simp [this, hs]
theorem P1.keys (h : P1 N len n 0 nr ar) {s : Nat × Nat} {v : Value} (hs : lookM ar s = some v) : InG n len s := by
  have := h.around s
  rw [hs] at this
  simp only [Option.isSome_some] at this
  exact proc_all.1 (Bool.and_eq_true _ _ ▸ this.symm).1
theorem P1.has (h : P1 N len n 0 nr ar) {s : Nat × Nat} (hs : InG n len s) {l : List (Nat × Nat)} (hN : N s = some l) : ∃ v, lookM ar s = some v := by
  have := h.around s
  rw [proc_all.2 hs, hN] at this
  exact Option.isSome_iff_exists.1 this
theorem f1_second {cp i j : Nat} (hi : i < n) (hj : j < len i) : f1 N len cp n 0 i j = f2 N n len cp 0 i j := by
  have hs : InG n len (i, j) := ⟨hi, hj⟩
  unfold f1 f2 vn
  rw [proc_all.2 hs]
  cases hN : N (i, j) with
  | none => simp [hs, kn, cl, hN]
  | some l => simp [kn, hN]
theorem P2.known (h : P2 N n len q nr) {s : Nat × Nat} (hs : InG n len s) : (lookM nr s).isSome = kn N q s := by
  rw [h s]
  unfold vn
  cases hk : kn N q s with
  | true => simp [hs]
  | false => simp
theorem P2.any (h : P2 N n len q nr) : ∀ {l : List (Nat × Nat)}, (∀ t ∈ l, InG n len t) → (l.any fun t => (lookM nr t).isSome) = l.any (kn N q)
  | [], _ => rfl
  | t :: l, hl => by rw [List.any_cons, List.any_cons, h.known (hl t (by simp)), P2.any h (fun t ht => hl t (by simp [ht]))]
/-- The last. -/
theorem f2_last {cp i j : Nat} (hi : i < n) (hj : j < len i) (hcp : 0 < cp) : f2 N n len cp (cp - 1) i j = (cl N cp (i, j) : Nat) := by
  have hs : InG n len (i, j) := ⟨hi, hj⟩
  unfold f2 vn
  cases hk : kn N (cp - 1) (i, j) with
  | true => simp [hs, cl_known (show cp - 1 ≤ cp by omega) hk]
  | false =>
    have := cl_not hk
    rw [show cp - 1 + 1 = cp by omega] at this
    simp [this]
/-- Nothing new: the last. -/
theorem f2_stop {cp i j : Nat} (hG : ∀ s l, InG n len s → N s = some l → ∀ t ∈ l, InG n len t) (h : ∀ s, InG n len s → kn N (q + 1) s = kn N q s) (hi : i < n) (hj : j < len i) (hq : q + 1 ≤ cp) : f2 N n len cp q i j = (cl N cp (i, j) : Nat) := by
  have hs : InG n len (i, j) := ⟨hi, hj⟩
  rw [← f2_last hi hj (by omega)]
  have hk := kn_stop hG h (cp - 1 - q) (i, j) hs
  rw [show q + (cp - 1 - q) = cp - 1 by omega] at hk
  unfold f2 vn
  cases hk' : kn N q (i, j) with
  | true => simp [hs, hk, hk', cl_known (show q ≤ cp - 1 by omega) hk']
  | false => simp [hk, hk']
/-- In a round's second half: those of L are known by now. -/
noncomputable def vl (N : Nat × Nat → Option (List (Nat × Nat))) (n : Nat) (len : Nat → Nat) (q : Nat) (L : List (Nat × Nat)) (s : Nat × Nat) : Option Nat := if s ∈ L then some (q + 1) else vn N n len q s
def PL (N : Nat × Nat → Option (List (Nat × Nat))) (n : Nat) (len : Nat → Nat) (q : Nat) (L : List (Nat × Nat)) (nr : List ((Nat × Nat) × Value)) : Prop := ∀ s, lookM nr s = (vl N n len q L s).map fun x => .int .i64 x
noncomputable def fl (N : Nat × Nat → Option (List (Nat × Nat))) (n : Nat) (len : Nat → Nat) (cp q : Nat) (L : List (Nat × Nat)) (i j : Nat) : Int := ((vl N n len q L (i, j)).getD cp : Nat)
theorem PL.start (h : P2 N n len q nr) : PL N n len q [] nr := fun s => by rw [h s]; unfold vl; simp
theorem fl_start {cp i j : Nat} : f2 N n len cp q i j = fl N n len cp q [] i j := by unfold fl f2 vl; simp
theorem PL.step {L : List (Nat × Nat)} {t : Nat × Nat} (h : PL N n len q L nr) : PL N n len q (L ++ [t]) (updM nr t (.int .i64 ((q : Int) + 1))) := fun s => by
  rw [look_upd, h s]
  unfold vl
  by_cases hs : s = t
  · subst hs; simp
  · simp [hs]
theorem fl_step {L : List (Nat × Nat)} {t : Nat × Nat} {cp i j : Nat} : (if i = t.1 ∧ j = t.2 then ((q : Int) + 1) else fl N n len cp q L i j) = fl N n len cp q (L ++ [t]) i j := by
  unfold fl vl
  obtain ⟨t1, t2⟩ := t
  by_cases hs : i = t1 ∧ j = t2
  · obtain ⟨rfl, rfl⟩ := hs; simp
  · have : ¬ (i, j) = (t1, t2) := fun e => hs (by injection e with e1 e2; exact ⟨e1, e2⟩)
    simp [hs, this]
theorem vl_end {L : List (Nat × Nat)} (hL : ∀ s, s ∈ L ↔ InG n len s ∧ kn N (q + 1) s = true ∧ kn N q s = false) (s : Nat × Nat) : vl N n len q L s = vn N n len (q + 1) s := by
  unfold vl vn
  by_cases hs : InG n len s
  · cases h0 : kn N q s with
    | true =>
      have : ¬ s ∈ L := fun h => by have := ((hL s).1 h).2.2; rw [h0] at this; cases this
      simp [this, hs, kn_succ h0, cl_known (Nat.le_succ q) h0]
    | false =>
      cases h1 : kn N (q + 1) s with
      | true => simp [(hL s).2 ⟨hs, h1, h0⟩, hs, cl_not h0]
      | false =>
        have : ¬ s ∈ L := fun h => by have := ((hL s).1 h).2.1; rw [h1] at this; cases this
        simp [this]
  · have : ¬ s ∈ L := fun h => hs ((hL s).1 h).1
    simp [this, hs]
theorem PL.done {L : List (Nat × Nat)} (hL : ∀ s, s ∈ L ↔ InG n len s ∧ kn N (q + 1) s = true ∧ kn N q s = false) (h : PL N n len q L nr) : P2 N n len (q + 1) nr := fun s => by rw [h s, vl_end hL s]
theorem fl_done {L : List (Nat × Nat)} {cp i j : Nat} (hL : ∀ s, s ∈ L ↔ InG n len s ∧ kn N (q + 1) s = true ∧ kn N q s = false) : fl N n len cp q L i j = f2 N n len cp (q + 1) i j := by unfold fl f2; rw [vl_end hL]
end
/-- How many keys there are at most. -/
theorem keys_le {n : Nat} {len : Nat → Nat} {ar : List ((Nat × Nat) × Value)} (hn : (ar.map (·.1)).Nodup) (h8 : ∀ i, len i ≤ 8) (h : ∀ p ∈ ar, InG n len p.1) : ar.length ≤ n * 8 := by
  have hs : ar.map (·.1) ⊆ (List.range (n * 8)).map fun x => (x / 8, x % 8) := fun k hk => by
    obtain ⟨p, hp, rfl⟩ := List.mem_map.1 hk
    have h1 := h p hp
    have h2 := h8 p.1.1
    refine List.mem_map.2 ⟨p.1.1 * 8 + p.1.2, List.mem_range.2 ?_, ?_⟩
    · have := h1.1; have := h1.2; omega
    · have := h1.2
      exact Prod.ext (by show (p.1.1 * 8 + p.1.2) / 8 = p.1.1; omega) (by show (p.1.1 * 8 + p.1.2) % 8 = p.1.2; omega)
  have := len_of_sub hn hs
  simpa using this
/-- As it begins. -/
theorem FS.new {w3 u1 u2 u3 u4 u5 u6 : World} {wv : Array Value} {n : Nat} (len : Nat → Nat) (N : Nat × Nat → Option (List (Nat × Nat))) (f : Nat → Nat → Int) (b1 : Below w3.heap.size w3 u1) (k1 : u1.heap[w3.heap.size]? = some (.cells wv 63 (0, 0)))
    (e2 : u1.alloc (.map #[] 0) = u2) (b3 : Below u2.heap.size u2 u3) (k3 : u3.heap[u2.heap.size]? = some (.cells #[.map (some u1.heap.size)] 64 (0, 0)))
    (e4 : u3.alloc (.map #[] 0) = u4) (b5 : Below u4.heap.size u4 u5) (k5 : u5.heap[u4.heap.size]? = some (.cells #[.map (some u3.heap.size)] 65 (0, 0)))
    (b6 : Below u5.heap.size u5 u6) (k6 : u6.heap[u5.heap.size]? = some (.cells (madeCells #[.slice none 0 0] n) 46 (0, 0))) (l1 : w3.heap.size < u1.heap.size) (l3 : u2.heap.size < u3.heap.size) (l5 : u4.heap.size < u5.heap.size) :
    FS w3 u6 w3.heap.size u2.heap.size u1.heap.size u4.heap.size u3.heap.size u5.heap.size wv n 0 (fun _ => 0) len f N [] [] := by
  have m2 : MapAt spv u2 u1.heap.size [] := by rw [← e2]; exact MapAt.made u1
  have m4 : MapAt spv u4 u3.heap.size [] := by rw [← e4]; exact MapAt.made u3
  have b2 : Below u1.heap.size u1 u2 := by rw [← e2]; exact (Below.refl _ _).alloc (Nat.le_refl _) _
  have b4 : Below u3.heap.size u3 u4 := by rw [← e4]; exact (Below.refl _ _).alloc (Nat.le_refl _) _
  have c5 : Below u4.heap.size u4 u6 := b5.trans (b6.mono b5.size)
  have c4 : Below u3.heap.size u3 u6 := b4.trans (c5.mono b4.size)
  have c3 : Below u2.heap.size u2 u6 := b3.trans (c4.mono b3.size)
  have c2 : Below u1.heap.size u1 u6 := b2.trans (c3.mono b2.size)
  have s2 : u1.heap.size < u2.heap.size := m2.lt
  have s4 : u3.heap.size < u4.heap.size := m4.lt
  refine ⟨b1.trans (c2.mono b1.size), (c2.block _ l1).trans k1, (c4.block _ l3).trans k3, (b6.block _ l5).trans k5, m2.of_block (c3.block _ s2), m4.of_block (c5.block _ s4), by omega, ⟨?_, fun i hi => by omega, fun i j hi => by omega, by omega, fun i hi => by omega⟩, fun s v hv => (by cases hv), ⟨Nat.le_refl _, by omega, by omega, by omega, by omega⟩⟩
  rw [k6, made_hd n (fun _ => 0) len]
end Go.Proofs.Ytcdfojfafnecdaa
