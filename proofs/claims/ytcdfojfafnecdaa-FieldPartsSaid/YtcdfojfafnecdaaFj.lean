/- What field.Build keeps in memory, as one; how its operations turn it. No conditions. -/
import Derived.Test.YtcdfojfafnecdaaFi
namespace Go.Proofs.Ytcdfojfafnecdaa
open Go Go.RowKit Go.Sx Go.Mp
/-- What field.Build keeps: its world's box, the maps in their boxes, the rows. -/
structure FS (w0 w : World) (Bw T9 M9 T10 M10 O : Nat) (wv : Array Value) (n m : Nat) (bl len : Nat → Nat) (f : Nat → Nat → Int) (N : Nat × Nat → Option (List (Nat × Nat))) (nr ar : List ((Nat × Nat) × Value)) : Prop where
  low : Below w0.heap.size w0 w
  bw : w.heap[Bw]? = some (.cells wv 63 (0, 0))
  t9 : w.heap[T9]? = some (.cells #[.map (some M9)] 64 (0, 0))
  t10 : w.heap[T10]? = some (.cells #[.map (some M10)] 65 (0, 0))
  near : MapAt spv w M9 nr
  around : MapAt spv w M10 ar
  ne : M9 ≠ M10
  out : OutS w w0.heap.size O n m bl len f
  rows : ∀ s v, lookM ar s = some v → ∃ l, N s = some l ∧ ERow w w0.heap.size v l
  lo : w0.heap.size ≤ Bw ∧ w0.heap.size ≤ T9 ∧ w0.heap.size ≤ M9 ∧ w0.heap.size ≤ T10 ∧ w0.heap.size ≤ M10
section
variable {w0 w w' : World} {Bw T9 M9 T10 M10 O : Nat} {wv : Array Value} {n m : Nat} {bl len : Nat → Nat} {f : Nat → Nat → Int} {N : Nat × Nat → Option (List (Nat × Nat))} {nr ar : List ((Nat × Nat) × Value)}
theorem blk_ne {b b' : Nat} {o o' : Obj} (h : w.heap[b]? = some o) (h' : w.heap[b']? = some o') (hne : o ≠ o') : b ≠ b' := fun e => hne (by rw [e, h'] at h; injection h with h; exact h.symm)
theorem mapBlk {b : Nat} {mm : List ((Nat × Nat) × Value)} (h : MapAt spv w b mm) : ∃ es c, w.heap[b]? = some (.map es c) := by
  obtain ⟨es, c, h1, _⟩ := h
  exact ⟨es, c, h1⟩
theorem FS.below (h : FS w0 w Bw T9 M9 T10 M10 O wv n m bl len f N nr ar) (hb : Below w.heap.size w w') : FS w0 w' Bw T9 M9 T10 M10 O wv n m bl len f N nr ar where
  low := h.low.trans (hb.mono h.low.size)
  bw := (hb.block _ (lt_of_block h.bw)).trans h.bw
  t9 := (hb.block _ (lt_of_block h.t9)).trans h.t9
  t10 := (hb.block _ (lt_of_block h.t10)).trans h.t10
  near := h.near.of_block (hb.block _ h.near.lt)
  around := h.around.of_block (hb.block _ h.around.lt)
  ne := h.ne
  out := h.out.of_blocks (hb.block _ (lt_of_block h.out.hd)) (fun i hi => hb.block _ (lt_of_block (h.out.row i hi)))
  rows := fun s v hv => by
    obtain ⟨l, h1, h2⟩ := h.rows s v hv
    exact ⟨l, h1, h2.kept (row := none) ⟨hb.os, hb.tape, hb.output, hb.size, fun j hj _ => hb.block j hj⟩ (fun b cur e => by cases e)⟩
  lo := h.lo
/-- A block turns: all that lies elsewhere stays. -/
theorem FS.near_upd (h : FS w0 w Bw T9 M9 T10 M10 O wv n m bl len f N nr ar) {nr' : List ((Nat × Nat) × Value)} (hm : MapAt spv w' M9 nr') (hg : w.grownBy w' (some M9)) : FS w0 w' Bw T9 M9 T10 M10 O wv n m bl len f N nr' ar := by
  obtain ⟨es, c, hk⟩ := mapBlk h.near
  have hne : ∀ {b : Nat} {o : Obj}, w.heap[b]? = some o → o ≠ .map es c → w'.heap[b]? = w.heap[b]? := fun {b o} hb ho => hg.block b (lt_of_block hb) (fun e => by injection e with e; exact blk_ne hb hk ho e)
  refine ⟨h.low.grown hg h.low.size (fun q e => by injection e with e; subst e; exact h.lo.2.2.1), (hne h.bw (by simp)).trans h.bw, (hne h.t9 (by simp)).trans h.t9, (hne h.t10 (by simp)).trans h.t10, hm, h.around.of_block (hg.block _ h.around.lt (fun e => by injection e with e; exact h.ne e.symm)), h.ne, ?_, ?_, h.lo⟩
  · exact h.out.of_blocks (hne h.out.hd (by simp)) (fun i hi => hne (h.out.row i hi) (by simp))
  · intro s v hv
    obtain ⟨l, h1, h2⟩ := h.rows s v hv
    exact ⟨l, h1, h2.kept hg (fun b cur e => by injection e with e; subst e; rw [hk]; simp)⟩
theorem FS.around_upd (h : FS w0 w Bw T9 M9 T10 M10 O wv n m bl len f N nr ar) {k : Nat × Nat} {v : Value} {l : List (Nat × Nat)} (hm : MapAt spv w' M10 (updM ar k v)) (hg : w.grownBy w' (some M10)) (hN : N k = some l) (he : ERow w w0.heap.size v l) : FS w0 w' Bw T9 M9 T10 M10 O wv n m bl len f N nr (updM ar k v) := by
  obtain ⟨es, c, hk⟩ := mapBlk h.around
  have hne : ∀ {b : Nat} {o : Obj}, w.heap[b]? = some o → o ≠ .map es c → w'.heap[b]? = w.heap[b]? := fun {b o} hb ho => hg.block b (lt_of_block hb) (fun e => by injection e with e; exact blk_ne hb hk ho e)
  refine ⟨h.low.grown hg h.low.size (fun q e => by injection e with e; subst e; exact h.lo.2.2.2.2), (hne h.bw (by simp)).trans h.bw, (hne h.t9 (by simp)).trans h.t9, (hne h.t10 (by simp)).trans h.t10, h.near.of_block (hg.block _ h.near.lt (fun e => by injection e with e; exact h.ne e)), hm, h.ne, ?_, ?_, h.lo⟩
  · exact h.out.of_blocks (hne h.out.hd (by simp)) (fun i hi => hne (h.out.row i hi) (by simp))
  · intro s v' hv
    rw [look_upd] at hv
    have hkp : ∀ {u : Value} {l' : List (Nat × Nat)}, ERow w w0.heap.size u l' → ERow w' w0.heap.size u l' := fun {u l'} h2 => h2.kept hg (fun b cur e => by injection e with e; subst e; rw [hk]; simp)
    by_cases hs : s = k
    · rw [if_pos hs] at hv
      injection hv with hv
      subst hv; subst hs
      exact ⟨l, hN, hkp he⟩
    · rw [if_neg hs] at hv
      obtain ⟨l', h1, h2⟩ := h.rows s v' hv
      exact ⟨l', h1, hkp h2⟩
theorem FS.set (h : FS w0 w Bw T9 M9 T10 M10 O wv n m bl len f N nr ar) {i : Nat} (hi : i < m) (k : Nat) (x : Int) : FS w0 (w.setCell ⟨bl i, k, none⟩ (.int .i64 x)) Bw T9 M9 T10 M10 O wv n m bl len (fun i' k' => if i' = i ∧ k' = k then x else f i' k') N nr ar := by
  have hk := h.out.row i hi
  have hg := grownBy_set w (bl i) k (.int .i64 x)
  obtain ⟨es9, c9, h9⟩ := mapBlk h.near
  obtain ⟨es10, c10, h10⟩ := mapBlk h.around
  have hne : ∀ {b : Nat} {o : Obj}, w.heap[b]? = some o → o ≠ .cells (intRow (len i) (f i)).toArray 3 (0, 0) → (w.setCell ⟨bl i, k, none⟩ (.int .i64 x)).heap[b]? = w.heap[b]? := fun {b o} hb ho => hg.block b (lt_of_block hb) (fun e => by injection e with e; exact blk_ne hb hk ho e)
  refine ⟨h.low.grown hg h.low.size (fun q e => by injection e with e; subst e; exact h.out.lor i hi), (hne h.bw (by simp)).trans h.bw, (hne h.t9 (by simp)).trans h.t9, (hne h.t10 (by simp)).trans h.t10, h.near.of_block (hne h9 (by simp)), h.around.of_block (hne h10 (by simp)), h.ne, h.out.set hi k x, ?_, h.lo⟩
  intro s v hv
  obtain ⟨l, h1, h2⟩ := h.rows s v hv
  exact ⟨l, h1, h2.kept hg (fun b cur e => by injection e with e; subst e; rw [hk]; simp)⟩
theorem FS.push (h : FS w0 w Bw T9 M9 T10 M10 O wv n m bl len f N nr ar) (hm : m < n) {b : Nat} {g : Nat → Int} (hB : w0.heap.size ≤ b) (hb : w.heap[b]? = some (.cells (intRow (len m) g).toArray 3 (0, 0))) (hn : ∀ i, i < m → bl i ≠ b) :
    FS w0 (w.setCell ⟨O, m, none⟩ (.slice (some ⟨b, 0, none⟩) (len m) (len m))) Bw T9 M9 T10 M10 O wv n (m + 1) (fun i => if i = m then b else bl i) len (fun i => if i = m then g else f i) N nr ar := by
  have hk := h.out.hd
  have hg := grownBy_set w O m (.slice (some ⟨b, 0, none⟩) (len m) (len m))
  obtain ⟨es9, c9, h9⟩ := mapBlk h.near
  obtain ⟨es10, c10, h10⟩ := mapBlk h.around
  have hne : ∀ {b' : Nat} {o : Obj}, w.heap[b']? = some o → o ≠ .cells (outHd n m bl len).toArray 46 (0, 0) → (w.setCell ⟨O, m, none⟩ (.slice (some ⟨b, 0, none⟩) (len m) (len m))).heap[b']? = w.heap[b']? := fun {b' o} hb' ho => hg.block b' (lt_of_block hb') (fun e => by injection e with e; exact blk_ne hb' hk ho e)
  refine ⟨h.low.grown hg h.low.size (fun q e => by injection e with e; subst e; exact h.out.lo), (hne h.bw (by simp)).trans h.bw, (hne h.t9 (by simp)).trans h.t9, (hne h.t10 (by simp)).trans h.t10, h.near.of_block (hne h9 (by simp)), h.around.of_block (hne h10 (by simp)), h.ne, h.out.push hm hB hb hn, ?_, h.lo⟩
  intro s v hv
  obtain ⟨l, h1, h2⟩ := h.rows s v hv
  exact ⟨l, h1, h2.kept hg (fun b' cur e => by injection e with e; subst e; rw [hk]; simp)⟩
theorem FS.nearAt (h : FS w0 w Bw T9 M9 T10 M10 O wv n m bl len f N nr ar) : NearAt w T9 M9 nr := ⟨cell_of h.t9 rfl, h.near, lt_of_block h.t9⟩
theorem FS.aroundAt (h : FS w0 w Bw T9 M9 T10 M10 O wv n m bl len f N nr ar) : NearAt w T10 M10 ar := ⟨cell_of h.t10 rfl, h.around, lt_of_block h.t10⟩
/-- A row of spots of the call's own stays, whatever is written into maps and rows of ints. -/
theorem spots_kept {B : Nat} {v : Value} {q : Nat} {xs : List Value} {b : Nat} {o : Obj} (h : w.ownsRow B 67 2 v q xs) (hg : w.grownBy w' (some b)) (hb : w.heap[b]? = some o) (ho : ∀ cur, o ≠ .cells cur 67 (0, 0)) : w'.ownsRow B 67 2 v q xs := by
  refine h.kept hg ?_
  rcases h.2 with ⟨rfl, _⟩ | ⟨g, cap, cur, rfl, _, hgb, _⟩
  · exact .inl rfl
  · refine .inr (fun e => ?_)
    have e : g = b := Option.some.inj e
    rw [← e, hgb] at hb
    injection hb with hb
    exact ho _ hb.symm
end
end Go.Proofs.Ytcdfojfafnecdaa
