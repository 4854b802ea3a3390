/- Words for walks: cells of blocks, frames, rows of one's own. No conditions. -/
import Derived.Test.YtpbpbijjkmjjjaaRh
namespace Go.Proofs.Ytpbpbijjkmjjjaa
open Go Go.RowKit Go.Sx
theorem cell_of {w : World} {b j : Nat} {c : Array Value} {T : TypeId} {z : Nat × Nat} {v : Value} (h : w.heap[b]? = some (.cells c T z)) (hj : c[j]? = some v) : w.cell? ⟨b, j, none⟩ = some v := by simp [World.cell?, h, hj]
theorem two_alloc (w : World) (o o' : Obj) : ((w.alloc o).alloc o').heap[w.heap.size]? = some o :=
  (((Below.refl (w.alloc o).heap.size (w.alloc o)).alloc (Nat.le_refl _) o').block w.heap.size (by simp)).trans (World.alloc_heap_new w o)
theorem alloc2_new (w : World) (o o' : Obj) : ((w.alloc o).alloc o').heap[w.heap.size + 1]? = some o' := by
  have := World.alloc_heap_new (w.alloc o) o'
  simpa using this
/-- What cells hold. -/
def CellsL : List (Addr × Value) → World → Prop
  | [], _ => True
  | (p, v) :: r, w => w.cell? p = some v ∧ CellsL r w
def LtL : List (Addr × Value) → Nat → Prop
  | [], _ => True
  | (p, _) :: r, n => p.block < n ∧ LtL r n
theorem LtL.mono {n m : Nat} (h : n ≤ m) : ∀ {L : List (Addr × Value)}, LtL L n → LtL L m
  | [], _ => trivial
  | _ :: _, h' => ⟨Nat.lt_of_lt_of_le h'.1 h, LtL.mono h h'.2⟩
theorem CellsL.keep {n : Nat} {w w' : World} (hb : Below n w w') : ∀ {L : List (Addr × Value)}, CellsL L w → LtL L n → CellsL L w'
  | [], _, _ => trivial
  | _ :: _, h, hl => ⟨(hb.cell hl.1).trans h.1, CellsL.keep hb h.2 hl.2⟩
/-- Nothing has turned but in the blocks F, and new ones. -/
structure Fr (F : Nat → Prop) (w w' : World) : Prop where
  os : w'.os = w.os
  tape : w'.tape = w.tape
  output : w'.output = w.output
  size : w.heap.size ≤ w'.heap.size
  block : ∀ k, k < w.heap.size → ¬ F k → w'.heap[k]? = w.heap[k]?
theorem Fr.refl (F : Nat → Prop) (w : World) : Fr F w w := ⟨rfl, rfl, rfl, Nat.le_refl _, fun _ _ _ => rfl⟩
theorem Fr.trans {F F' : Nat → Prop} {w w' w'' : World} (h : Fr F w w') (h' : Fr F' w' w'') (hF : ∀ k, k < w.heap.size → F' k → F k) : Fr F w w'' :=
  ⟨h'.os.trans h.os, h'.tape.trans h.tape, h'.output.trans h.output, Nat.le_trans h.size h'.size, fun k hk hn => (h'.block k (Nat.lt_of_lt_of_le hk h.size) (fun hf => hn (hF k hk hf))).trans (h.block k hk hn)⟩
theorem Fr.below {F : Nat → Prop} {w w' w'' : World} (h : Fr F w w') (hb : Below w'.heap.size w' w'') : Fr F w w'' :=
  h.trans (F' := fun _ => False) ⟨hb.os, hb.tape, hb.output, hb.size, fun k hk _ => hb.block k hk⟩ (fun _ _ h => h.elim)
theorem Fr.drew {F : Nat → Prop} {w w' : World} (h : Fr F w w') : Fr F w w'.drew := ⟨h.os, h.tape, h.output, h.size, h.block⟩
theorem Fr.alloc {F : Nat → Prop} {w w' : World} (h : Fr F w w') (o : Obj) : Fr F w (w'.alloc o) := h.below ((Below.refl _ _).alloc (Nat.le_refl _) o)
theorem Fr.grown {F : Nat → Prop} {w w' w'' : World} {row : Option Nat} (h : Fr F w w') (hg : w'.grownBy w'' row) (hr : ∀ k, row = some k → k < w.heap.size → F k) : Fr F w w'' :=
  h.trans (F' := fun k => row = some k) ⟨hg.os, hg.tape, hg.output, hg.size, fun k hk hn => hg.block k hk (fun e => hn e.symm)⟩ (fun k hk hf => hr k hf hk)
theorem grownBy_set (w : World) (b k : Nat) (v : Value) : w.grownBy (w.setCell ⟨b, k, none⟩ v) (some b) :=
  ⟨rfl, rfl, rfl, by simp [World.setCell], fun j _ hne => by
    unfold World.setCell
    simp only [Array.getElem?_modify]
    rw [if_neg (fun e => hne (by rw [e]))]⟩
theorem Fr.set {F : Nat → Prop} {w w' : World} (h : Fr F w w') {b k : Nat} (v : Value) (hb : b < w.heap.size → F b) : Fr F w (w'.setCell ⟨b, k, none⟩ v) :=
  h.grown (grownBy_set _ _ _ _) (fun j hj hk => by injection hj with hj; subst hj; exact hb hk)
theorem Fr.cell {F : Nat → Prop} {w w' : World} (h : Fr F w w') {p : Addr} (hp : p.block < w.heap.size) (hn : ¬ F p.block) : w'.cell? p = w.cell? p := World.cell?_of_block (h.block _ hp hn)
theorem lt_of_block {w : World} {b : Nat} {o : Obj} (h : w.heap[b]? = some o) : b < w.heap.size := (Array.getElem?_eq_some_iff.1 h).1
theorem Fr.keep {F : Nat → Prop} {w w' : World} (h : Fr F w w') {b : Nat} {o : Obj} (hb : w.heap[b]? = some o) (hn : ¬ F b) : w'.heap[b]? = some o := (h.block _ (lt_of_block hb) hn).trans hb
/-- A cell of a block is written. -/
theorem set_block {w : World} {b k : Nat} {c : Array Value} {T : TypeId} {z : Nat × Nat} (h : w.heap[b]? = some (.cells c T z)) (v : Value) : (w.setCell ⟨b, k, none⟩ v).heap[b]? = some (.cells (c.setIfInBounds k v) T z) := by
  unfold World.setCell
  simp only [Array.getElem?_modify, if_true, h, Option.map_some]
  rfl
theorem not_frozen {w : World} {b k : Nat} {c : Array Value} {T : TypeId} (h : w.heap[b]? = some (.cells c T (0, 0))) : w.frozen? ⟨b, k, none⟩ = false := by
  unfold World.frozen?
  simp only [h]
  simp
theorem vcs_take (l : List V3) (q : Nat) : (vcs l).take (q * 3) = vcs (l.take q) := by
  induction l generalizing q with
  | nil => simp [vcs]
  | cons v l ih =>
    cases q with
    | zero => simp [vcs]
    | succ q =>
      have e : vcs (v :: l) = .int .i64 v.x :: .int .i64 v.y :: .int .i64 v.z :: vcs l := rfl
      rw [e, show (q + 1) * 3 = q * 3 + 1 + 1 + 1 by omega]
      simp only [List.take_succ_cons, ih]
      rfl
theorem vcs_drop (l : List V3) (q : Nat) : (vcs l).drop (q * 3) = vcs (l.drop q) := by
  induction l generalizing q with
  | nil => simp [vcs]
  | cons v l ih =>
    cases q with
    | zero => simp
    | succ q =>
      have e : vcs (v :: l) = .int .i64 v.x :: .int .i64 v.y :: .int .i64 v.z :: vcs l := rfl
      rw [e, show (q + 1) * 3 = q * 3 + 1 + 1 + 1 by omega]
      simp only [List.drop_succ_cons, ih]
theorem vcs_append (l m : List V3) : vcs (l ++ m) = vcs l ++ vcs m := by simp [vcs]
theorem Fr.wide {F F' : Nat → Prop} {w w' : World} (h : Fr F w w') (hF : ∀ k, F k → F' k) : Fr F' w w' := ⟨h.os, h.tape, h.output, h.size, fun k hk hn => h.block k hk (fun hf => hn (hF k hf))⟩
theorem own_below {B : Nat} {e : TypeId} {k : Nat} {v : Value} {n : Nat} {xs : List Value} {w w' : World} (h : w.ownsRow B e k v n xs) (hb : Below w.heap.size w w') : w'.ownsRow B e k v n xs :=
  h.kept (row := none) ⟨hb.os, hb.tape, hb.output, hb.size, fun j hj _ => hb.block j hj⟩ (by cases hv : v.ownBlock <;> simp)
theorem vcs_put (l : List V3) (k : Nat) (y : V3) (hk : k < l.length) : (vcs l).take (k * 3) ++ y.cs ++ (vcs l).drop (k * 3 + y.cs.length) = vcs (l.set k y) := by
  have e : k * 3 + y.cs.length = (k + 1) * 3 := by simp [V3.cs]; omega
  rw [e, vcs_take, vcs_drop, List.set_eq_take_append_cons_drop, if_pos hk, vcs_append]
  simp [vcs]
theorem cs_one (y : V3) : ∀ u ∈ y.cs, u.oneCell' = true := by
  intro u hu
  simp only [V3.cs, List.mem_cons, List.not_mem_nil, or_false] at hu
  rcases hu with rfl | rfl | rfl <;> rfl
/-- A store of an item into a row of one's own. -/
theorem wpIn_put {P : Program} {m : Nat} {o : Oper} {a : Act} {w : World} {K : Act → World → Prop} {Q : Exit → Act → World → Prop} {T : TypeId} {inf : TypeInfo} (hinf : P.info? T = some inf) (hsz : inf.size = 3) (x y : Operand) (ho : o.op = .store T x y) {g base e n cap : Nat} {l : List V3} {k : Nat} {v : V3}
    (hx : a.eval x = .pointer (some ⟨g, k * 3, none⟩)) (hy : a.eval y = .agg #[.int .i64 v.x, .int .i64 v.y, .int .i64 v.z]) (hr : w.ownsRow base e 3 (.slice (some ⟨g, 0, none⟩) n cap) n (vcs l)) (hk : k < l.length)
    (h : ∀ w', w'.ownsRow base e 3 (.slice (some ⟨g, 0, none⟩) n cap) n (vcs (l.set k v)) → w.grownBy w' (some g) → K (a.put o.dst undef) w') : o.wpIn Fence.wide m P a w K Q := by
  have hn : l.length = n := by have := hr.1; rw [vcs_length] at this; omega
  have h3 : v.cs.length = 3 := rfl
  obtain ⟨cur, hg, hf, ho', hgr⟩ := hr.splice (off := k * 3) (cs := v.cs) (by omega)
  rw [vcs_put _ _ _ hk] at ho'
  exact wpIn_store_block x y ho hinf hx hy v.cs rfl (by rw [h3, hsz]) (cs_one v) hg hf (h _ ho' hgr)
theorem Below.grow {B : Nat} {w w' w'' : World} {row : Option Nat} (h : Below B w w') (hg : w'.grownBy w'' row) (hB : B ≤ w.heap.size) (hr : ∀ k, row = some k → B ≤ k) : Below B w w'' :=
  ⟨hg.os.trans h.os, hg.tape.trans h.tape, hg.output.trans h.output, Nat.le_trans h.size hg.size, fun k hk => (hg.block k (by have := h.size; omega) (fun e => by have := hr k e.symm; omega)).trans (h.block k hk)⟩
theorem own_row1 {w : World} {base : Nat} {e : TypeId} {v : Value} {n : Nat} {xs : List Value} (h : w.ownsRow base e 1 v n xs) : ∃ A cap, v = .slice A n cap ∧ n ≤ cap ∧ Reads w w.heap.size 1 A n xs := by
  have h' := h
  rcases h.2 with ⟨rfl, rfl⟩ | ⟨g, cap, cur, rfl, _, _, hc, _⟩
  · exact ⟨none, 0, rfl, Nat.le_refl _, Reads.of_own h'⟩
  · exact ⟨_, cap, rfl, hc, Reads.of_own h'⟩
theorem own_reads {w : World} {base : Nat} {e : TypeId} {A : Option Addr} {c n : Nat} {xs : List Value} (h : w.ownsRow base e 1 (.slice A n c) n xs) : Reads w w.heap.size 1 A n xs := Reads.of_own h
end Go.Proofs.Ytpbpbijjkmjjjaa
