/- footpathlaw12.wakes by a walk: it is true. No conditions. -/
import Derived.Test.YtbjbiimkhpfieaaAs
namespace Go.Proofs.Ytbjbiimkhpfieaa
open Go Go.RowKit Go.Sx
abbrev SW (W0 : World) (g : Nat) (R : Option Addr) (w : World) : Prop :=
  w.cell? ⟨g, 0, none⟩ = some (.int .i64 0) ∧ w.cell? ⟨g, 1, none⟩ = some (.int .i64 0) ∧ w.cell? ⟨g, 2, none⟩ = some (.int .i64 1) ∧ w.cell? ⟨g, 3, none⟩ = some (.int .i64 1) ∧ w.cell? ⟨g, 4, none⟩ = some (.slice R 1 1) ∧ g < W0.heap.size ∧ Below W0.heap.size W0 w
theorem SW.keep {W0 : World} {g : Nat} {R : Option Addr} {w w' : World} (h : SW W0 g R w) (hb : Below w.heap.size w w') : SW W0 g R w' := by
  obtain ⟨h0, h1, h2, h3, h4, h5, h6⟩ := h
  have hs := h6.size
  have e : ∀ q, w'.cell? ⟨g, q, none⟩ = w.cell? ⟨g, q, none⟩ := fun q => hb.cell (by show g < _; omega)
  exact ⟨(e _).trans h0, (e _).trans h1, (e _).trans h2, (e _).trans h3, (e _).trans h4, h5, h6.trans (hb.mono hs)⟩
theorem SW.alloc {W0 : World} {g : Nat} {R : Option Addr} {w : World} (h : SW W0 g R w) (o : Obj) : SW W0 g R (w.alloc o) := h.keep ((Below.refl _ _).alloc (Nat.le_refl _) _)
theorem SW.set {W0 : World} {g : Nat} {R : Option Addr} {w : World} (h : SW W0 g R w) {b k : Nat} (hb : W0.heap.size ≤ b) (v : Value) : SW W0 g R (w.setCell ⟨b, k, none⟩ v) := by
  obtain ⟨h0, h1, h2, h3, h4, h5, h6⟩ := h
  have hg := grownBy_setCell4 w b k v
  have hs := h6.size
  have e : ∀ q, (w.setCell ⟨b, k, none⟩ v).cell? ⟨g, q, none⟩ = w.cell? ⟨g, q, none⟩ := fun q => World.cell?_of_block (hg.block g (by omega) (by intro e; injection e with e; omega))
  exact ⟨(e _).trans h0, (e _).trans h1, (e _).trans h2, (e _).trans h3, (e _).trans h4, h5, h6.setCell (p := ⟨b, k, none⟩) hb v⟩
theorem SW.below {W0 : World} {g : Nat} {R : Option Addr} {w : World} (h : SW W0 g R w) : Below W0.heap.size W0 w := h.2.2.2.2.2.2
theorem SW.set5 {W0 : World} {g : Nat} {R : Option Addr} {w : World} (h : SW W0 g R w) {b : Nat} (hb : W0.heap.size ≤ b) (v0 v1 v2 v3 v4 : Value) : SW W0 g R (((((w.setCell ⟨b, 0, none⟩ v0).setCell ⟨b, 1, none⟩ v1).setCell ⟨b, 2, none⟩ v2).setCell ⟨b, 3, none⟩ v3).setCell ⟨b, 4, none⟩ v4) :=
  ((((h.set hb v0).set hb v1).set hb v2).set hb v3).set hb v4
theorem two_alloc (w : World) (o o' : Obj) : ((w.alloc o).alloc o').heap[w.heap.size]? = some o :=
  (((Below.refl (w.alloc o).heap.size (w.alloc o)).alloc (Nat.le_refl _) o').block w.heap.size (by simp)).trans (World.alloc_heap_new w o)
theorem alloc2_new (w : World) (o o' : Obj) : ((w.alloc o).alloc o').heap[w.heap.size + 1]? = some o' := by
  have := World.alloc_heap_new (w.alloc o) o'
  simpa using this
/-- A block that holds a grid of zeros. -/
def PZ (P : Nat) (w : World) : Prop := w.heap[P]? = some (.cells #[.int .i64 0, .int .i64 0, .int .i64 0, .int .i64 0, .slice none 0 0] 26 (0, 0))
theorem PZ.keep {P : Nat} {V w' : World} (h : PZ P V) (hb : Below V.heap.size V w') : PZ P w' := (hb.block P (Array.getElem?_eq_some_iff.1 h).1).trans h
theorem PZ.keep1 {P : Nat} {X w' : World} {o : Obj} (h : PZ P X) (hb : Below (X.alloc o).heap.size (X.alloc o) w') : PZ P w' := PZ.keep (V := X.alloc o) (PZ.keep h ((Below.refl _ _).alloc (Nat.le_refl _) o)) hb
theorem PZ.new {X w' : World} (hb : Below (X.alloc (.cells #[.int .i64 0, .int .i64 0, .int .i64 0, .int .i64 0, .slice none 0 0] 26)).heap.size (X.alloc (.cells #[.int .i64 0, .int .i64 0, .int .i64 0, .int .i64 0, .slice none 0 0] 26)) w') : PZ X.heap.size w' := PZ.keep (V := X.alloc (.cells #[.int .i64 0, .int .i64 0, .int .i64 0, .int .i64 0, .slice none 0 0] 26)) (World.alloc_heap_new _ _) hb
theorem PZ.newd {X w' : World} (hb : Below (X.drew.alloc (.cells #[.int .i64 0, .int .i64 0, .int .i64 0, .int .i64 0, .slice none 0 0] 26)).heap.size (X.drew.alloc (.cells #[.int .i64 0, .int .i64 0, .int .i64 0, .int .i64 0, .slice none 0 0] 26)) w') : PZ X.heap.size w' := PZ.keep (V := X.drew.alloc (.cells #[.int .i64 0, .int .i64 0, .int .i64 0, .int .i64 0, .slice none 0 0] 26)) (World.alloc_heap_new X.drew _) hb
theorem PZ.newe {X w' : World} (hb : Below (X.alloc (.cells #[.int .i64 0, .int .i64 0, .int .i64 0, .int .i64 0, .slice none 0 0] 26)).drew.heap.size (X.alloc (.cells #[.int .i64 0, .int .i64 0, .int .i64 0, .int .i64 0, .slice none 0 0] 26)).drew w') : PZ X.heap.size w' := PZ.keep (V := (X.alloc (.cells #[.int .i64 0, .int .i64 0, .int .i64 0, .int .i64 0, .slice none 0 0] 26)).drew) (World.alloc_heap_new X _) hb
theorem PZ.two {X w' : World} {o : Obj} (hb : Below ((X.alloc (.cells #[.int .i64 0, .int .i64 0, .int .i64 0, .int .i64 0, .slice none 0 0] 26)).alloc o).heap.size ((X.alloc (.cells #[.int .i64 0, .int .i64 0, .int .i64 0, .int .i64 0, .slice none 0 0] 26)).alloc o) w') : PZ X.heap.size w' := PZ.keep (V := (X.alloc (.cells #[.int .i64 0, .int .i64 0, .int .i64 0, .int .i64 0, .slice none 0 0] 26)).alloc o) (two_alloc _ _ _) hb
theorem PZ.two' {X w' : World} {o : Obj} (hb : Below ((X.alloc o).alloc (.cells #[.int .i64 0, .int .i64 0, .int .i64 0, .int .i64 0, .slice none 0 0] 26)).heap.size ((X.alloc o).alloc (.cells #[.int .i64 0, .int .i64 0, .int .i64 0, .int .i64 0, .slice none 0 0] 26)) w') : PZ (X.heap.size + 1) w' := PZ.keep (V := (X.alloc o).alloc (.cells #[.int .i64 0, .int .i64 0, .int .i64 0, .int .i64 0, .slice none 0 0] 26)) (alloc2_new _ _ _) hb
theorem PZ.cells {P : Nat} {w : World} (h : PZ P w) : w.cell? ⟨P, 0, none⟩ = some (.int .i64 0) ∧ w.cell? ⟨P, 1, none⟩ = some (.int .i64 0) ∧ w.cell? ⟨P, 2, none⟩ = some (.int .i64 0) ∧ w.cell? ⟨P, 3, none⟩ = some (.int .i64 0) ∧ w.cell? ⟨P, 4, none⟩ = some (.slice none 0 0) ∧
    w.frozen? ⟨P, 0, none⟩ = false ∧ w.frozen? ⟨P, 1, none⟩ = false ∧ w.frozen? ⟨P, 2, none⟩ = false ∧ w.frozen? ⟨P, 3, none⟩ = false ∧ w.frozen? ⟨P, 4, none⟩ = false := GB.cells (B := P) (X := 0) (Z := 0) (W := 0) (D := 0) h
theorem PZ.keepL {P : Nat} {V w' : World} (h : PZ P V) (hb : Below V.heap.size V w') : PZ P w' ∧ P < V.heap.size := ⟨h.keep hb, (Array.getElem?_eq_some_iff.1 h).1⟩
theorem PZ.keep1L {P : Nat} {X w' : World} {o : Obj} (h : PZ P X) (hb : Below (X.alloc o).heap.size (X.alloc o) w') : PZ P w' ∧ P < (X.alloc o).heap.size := PZ.keepL (V := X.alloc o) (PZ.keep h ((Below.refl _ _).alloc (Nat.le_refl _) o)) hb
theorem PZ.twoL {X w' : World} {o : Obj} (hb : Below ((X.alloc (.cells #[.int .i64 0, .int .i64 0, .int .i64 0, .int .i64 0, .slice none 0 0] 26)).alloc o).heap.size ((X.alloc (.cells #[.int .i64 0, .int .i64 0, .int .i64 0, .int .i64 0, .slice none 0 0] 26)).alloc o) w') : PZ X.heap.size w' ∧ X.heap.size < ((X.alloc (.cells #[.int .i64 0, .int .i64 0, .int .i64 0, .int .i64 0, .slice none 0 0] 26)).alloc o).heap.size := PZ.keepL (V := (X.alloc (.cells #[.int .i64 0, .int .i64 0, .int .i64 0, .int .i64 0, .slice none 0 0] 26)).alloc o) (two_alloc _ _ _) hb
theorem PZ.twoL' {X w' : World} {o : Obj} (hb : Below ((X.alloc o).alloc (.cells #[.int .i64 0, .int .i64 0, .int .i64 0, .int .i64 0, .slice none 0 0] 26)).heap.size ((X.alloc o).alloc (.cells #[.int .i64 0, .int .i64 0, .int .i64 0, .int .i64 0, .slice none 0 0] 26)) w') : PZ (X.heap.size + 1) w' ∧ X.heap.size + 1 < ((X.alloc o).alloc (.cells #[.int .i64 0, .int .i64 0, .int .i64 0, .int .i64 0, .slice none 0 0] 26)).heap.size := PZ.keepL (V := (X.alloc o).alloc (.cells #[.int .i64 0, .int .i64 0, .int .i64 0, .int .i64 0, .slice none 0 0] 26)) (alloc2_new _ _ _) hb
theorem PZ.newL {X w' : World} (hb : Below (X.alloc (.cells #[.int .i64 0, .int .i64 0, .int .i64 0, .int .i64 0, .slice none 0 0] 26)).heap.size (X.alloc (.cells #[.int .i64 0, .int .i64 0, .int .i64 0, .int .i64 0, .slice none 0 0] 26)) w') : PZ X.heap.size w' ∧ X.heap.size < (X.alloc (.cells #[.int .i64 0, .int .i64 0, .int .i64 0, .int .i64 0, .slice none 0 0] 26)).heap.size := PZ.keepL (V := X.alloc (.cells #[.int .i64 0, .int .i64 0, .int .i64 0, .int .i64 0, .slice none 0 0] 26)) (World.alloc_heap_new _ _) hb
theorem leaf_old {V w7 : World} {P M : Nat} {rows : List (List V3)} (hP : PZ P w7 ∧ P < V.heap.size) (hr : RowsIn w7 V.heap.size w7.heap.size (some ⟨M, 0, none⟩) rows) :
    GB P 0 0 1 1 (.slice (some ⟨M, 0, none⟩) 1 1) (((((w7.setCell ⟨P, 0, none⟩ (.int .i64 0)).setCell ⟨P, 1, none⟩ (.int .i64 0)).setCell ⟨P, 2, none⟩ (.int .i64 1)).setCell ⟨P, 3, none⟩ (.int .i64 1)).setCell ⟨P, 4, none⟩ (.slice (some ⟨M, 0, none⟩) 1 1)) ∧
    RowsAt (((((w7.setCell ⟨P, 0, none⟩ (.int .i64 0)).setCell ⟨P, 1, none⟩ (.int .i64 0)).setCell ⟨P, 2, none⟩ (.int .i64 1)).setCell ⟨P, 3, none⟩ (.int .i64 1)).setCell ⟨P, 4, none⟩ (.slice (some ⟨M, 0, none⟩) 1 1)) (((((w7.setCell ⟨P, 0, none⟩ (.int .i64 0)).setCell ⟨P, 1, none⟩ (.int .i64 0)).setCell ⟨P, 2, none⟩ (.int .i64 1)).setCell ⟨P, 3, none⟩ (.int .i64 1)).setCell ⟨P, 4, none⟩ (.slice (some ⟨M, 0, none⟩) 1 1)).heap.size (some ⟨M, 0, none⟩) rows := by
  have hG : GB P 0 0 0 0 (.slice none 0 0) w7 := hP.1
  refine ⟨hG.set5 0 0 1 1 _, ?_⟩
  obtain ⟨W1, hW1⟩ : ∃ W1, (((((w7.setCell ⟨P, 0, none⟩ (.int .i64 0)).setCell ⟨P, 1, none⟩ (.int .i64 0)).setCell ⟨P, 2, none⟩ (.int .i64 1)).setCell ⟨P, 3, none⟩ (.int .i64 1)).setCell ⟨P, 4, none⟩ (.slice (some ⟨M, 0, none⟩) 1 1)) = W1 := ⟨_, rfl⟩
  have hs : W1.heap.size = w7.heap.size := by rw [← hW1]; simp
  rw [hW1, hs]
  refine (hr.keep ⟨by omega, fun j h1 _ => ?_⟩).to
  rw [← hW1]
  have := hP.2
  exact set5_other _ _ _ _ _ (by omega)
theorem leaf_new {w7 : World} {N M : Nat} {rows : List (List V3)} (hr : RowsIn w7 N w7.heap.size (some ⟨M, 0, none⟩) rows) :
    GB w7.heap.size 0 0 1 1 (.slice (some ⟨M, 0, none⟩) 1 1) (w7.alloc (.cells #[.int .i64 0, .int .i64 0, .int .i64 1, .int .i64 1, .slice (some ⟨M, 0, none⟩) 1 1] 26)) ∧
    RowsAt (w7.alloc (.cells #[.int .i64 0, .int .i64 0, .int .i64 1, .int .i64 1, .slice (some ⟨M, 0, none⟩) 1 1] 26)) (w7.alloc (.cells #[.int .i64 0, .int .i64 0, .int .i64 1, .int .i64 1, .slice (some ⟨M, 0, none⟩) 1 1] 26)).heap.size (some ⟨M, 0, none⟩) rows :=
  ⟨World.alloc_heap_new _ _, (hr.to.below ((Below.refl _ _).alloc (Nat.le_refl _) _)).more (by simp)⟩
set_option maxRecDepth 100000 in
set_option maxHeartbeats 4000000 in
theorem wakes12_any (w : World) : Calls Try.prog 16 #[] w fun en w' => en = .returned (.bool true) ∧ Below w.heap.size w w' := by
  obtain ⟨W0, hW0⟩ : ∃ W0, (((w.alloc (.cells #[.int .i64 2, .int .i64 9, .int .i64 1] 39)).alloc (.cells #[.slice (some ⟨w.heap.size, 0, none⟩) 1 1] 36)).alloc (.cells #[.int .i64 0, .int .i64 0, .int .i64 1, .int .i64 1, .slice (some ⟨w.heap.size + 1, 0, none⟩) 1 1] 26)) = W0 := ⟨_, rfl⟩
  have hb0 : Below w.heap.size w W0 := by rw [← hW0]; exact (((Below.refl _ _).alloc (Nat.le_refl _) _).alloc (by simp) _).alloc (by simp <;> omega) _
  have hs0 : W0.heap.size = w.heap.size + 3 := by rw [← hW0]; simp
  have hS : SW W0 (w.heap.size + 1 + 1) (some ⟨w.heap.size + 1, 0, none⟩) W0 := by
    have k : ∀ q u, #[Value.int .i64 0, .int .i64 0, .int .i64 1, .int .i64 1, .slice (some ⟨w.heap.size + 1, 0, none⟩) 1 1][q]? = some u → W0.cell? ⟨w.heap.size + 1 + 1, q, none⟩ = some u := fun q u hq => by
      rw [← hW0]; exact (World.cell?_alloc_at _ _ _ _ (by simp)).trans hq
    exact ⟨k 0 _ rfl, k 1 _ rfl, k 2 _ rfl, k 3 _ rfl, k 4 _ rfl, by omega, Below.refl _ _⟩
  have hr0 : RowsAt W0 W0.heap.size (some ⟨w.heap.size + 1, 0, none⟩) [[⟨2, 9, 1⟩]] := by
    obtain ⟨u1, hu1⟩ : ∃ u1, w.alloc (.cells #[.int .i64 2, .int .i64 9, .int .i64 1] 39) = u1 := ⟨_, rfl⟩
    obtain ⟨u2, hu2⟩ : ∃ u2, u1.alloc (.cells #[.slice (some ⟨w.heap.size, 0, none⟩) 1 1] 36) = u2 := ⟨_, rfl⟩
    have s1 : u1.heap.size = w.heap.size + 1 := by rw [← hu1]; simp
    have s2 : u2.heap.size = w.heap.size + 2 := by rw [← hu2]; simp [s1]
    have h1 := cells_new w [.int .i64 2, .int .i64 9, .int .i64 1] 39
    have h2 := cells_new u1 [.slice (some ⟨w.heap.size, 0, none⟩) 1 1] 36
    rw [hu1] at h1
    rw [hu2, s1] at h2
    have b2 : Below u1.heap.size u1 u2 := by rw [← hu2]; exact (Below.refl _ _).alloc (Nat.le_refl _) _
    have b3 : Below u2.heap.size u2 W0 := by rw [← hW0, hu1, hu2]; exact (Below.refl _ _).alloc (Nat.le_refl _) _
    have p1 : Reads u1 u1.heap.size 3 (some ⟨w.heap.size, 0, none⟩) 1 (vcs [⟨2, 9, 1⟩]) := ⟨rfl, fun _ => ⟨_, rfl, by show w.heap.size < _; omega, h1⟩⟩
    have p2 : Reads u2 u2.heap.size 1 (some ⟨w.heap.size + 1, 0, none⟩) 1 [.slice (some ⟨w.heap.size, 0, none⟩) 1 1] := ⟨rfl, fun _ => ⟨_, rfl, by show w.heap.size + 1 < _; omega, h2⟩⟩
    refine ⟨[.slice (some ⟨w.heap.size, 0, none⟩) 1 1], (p2.below b3).more b3.size, fun i r hr => ?_⟩
    cases i with
    | zero =>
      simp at hr
      subst hr
      exact ⟨_, _, rfl, (((p1.below b2).more b2.size).below b3).more b3.size⟩
    | succ i => simp at hr
  have hcf := fun w => cfg12_any w
  have hbxa := fun w => box12_any 5 4 w
  have hbxb := fun w => box12_any 3 2 w
  have hmk : ∀ {V' : World} {Q : Nat}, Below W0.heap.size W0 V' → V'.heap[Q]? = some (.cells #[Value.int .i64 5, .int .i64 0, .int .i64 0, .int .i64 7, .int .i64 7, .int .i64 (-9), .int .i64 9, .int .i64 4, .int .i64 3, .int .i64 0, .int .i64 0, .int .i64 7, .int .i64 7, .int .i64 (-9), .int .i64 9, .int .i64 2] 45 (0, 0)) → Calls Try.prog 22 #[cfgv 0 1 3 1 1 8 8, gridv 0 0 1 1 (some ⟨w.heap.size + 1, 0, none⟩) 1 1, .slice (some ⟨Q, 0, none⟩) 2 2] V' fun en w' =>
      ∃ M, en = .returned (.tuple #[gridv 0 0 1 1 (some ⟨M, 0, none⟩) 1 1, .int .i64 0]) ∧ RowsIn w' V'.heap.size w'.heap.size (some ⟨M, 0, none⟩) [[⟨2, 9, 4⟩]] ∧ Below V'.heap.size V' w' := by
    intro V' Q h1 h3
    rw [show (#[Value.int .i64 5, .int .i64 0, .int .i64 0, .int .i64 7, .int .i64 7, .int .i64 (-9), .int .i64 9, .int .i64 4, .int .i64 3, .int .i64 0, .int .i64 0, .int .i64 7, .int .i64 7, .int .i64 (-9), .int .i64 9, .int .i64 2] : Array Value) = (bcs wkBoxes).toArray from rfl] at h3
    have h4 := h1
    refine mark_good wk_check wk_ok1 wk_mark1 _ 1 _ 2 V' ((hr0.below h4).more h4.size) (wk_lens 1) ?_
    refine ⟨rfl, fun _ => ⟨_, rfl, (Array.getElem?_eq_some_iff.1 h3).1, fun j u hj => ?_⟩⟩
    have e : (⟨Q, 0, none⟩ : Addr).add j = ⟨Q, j, none⟩ := by simp [Addr.add]; exact fun h => h.symm
    rw [e]
    simp [World.cell?, h3, hj]
  unfold cfgv at hcf hmk
  unfold gridv at hmk
  go_enter Try.func16, Try.ntmps16
  go_wp2
  try rw [hW0]
  clear hW0 hs0
  rename_i Qx Kx hKx
  have hK : ∀ (P Q M : Nat) (W1 : World), GB P 0 0 1 1 (.slice (some ⟨M, 0, none⟩) 1 1) W1 → RowsAt W1 W1.heap.size (some ⟨M, 0, none⟩) [[⟨2, 9, 4⟩]] → Below w.heap.size w W1 → Exit.then Kx Qx Exit.normal { tmps := #[Value.bool false, Value.pointer (some ⟨w.heap.size + 1 + 1, 0, none⟩), Value.pointer (some ⟨P, 0, none⟩), Value.int .i64 0, undef, undef, Value.agg #[.int .i64 2, .int .i64 9, .int .i64 1], Value.slice (some ⟨w.heap.size, 0, none⟩) 1 1, Value.slice (some ⟨w.heap.size + 1, 0, none⟩) 1 1, Value.agg #[.int .i64 0, .int .i64 0, .int .i64 1, .int .i64 1, .slice (some ⟨w.heap.size + 1, 0, none⟩) 1 1], Value.tuple #[.agg #[.int .i64 0, .int .i64 0, .int .i64 1, .int .i64 1, .slice (some ⟨M, 0, none⟩) 1 1], .int .i64 0], Value.agg #[.int .i64 0, .int .i64 1, .int .i64 3, .int .i64 1, .int .i64 1, .int .i64 8, .int .i64 8], Value.agg #[.int .i64 0, .int .i64 0, .int .i64 1, .int .i64 1, .slice (some ⟨w.heap.size + 1, 0, none⟩) 1 1], Value.agg #[.int .i64 5, .int .i64 0, .int .i64 0, .int .i64 7, .int .i64 7, .int .i64 (-9), .int .i64 9, .int .i64 4], Value.agg #[.int .i64 3, .int .i64 0, .int .i64 0, .int .i64 7, .int .i64 7, .int .i64 (-9), .int .i64 9, .int .i64 2], Value.slice (some ⟨Q, 0, none⟩) 2 2, Value.tuple #[.agg #[.int .i64 0, .int .i64 0, .int .i64 1, .int .i64 1, .slice (some ⟨M, 0, none⟩) 1 1], .int .i64 0], Value.agg #[.int .i64 0, .int .i64 0, .int .i64 1, .int .i64 1, .slice (some ⟨M, 0, none⟩) 1 1], Value.int .i64 0, undef, undef, undef, undef, undef, undef, undef, undef, undef, undef, undef, undef, undef, undef, undef, undef, undef, undef, undef, undef, undef, undef, undef, undef, undef, undef, undef, undef, undef, undef, undef, undef, undef, undef, undef, undef, undef, undef, undef, undef, undef, undef, undef, undef, undef, undef, undef, undef, undef, undef, undef, undef, undef, undef, undef, undef, undef, undef, undef, undef], defers := [] } W1 := by
    intro P Q M W1 hP hrP hbP
    clear hS hr0 hmk hbxa hbxb hb0
    go_wp2
    rename_i Ky hKy
    have hK2 : ∀ (P2 M2 : Nat) (W2 : World), GB P2 0 0 1 1 (.slice (some ⟨M2, 0, none⟩) 1 1) W2 → RowsAt W2 W2.heap.size (some ⟨M2, 0, none⟩) [[⟨2, 9, 1⟩]] → Below W1.heap.size W1 W2 → Exit.then Ky Qx Exit.normal { tmps := #[Value.bool false, Value.pointer (some ⟨w.heap.size + 1 + 1, 0, none⟩), Value.pointer (some ⟨P, 0, none⟩), Value.int .i64 0, Value.pointer (some ⟨P2, 0, none⟩), Value.int .i64 0, Value.agg #[.int .i64 2, .int .i64 9, .int .i64 1], Value.slice (some ⟨w.heap.size, 0, none⟩) 1 1, Value.slice (some ⟨w.heap.size + 1, 0, none⟩) 1 1, Value.agg #[.int .i64 0, .int .i64 0, .int .i64 1, .int .i64 1, .slice (some ⟨w.heap.size + 1, 0, none⟩) 1 1], Value.tuple #[.agg #[.int .i64 0, .int .i64 0, .int .i64 1, .int .i64 1, .slice (some ⟨M, 0, none⟩) 1 1], .int .i64 0], Value.agg #[.int .i64 0, .int .i64 1, .int .i64 3, .int .i64 1, .int .i64 1, .int .i64 8, .int .i64 8], Value.agg #[.int .i64 0, .int .i64 0, .int .i64 1, .int .i64 1, .slice (some ⟨w.heap.size + 1, 0, none⟩) 1 1], Value.agg #[.int .i64 5, .int .i64 0, .int .i64 0, .int .i64 7, .int .i64 7, .int .i64 (-9), .int .i64 9, .int .i64 4], Value.agg #[.int .i64 3, .int .i64 0, .int .i64 0, .int .i64 7, .int .i64 7, .int .i64 (-9), .int .i64 9, .int .i64 2], Value.slice (some ⟨Q, 0, none⟩) 2 2, Value.tuple #[.agg #[.int .i64 0, .int .i64 0, .int .i64 1, .int .i64 1, .slice (some ⟨M, 0, none⟩) 1 1], .int .i64 0], Value.agg #[.int .i64 0, .int .i64 0, .int .i64 1, .int .i64 1, .slice (some ⟨M, 0, none⟩) 1 1], Value.int .i64 0, Value.tuple #[.agg #[.int .i64 0, .int .i64 0, .int .i64 1, .int .i64 1, .slice (some ⟨M2, 0, none⟩) 1 1], .int .i64 0], Value.agg #[.int .i64 0, .int .i64 1, .int .i64 3, .int .i64 1, .int .i64 1, .int .i64 8, .int .i64 8], Value.agg #[.int .i64 0, .int .i64 0, .int .i64 1, .int .i64 1, .slice (some ⟨M, 0, none⟩) 1 1], Value.tuple #[.agg #[.int .i64 0, .int .i64 0, .int .i64 1, .int .i64 1, .slice (some ⟨M2, 0, none⟩) 1 1], .int .i64 0], Value.agg #[.int .i64 0, .int .i64 0, .int .i64 1, .int .i64 1, .slice (some ⟨M2, 0, none⟩) 1 1], Value.int .i64 0, undef, undef, undef, undef, undef, undef, undef, undef, undef, undef, undef, undef, undef, undef, undef, undef, undef, undef, undef, undef, undef, undef, undef, undef, undef, undef, undef, undef, undef, undef, undef, undef, undef, undef, undef, undef, undef, undef, undef, undef, undef, undef, undef, undef, undef, undef, undef, undef, undef, undef, undef, undef, undef, undef], defers := [] } W2 := by
      intro P2 M2 W2 hP2 hr2 hb2
      have ha := hP.below hb2 hP.lt
      have hra := (hrP.below hb2).more hb2.size
      have hbw := hbP.trans (hb2.mono hbP.size)
      obtain ⟨_, _, _, _, a4, _⟩ := ha.cells
      obtain ⟨_, _, _, _, b4, _⟩ := hP2.cells
      obtain ⟨ad, Ai, ci, ea, _, ah, ar⟩ := hra.at_ (i := 0) (by simp)
      obtain ⟨bd, Bi, di, eb, _, bh, br⟩ := hr2.at_ (i := 0) (by simp)
      injection ea with ea
      injection eb with eb
      subst ea eb
      obtain ⟨af, rfl, _, _, _, a2⟩ := v3_at ar (j := 0) (by simp)
      obtain ⟨bf, rfl, _, _, _, b2⟩ := v3_at br (j := 0) (by simp)
      have e0 : ∀ a : Addr, a.add 0 = a := fun a => by simp [Addr.add]
      simp [e0] at ah bh a2 b2
      clear e0
      clear hP hrP hbP hP2 hr2 hb2 ha hra ar br hcf
      go_wp2
      go_ret
      exact ⟨rfl, hbw⟩
    clear hKy
    have hS : SW W1 P (some ⟨M, 0, none⟩) W1 := by
      obtain ⟨c0, c1, c2, c3, c4, _⟩ := hP.cells
      exact ⟨c0, c1, c2, c3, c4, hP.lt, Below.refl _ _⟩
    have hmk2 : ∀ {V' : World}, Below W1.heap.size W1 V' → Calls Try.prog 22 #[cfgv 0 1 3 1 1 8 8, gridv 0 0 1 1 (some ⟨M, 0, none⟩) 1 1, .slice none 0 0] V' fun en w' =>
        ∃ M2, en = .returned (.tuple #[gridv 0 0 1 1 (some ⟨M2, 0, none⟩) 1 1, .int .i64 0]) ∧ RowsIn w' V'.heap.size w'.heap.size (some ⟨M2, 0, none⟩) [[⟨2, 9, 1⟩]] ∧ Below V'.heap.size V' w' := fun {V'} h1 =>
      mark_good wk_check wk_ok2 wk_mark2 _ 1 _ 0 V' ((hrP.below h1).more h1.size) (wk_lens 4) ⟨rfl, fun h => absurd h (by simp)⟩
    unfold cfgv gridv at hmk2
    obtain ⟨c0, c1, c2, c3, c4, cl, cb⟩ := id hS
    go_region_held3 (fun w' => w'.cell? ⟨P, 0, none⟩ = some (.int .i64 0) ∧ w'.cell? ⟨P, 1, none⟩ = some (.int .i64 0) ∧ w'.cell? ⟨P, 2, none⟩ = some (.int .i64 1) ∧ w'.cell? ⟨P, 3, none⟩ = some (.int .i64 1) ∧ w'.cell? ⟨P, 4, none⟩ = some (.slice (some ⟨M, 0, none⟩) 1 1) ∧ P < W1.heap.size ∧ Below W1.heap.size W1 w')
      (first | (with_reducible exact hS) | (with_reducible exact hS7) | (with_reducible exact SW.alloc hS7 _) | ((with_reducible refine SW.set5 hS7 ?_ _ _ _ _ _); omega) | (with_reducible exact SW.keep hS ((Below.refl _ _).drew)) | (with_reducible exact SW.keep hS (((Below.refl _ _).alloc (Nat.le_refl _) _).drew)) | (with_reducible exact SW.keep (by assumption) hb5) | (with_reducible exact SW.alloc (by assumption) _))
      (first | (go_at_call 30; refine (hcf _).mono ?_; rintro en w5 ⟨rfl, hb5⟩; have z5 := (SW.below (SW.keep (W0 := W1) (g := P) (R := some ⟨M, 0, none⟩) (by assumption) hb5)).size; (with_reducible first | (have hP2 := PZ.newd hb5) | (have hP2 := PZ.newe hb5) | (have hP2 := PZ.new hb5) | skip)) | (go_at_call 22; refine (hmk2 (SW.below (by assumption))).mono ?_; rintro en w7 ⟨M2, rfl, hr7, hb7⟩; have hS7 := SW.keep (W0 := W1) (g := P) (R := some ⟨M, 0, none⟩) (by assumption) hb7; have z7 := (SW.below hS7).size; (with_reducible first | (have hPL := PZ.keepL hP2 hb7; have hPc := PZ.cells hPL.1) | (have hPL := PZ.newL hb7; have hPc := PZ.cells hPL.1) | skip)))
    all_goals refine hK2 _ M2 _ ?_ ?_ ?_
    all_goals first
      | (with_reducible exact (leaf_new hr7).1)
      | (with_reducible exact (leaf_old hPL hr7).1)
      | (with_reducible exact (leaf_new hr7).2)
      | (with_reducible exact (leaf_old hPL hr7).2)
      | (with_reducible exact ((SW.below hS7).alloc z7 _))
      | (refine below_set5 (SW.below hS7) ?_ _ _ _ _ _; omega)
      | trace_state
  clear hKx
  obtain ⟨c0, c1, c2, c3, c4, cl, cb⟩ := id hS
  go_region_held3 (fun w' => w'.cell? ⟨w.heap.size + 1 + 1, 0, none⟩ = some (.int .i64 0) ∧ w'.cell? ⟨w.heap.size + 1 + 1, 1, none⟩ = some (.int .i64 0) ∧ w'.cell? ⟨w.heap.size + 1 + 1, 2, none⟩ = some (.int .i64 1) ∧ w'.cell? ⟨w.heap.size + 1 + 1, 3, none⟩ = some (.int .i64 1) ∧ w'.cell? ⟨w.heap.size + 1 + 1, 4, none⟩ = some (.slice (some ⟨w.heap.size + 1, 0, none⟩) 1 1) ∧ w.heap.size + 1 + 1 < W0.heap.size ∧ Below W0.heap.size W0 w')
    (first | (with_reducible exact hS) | (with_reducible exact hS7) | (with_reducible exact SW.alloc hS7 _) | ((with_reducible refine SW.set5 hS7 ?_ _ _ _ _ _); omega) | (with_reducible exact SW.keep hS ((Below.refl _ _).drew)) | (with_reducible exact SW.keep hS (((Below.refl _ _).alloc (Nat.le_refl _) _).drew)) | (with_reducible exact SW.keep (by assumption) hb8) | (with_reducible exact SW.keep (by assumption) hb6) | (with_reducible exact SW.keep (by assumption) hb5) | (with_reducible exact SW.alloc (by assumption) _))
    (first | (go_at_call 30; refine (hcf _).mono ?_; rintro en w5 ⟨rfl, hb5⟩; have z5 := (SW.below (SW.keep (W0 := W0) (g := w.heap.size + 1 + 1) (R := some ⟨w.heap.size + 1, 0, none⟩) (by assumption) hb5)).size; (with_reducible first | (have hP := PZ.keep hP hb5) | (have hP := PZ.keep1 hP hb5) | (have hP := PZ.newd hb5) | (have hP := PZ.newe hb5) | (have hP := PZ.two hb5) | (have hP := PZ.two' hb5) | (have hP := PZ.new hb5) | skip)) | (go_at_call 31; refine (hbxa _).mono ?_; rintro en w6 ⟨rfl, hb6⟩; have z6 := (SW.below (SW.keep (W0 := W0) (g := w.heap.size + 1 + 1) (R := some ⟨w.heap.size + 1, 0, none⟩) (by assumption) hb6)).size; (with_reducible first | (have hP := PZ.keep hP hb6) | (have hP := PZ.keep1 hP hb6) | (have hP := PZ.newd hb6) | (have hP := PZ.two hb6) | (have hP := PZ.two' hb6) | (have hP := PZ.new hb6) | skip)) | (go_at_call 31; refine (hbxb _).mono ?_; rintro en w8 ⟨rfl, hb8⟩; have z8 := (SW.below (SW.keep (W0 := W0) (g := w.heap.size + 1 + 1) (R := some ⟨w.heap.size + 1, 0, none⟩) (by assumption) hb8)).size; (with_reducible first | (have hP := PZ.keep hP hb8) | (have hP := PZ.keep1 hP hb8) | (have hP := PZ.newd hb8) | (have hP := PZ.two hb8) | (have hP := PZ.two' hb8) | (have hP := PZ.new hb8) | skip)) | (go_at_call 22; refine (hmk (SW.below (by assumption)) (by first | exact alloc2_new _ _ _ | exact two_alloc _ _ _ | exact World.alloc_heap_new _ _)).mono ?_; rintro en w7 ⟨M, rfl, hr7, hb7⟩; have hS7 := SW.keep (W0 := W0) (g := w.heap.size + 1 + 1) (R := some ⟨w.heap.size + 1, 0, none⟩) (by assumption) hb7; have z7 := (SW.below hS7).size; (with_reducible first | (have hPL := PZ.keepL hP hb7; have hPc := PZ.cells hPL.1) | (have hPL := PZ.keep1L hP hb7; have hPc := PZ.cells hPL.1) | (have hPL := PZ.twoL hb7; have hPc := PZ.cells hPL.1) | (have hPL := PZ.twoL' hb7; have hPc := PZ.cells hPL.1) | skip)))
  all_goals have hb9 := hb0.size
  all_goals refine hK _ _ M _ ?_ ?_ ?_
  all_goals first
    | (with_reducible exact (leaf_new hr7).1)
    | (with_reducible exact (leaf_old hPL hr7).1)
    | (with_reducible exact (leaf_new hr7).2)
    | (with_reducible exact (leaf_old hPL hr7).2)
    | (with_reducible exact hb0.trans (((SW.below hS7).alloc z7 _).mono hb9))
    | (refine hb0.trans ((below_set5 (SW.below hS7) ?_ _ _ _ _ _).mono hb9); omega)
    | trace_state
end Go.Proofs.Ytbjbiimkhpfieaa
