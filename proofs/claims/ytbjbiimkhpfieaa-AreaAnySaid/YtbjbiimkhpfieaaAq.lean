/- area.Mark by a walk: the grid's floors marked by boxes, or why not. No conditions but that the grid and the boxes lie where they are said to lie. -/
import Derived.Test.YtbjbiimkhpfieaaAp
namespace Go.Proofs.Ytbjbiimkhpfieaa
open Go Go.RowKit Go.Sx Go.Shelf
attribute [local go_sem] Oper.semAt_some
noncomputable def badB (f g : Int) (b : B8) : Bool := boxBad f g b.id b.x0 b.z0 b.x1 b.z1 b.y0 b.y1 b.ar
def markOk (f g X Z W D : Int) (rows : List (List V3)) (l : List B8) : Prop := gridOk X Z W D rows ∧ l.length ≤ 16 ∧ ∀ b ∈ l, badB f g b = false
theorem boxes_er {a b c d e f g : Int} (hc : checkF a b c d e f g = 0) (x : B8) (w : World) :
    Calls Try.prog 36 #[cfgv a b c d e f g, .agg x.cs.toArray] w fun en w' => ∃ v er, en = .returned (.tuple #[v, .int .i64 er]) ∧ (decide (er ≠ 0) = badB f g x) ∧ Below w.heap.size w w' := by
  have hbd := count_bd a b c d e f g
  have h := boxes_any a b c d e f g x.id x.x0 x.z0 x.x1 x.z1 x.y0 x.y1 x.ar w _ rfl (countF a b c d e f g).toNat (by omega) (by omega)
  refine h.mono fun en w' ⟨L, er, A, cap, he, _, hb, h3⟩ => ⟨_, er, he, ?_, hb⟩
  unfold badB
  rcases h3 with ⟨h, _⟩ | ⟨_, h, _, rfl⟩ | ⟨_, h, _, rfl⟩
  · exact absurd hc h
  · rw [h]; rfl
  · rw [h]; rfl
/-- The boxes of area.Mark's frame, from block h on. -/
structure MkAt (h : Nat) (a b c d e f g X Z W D : Int) (A : Option Addr) (n cap : Nat) (Al : Option Addr) (m cl : Nat) (w : World) : Prop where
  c0 : w.cell? ⟨h, 0, none⟩ = some (.int .i64 a)
  c1 : w.cell? ⟨h, 1, none⟩ = some (.int .i64 b)
  c2 : w.cell? ⟨h, 2, none⟩ = some (.int .i64 c)
  c3 : w.cell? ⟨h, 3, none⟩ = some (.int .i64 d)
  c4 : w.cell? ⟨h, 4, none⟩ = some (.int .i64 e)
  c5 : w.cell? ⟨h, 5, none⟩ = some (.int .i64 f)
  c6 : w.cell? ⟨h, 6, none⟩ = some (.int .i64 g)
  g0 : w.cell? ⟨h + 1, 0, none⟩ = some (.int .i64 X)
  g1 : w.cell? ⟨h + 1, 1, none⟩ = some (.int .i64 Z)
  g2 : w.cell? ⟨h + 1, 2, none⟩ = some (.int .i64 W)
  g3 : w.cell? ⟨h + 1, 3, none⟩ = some (.int .i64 D)
  g4 : w.cell? ⟨h + 1, 4, none⟩ = some (.slice A n cap)
  l0 : w.cell? ⟨h + 2, 0, none⟩ = some (.slice Al m cl)
  r : GB (h + 3) 0 0 0 0 (.slice none 0 0) w
  lt : h + 4 ≤ w.heap.size
theorem MkAt.same {h : Nat} {a b c d e f g X Z W D : Int} {A : Option Addr} {n cap : Nat} {Al : Option Addr} {m cl : Nat} {w w' : World} (k : MkAt h a b c d e f g X Z W D A n cap Al m cl w) (hs : w.heap.size ≤ w'.heap.size) (hb : ∀ j, j < h + 4 → w'.heap[j]? = w.heap[j]?) : MkAt h a b c d e f g X Z W D A n cap Al m cl w' := by
  obtain ⟨c0, c1, c2, c3, c4, c5, c6, g0, g1, g2, g3, g4, l0, r, lt⟩ := k
  have e : ∀ j q, j < h + 4 → w'.cell? ⟨j, q, none⟩ = w.cell? ⟨j, q, none⟩ := fun j q hj => World.cell?_of_block (hb j hj)
  exact ⟨(e _ _ (by omega)).trans c0, (e _ _ (by omega)).trans c1, (e _ _ (by omega)).trans c2, (e _ _ (by omega)).trans c3, (e _ _ (by omega)).trans c4, (e _ _ (by omega)).trans c5, (e _ _ (by omega)).trans c6,
    (e _ _ (by omega)).trans g0, (e _ _ (by omega)).trans g1, (e _ _ (by omega)).trans g2, (e _ _ (by omega)).trans g3, (e _ _ (by omega)).trans g4, (e _ _ (by omega)).trans l0, (hb _ (by omega)).trans r, Nat.le_trans lt hs⟩
theorem MkAt.below {h N : Nat} {a b c d e f g X Z W D : Int} {A : Option Addr} {n cap : Nat} {Al : Option Addr} {m cl : Nat} {w w' : World} (k : MkAt h a b c d e f g X Z W D A n cap Al m cl w) (hb : Below N w w') (hN : h + 4 ≤ N) : MkAt h a b c d e f g X Z W D A n cap Al m cl w' :=
  k.same hb.size fun j hj => hb.block j (by omega)
theorem MkAt.new (a b c d e f g X Z W D : Int) (A : Option Addr) (n cap : Nat) (Al : Option Addr) (m cl : Nat) (w : World) :
    MkAt w.heap.size a b c d e f g X Z W D A n cap Al m cl ((((w.alloc (.cells #[.int .i64 a, .int .i64 b, .int .i64 c, .int .i64 d, .int .i64 e, .int .i64 f, .int .i64 g] 23)).alloc (.cells #[.int .i64 X, .int .i64 Z, .int .i64 W, .int .i64 D, .slice A n cap] 26)).alloc (.cells #[.slice Al m cl] 43)).alloc (.cells #[.int .i64 0, .int .i64 0, .int .i64 0, .int .i64 0, .slice none 0 0] 26)) := by
  obtain ⟨w1, h1⟩ : ∃ w1, w.alloc (.cells #[.int .i64 a, .int .i64 b, .int .i64 c, .int .i64 d, .int .i64 e, .int .i64 f, .int .i64 g] 23) = w1 := ⟨_, rfl⟩
  obtain ⟨w2, h2⟩ : ∃ w2, w1.alloc (.cells #[.int .i64 X, .int .i64 Z, .int .i64 W, .int .i64 D, .slice A n cap] 26) = w2 := ⟨_, rfl⟩
  obtain ⟨w3, h3⟩ : ∃ w3, w2.alloc (.cells #[.slice Al m cl] 43) = w3 := ⟨_, rfl⟩
  rw [h1, h2, h3]
  have s1 : w1.heap.size = w.heap.size + 1 := by rw [← h1]; simp
  have s2 : w2.heap.size = w.heap.size + 2 := by rw [← h2]; simp [s1]
  have s3 : w3.heap.size = w.heap.size + 3 := by rw [← h3]; simp [s2]
  have k1 : ∀ q u, #[Value.int .i64 a, .int .i64 b, .int .i64 c, .int .i64 d, .int .i64 e, .int .i64 f, .int .i64 g][q]? = some u → (w3.alloc (.cells #[.int .i64 0, .int .i64 0, .int .i64 0, .int .i64 0, .slice none 0 0] 26)).cell? ⟨w.heap.size, q, none⟩ = some u := fun q u hq => by
    rw [World.cell?_alloc_past _ _ _ (by simp [s3]), ← h3, World.cell?_alloc_past _ _ _ (by simp [s2]), ← h2, World.cell?_alloc_past _ _ _ (by simp [s1]), ← h1]
    exact (World.cell?_alloc_at _ _ _ _ rfl).trans hq
  have k2 : ∀ q u, #[Value.int .i64 X, .int .i64 Z, .int .i64 W, .int .i64 D, .slice A n cap][q]? = some u → (w3.alloc (.cells #[.int .i64 0, .int .i64 0, .int .i64 0, .int .i64 0, .slice none 0 0] 26)).cell? ⟨w.heap.size + 1, q, none⟩ = some u := fun q u hq => by
    rw [World.cell?_alloc_past _ _ _ (by simp [s3]), ← h3, World.cell?_alloc_past _ _ _ (by simp [s2]), ← h2, ← s1]
    exact (World.cell?_alloc_at _ _ _ _ rfl).trans hq
  have k3 : ∀ q u, #[Value.slice Al m cl][q]? = some u → (w3.alloc (.cells #[.int .i64 0, .int .i64 0, .int .i64 0, .int .i64 0, .slice none 0 0] 26)).cell? ⟨w.heap.size + 2, q, none⟩ = some u := fun q u hq => by
    rw [World.cell?_alloc_past _ _ _ (by simp [s3]), ← h3, ← s2]
    exact (World.cell?_alloc_at _ _ _ _ rfl).trans hq
  refine ⟨k1 0 _ rfl, k1 1 _ rfl, k1 2 _ rfl, k1 3 _ rfl, k1 4 _ rfl, k1 5 _ rfl, k1 6 _ rfl, k2 0 _ rfl, k2 1 _ rfl, k2 2 _ rfl, k2 3 _ rfl, k2 4 _ rfl, k3 0 _ rfl, ?_, by simp [s3]⟩
  unfold GB
  rw [← s3]
  exact World.alloc_heap_new _ _
theorem results_g {fn : Func} {t u : Tmp} (h : fn.results = #[.cell t 26, .tmp u]) (tmps : Array Value) (w : World) (B : Nat) (X Z W D : Int) (v : Value) (ht : tmps.getD t undef = .pointer (some ⟨B, 0, none⟩)) (hb : GB B X Z W D v w) :
    (results fn tmps).run Try.prog w = .ok (.tuple #[.agg #[.int .i64 X, .int .i64 Z, .int .i64 W, .int .i64 D, v], tmps.getD u undef]) w := by
  have ht' : tmps[t]?.getD undef = .pointer (some ⟨B, 0, none⟩) := by simpa using ht
  obtain ⟨c0, c1, c2, c3, c4, _⟩ := hb.cells
  simp [results, h, ht', c0, c1, c2, c3, c4, go_sem]
theorem GB.set5 {B : Nat} {X Z W D : Int} {v : Value} {w : World} (h : GB B X Z W D v w) (X' Z' W' D' : Int) (v' : Value) :
    GB B X' Z' W' D' v' (((((w.setCell ⟨B, 0, none⟩ (.int .i64 X')).setCell ⟨B, 1, none⟩ (.int .i64 Z')).setCell ⟨B, 2, none⟩ (.int .i64 W')).setCell ⟨B, 3, none⟩ (.int .i64 D')).setCell ⟨B, 4, none⟩ v') := by
  unfold GB at h
  have h0 := heap_setCell_same _ B 0 _ 26 (.int .i64 X') h
  have h1 := heap_setCell_same _ B 1 _ 26 (.int .i64 Z') h0
  have h2 := heap_setCell_same _ B 2 _ 26 (.int .i64 W') h1
  have h3 := heap_setCell_same _ B 3 _ 26 (.int .i64 D') h2
  have h4 := heap_setCell_same _ B 4 _ 26 v' h3
  unfold GB
  rw [h4]
  simp
theorem below_set5 {N B : Nat} {w0 w : World} (h : Below N w0 w) (hB : N ≤ B) (a0 a1 a2 a3 a4 : Value) : Below N w0 (((((w.setCell ⟨B, 0, none⟩ a0).setCell ⟨B, 1, none⟩ a1).setCell ⟨B, 2, none⟩ a2).setCell ⟨B, 3, none⟩ a3).setCell ⟨B, 4, none⟩ a4) :=
  ((((h.setCell (p := ⟨B, 0, none⟩) hB _).setCell (p := ⟨B, 1, none⟩) hB _).setCell (p := ⟨B, 2, none⟩) hB _).setCell (p := ⟨B, 3, none⟩) hB _).setCell (p := ⟨B, 4, none⟩) hB _
theorem set5_other {B : Nat} {w : World} (a0 a1 a2 a3 a4 : Value) {k : Nat} (hk : k ≠ B) : (((((w.setCell ⟨B, 0, none⟩ a0).setCell ⟨B, 1, none⟩ a1).setCell ⟨B, 2, none⟩ a2).setCell ⟨B, 3, none⟩ a3).setCell ⟨B, 4, none⟩ a4).heap[k]? = w.heap[k]? :=
  (Below.heap_setCell _ _ _ k hk).trans ((Below.heap_setCell _ _ _ k hk).trans ((Below.heap_setCell _ _ _ k hk).trans ((Below.heap_setCell _ _ _ k hk).trans (Below.heap_setCell _ _ _ k hk))))
/-- The boxes of a round's spot and floor. -/
structure ItAt {n : Nat} (S N0 : Nat) (X Z W : Int) (x : Fin n × V3) (Wd : World) : Prop where
  s : Wd.heap[S]? = some (.cells #[.int .i64 (X + ((x.1 : Nat) : Int) % W), .int .i64 (Z + ((x.1 : Nat) : Int) / W), .int .i64 x.2.x] 47 (0, 0))
  f : Wd.heap[S + 1]? = some (.cells #[.int .i64 x.2.x, .int .i64 x.2.y, .int .i64 x.2.z] 39 (0, 0))
  ge : N0 ≤ S
theorem ItAt.grown {n : Nat} {S N0 : Nat} {X Z W : Int} {x : Fin n × V3} {Wd W' : World} {row : Option Nat} (h : ItAt S N0 X Z W x Wd) (hg : Wd.grownBy W' row) (hr : ∀ r, row = some r → ∃ o : Obj, Wd.heap[r]? = some o ∧ o.isCells = false) : ItAt S N0 X Z W x W' := by
  have key : ∀ {k : Nat} {c : Array Value} {t : TypeId} {f : Nat × Nat}, Wd.heap[k]? = some (.cells c t f) → W'.heap[k]? = some (.cells c t f) := fun {k c t f} hk => (hg.block k (Array.getElem?_eq_some_iff.1 hk).1 (fun e => by
    obtain ⟨o, ho, hc⟩ := hr k e.symm
    rw [hk] at ho
    cases ho
    cases hc)).trans hk
  exact ⟨key h.s, key h.f, h.ge⟩
theorem ItAt.new {n : Nat} (N0 : Nat) (X Z W : Int) (x : Fin n × V3) (Wd : World) (h : N0 ≤ Wd.heap.size) : ItAt Wd.heap.size N0 X Z W x ((Wd.alloc (.cells #[.int .i64 (X + ((x.1 : Nat) : Int) % W), .int .i64 (Z + ((x.1 : Nat) : Int) / W), .int .i64 x.2.x] 47)).alloc (.cells #[.int .i64 x.2.x, .int .i64 x.2.y, .int .i64 x.2.z] 39)) := by
  obtain ⟨w1, h1⟩ : ∃ w1, Wd.alloc (.cells #[.int .i64 (X + ((x.1 : Nat) : Int) % W), .int .i64 (Z + ((x.1 : Nat) : Int) / W), .int .i64 x.2.x] 47) = w1 := ⟨_, rfl⟩
  have s1 : w1.heap.size = Wd.heap.size + 1 := by rw [← h1]; simp
  have hb : Below w1.heap.size w1 (w1.alloc (.cells #[.int .i64 x.2.x, .int .i64 x.2.y, .int .i64 x.2.z] 39)) := (Below.refl _ _).alloc (Nat.le_refl _) _
  rw [h1]
  refine ⟨(hb.block _ (by omega)).trans (by rw [← h1]; exact World.alloc_heap_new _ _), ?_, h⟩
  rw [← s1]
  exact World.alloc_heap_new _ _
theorem ItAt.cells {n : Nat} {S N0 : Nat} {X Z W : Int} {x : Fin n × V3} {Wd : World} (h : ItAt S N0 X Z W x Wd) :
    Wd.cell? ⟨S, 0, none⟩ = some (.int .i64 (X + ((x.1 : Nat) : Int) % W)) ∧ Wd.cell? ⟨S, 1, none⟩ = some (.int .i64 (Z + ((x.1 : Nat) : Int) / W)) ∧ Wd.cell? ⟨S, 2, none⟩ = some (.int .i64 x.2.x) ∧
    Wd.cell? ⟨S + 1, 0, none⟩ = some (.int .i64 x.2.x) ∧ Wd.cell? ⟨S + 1, 1, none⟩ = some (.int .i64 x.2.y) ∧ Wd.cell? ⟨S + 1, 2, none⟩ = some (.int .i64 x.2.z) ∧ Wd.frozen? ⟨S + 1, 2, none⟩ = false ∧ S + 1 < Wd.heap.size := by
  obtain ⟨h1, h2, _⟩ := h
  refine ⟨?_, ?_, ?_, ?_, ?_, ?_, ?_, (Array.getElem?_eq_some_iff.1 h2).1⟩
  iterate 3 (simp [World.cell?, h1])
  iterate 3 (simp [World.cell?, h2])
  simp [World.frozen?, h2]
/-- No row's head, in block M, leads to block b. -/
def ApartAt (M b : Nat) (w : World) : Prop := ∀ (hd : Array Value) (u : Value), w.heap[M]? = some (.cells hd 36 (0, 0)) → u ∈ hd → u.ownBlock ≠ some b
theorem ApartAt.same {M b : Nat} {w w' : World} (h : ApartAt M b w) (he : w'.heap[M]? = w.heap[M]?) : ApartAt M b w' := fun hd u h1 h2 => h hd u (he ▸ h1) h2
/-- What area.Mark tells. -/
def MarkRes (N : Nat) (a b c d e f g X Z W D : Int) (rows : List (List V3)) (l : List B8) (en : Ending) (w' : World) : Prop :=
  (checkF a b c d e f g ≠ 0 ∧ en = .returned (.tuple #[gridv 0 0 0 0 none 0 0, .int .i64 20])) ∨
  (checkF a b c d e f g = 0 ∧ ¬ markOk f g X Z W D rows l ∧ en = .returned (.tuple #[gridv 0 0 0 0 none 0 0, .int .i64 2])) ∨
  (checkF a b c d e f g = 0 ∧ markOk f g X Z W D rows l ∧ ∃ M, en = .returned (.tuple #[gridv X Z W D (some ⟨M, 0, none⟩) rows.length rows.length, .int .i64 0]) ∧ RowsIn w' N w'.heap.size (some ⟨M, 0, none⟩) (markF l X Z W rows))
end Go.Proofs.Ytbjbiimkhpfieaa
