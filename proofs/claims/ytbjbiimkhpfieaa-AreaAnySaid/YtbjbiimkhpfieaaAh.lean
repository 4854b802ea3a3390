/- area.Of by walks: the area of the last box that is so. No conditions but that the boxes lie where they are said to lie. -/
import Derived.Test.YtbjbiimkhpfieaaAg
namespace Go.Proofs.Ytbjbiimkhpfieaa
open Go Go.RowKit Go.Sx
structure SpotAt (S : Nat) (x z y : Int) (w : World) : Prop where
  h0 : w.cell? ⟨S, 0, none⟩ = some (.int .i64 x)
  h1 : w.cell? ⟨S, 1, none⟩ = some (.int .i64 z)
  h2 : w.cell? ⟨S, 2, none⟩ = some (.int .i64 y)
  lt : S < w.heap.size
theorem SpotAt.below {S N : Nat} {x z y : Int} {w w' : World} (h : SpotAt S x z y w) (hb : Below N w w') (hN : S < N) : SpotAt S x z y w' := by
  have e : ∀ q, w'.cell? ⟨S, q, none⟩ = w.cell? ⟨S, q, none⟩ := fun q => hb.cell (by exact hN)
  exact ⟨(e _).trans h.h0, (e _).trans h.h1, (e _).trans h.h2, Nat.lt_of_lt_of_le h.lt hb.size⟩
/-- A block that holds a box. -/
def Held8 (K : Nat) (b : B8) (w : World) : Prop := w.heap[K]? = some (.cells b.cs.toArray 45 (0, 0))
structure At8 (K : Nat) (b : B8) (w : World) : Prop where
  c0 : w.cell? ⟨K, 0, none⟩ = some (.int .i64 b.id)
  c1 : w.cell? ⟨K, 1, none⟩ = some (.int .i64 b.x0)
  c2 : w.cell? ⟨K, 2, none⟩ = some (.int .i64 b.z0)
  c3 : w.cell? ⟨K, 3, none⟩ = some (.int .i64 b.x1)
  c4 : w.cell? ⟨K, 4, none⟩ = some (.int .i64 b.z1)
  c5 : w.cell? ⟨K, 5, none⟩ = some (.int .i64 b.y0)
  c6 : w.cell? ⟨K, 6, none⟩ = some (.int .i64 b.y1)
  c7 : w.cell? ⟨K, 7, none⟩ = some (.int .i64 b.ar)
  f0 : w.frozen? ⟨K, 0, none⟩ = false
  f1 : w.frozen? ⟨K, 1, none⟩ = false
  f2 : w.frozen? ⟨K, 2, none⟩ = false
  f3 : w.frozen? ⟨K, 3, none⟩ = false
  f4 : w.frozen? ⟨K, 4, none⟩ = false
  f5 : w.frozen? ⟨K, 5, none⟩ = false
  f6 : w.frozen? ⟨K, 6, none⟩ = false
  f7 : w.frozen? ⟨K, 7, none⟩ = false
  lt : K < w.heap.size
theorem Held8.at8 {K : Nat} {b : B8} {w : World} (h : Held8 K b w) : At8 K b w := by
  unfold Held8 B8.cs at h
  refine ⟨?_, ?_, ?_, ?_, ?_, ?_, ?_, ?_, ?_, ?_, ?_, ?_, ?_, ?_, ?_, ?_, (Array.getElem?_eq_some_iff.1 h).1⟩
  iterate 8 (simp [World.cell?, h])
  iterate 8 (simp [World.frozen?, h])
theorem Held8.below {K N : Nat} {b : B8} {w w' : World} (h : Held8 K b w) (hb : Below N w w') (hN : K < N) : Held8 K b w' := (hb.block K hN).trans h
theorem Held8.set {K : Nat} {b : B8} {w : World} (h : Held8 K b w) (p : B8) :
    Held8 K p ((((((((w.setCell ⟨K, 0, none⟩ (.int .i64 p.id)).setCell ⟨K, 1, none⟩ (.int .i64 p.x0)).setCell ⟨K, 2, none⟩ (.int .i64 p.z0)).setCell ⟨K, 3, none⟩ (.int .i64 p.x1)).setCell ⟨K, 4, none⟩ (.int .i64 p.z1)).setCell ⟨K, 5, none⟩ (.int .i64 p.y0)).setCell ⟨K, 6, none⟩ (.int .i64 p.y1)).setCell ⟨K, 7, none⟩ (.int .i64 p.ar)) := by
  unfold Held8 at h
  have h0 := heap_setCell_same _ K 0 _ 45 (.int .i64 p.id) h
  have h1 := heap_setCell_same _ K 1 _ 45 (.int .i64 p.x0) h0
  have h2 := heap_setCell_same _ K 2 _ 45 (.int .i64 p.z0) h1
  have h3 := heap_setCell_same _ K 3 _ 45 (.int .i64 p.x1) h2
  have h4 := heap_setCell_same _ K 4 _ 45 (.int .i64 p.z1) h3
  have h5 := heap_setCell_same _ K 5 _ 45 (.int .i64 p.y0) h4
  have h6 := heap_setCell_same _ K 6 _ 45 (.int .i64 p.y1) h5
  have h7 := heap_setCell_same _ K 7 _ 45 (.int .i64 p.ar) h6
  unfold Held8
  rw [h7]
  simp [B8.cs]
theorem results_b {fn : Func} {t u : Tmp} (h : fn.results = #[.cell t 45, .tmp u]) (tmps : Array Value) (w : World) (K : Nat) (b : B8) (ht : tmps.getD t undef = .pointer (some ⟨K, 0, none⟩)) (hb : Held8 K b w) :
    (results fn tmps).run Try.prog w = .ok (.tuple #[.agg b.cs.toArray, tmps.getD u undef]) w := by
  have ht' : tmps[t]?.getD undef = .pointer (some ⟨K, 0, none⟩) := by simpa using ht
  obtain ⟨c0, c1, c2, c3, c4, c5, c6, c7, _⟩ := hb.at8
  simp [results, h, ht', c0, c1, c2, c3, c4, c5, c6, c7, go_sem, B8.cs]
set_option maxHeartbeats 1000000 in
set_option maxRecDepth 100000 in
theorem of1_any (b : B8) (S : Nat) (x z y : Int) (w : World) (hs : SpotAt S x z y w) : Calls Try.prog 33 #[.agg b.cs.toArray, .pointer (some ⟨S, 0, none⟩)] w fun en w' => en = .returned (.bool (inB b x z y)) ∧ Below w.heap.size w w' := by
  have hlt : ∀ o : Obj, Below w.heap.size w (w.alloc o) := fun o => (Below.refl _ _).alloc (Nat.le_refl _) _
  have hi := fun w => aIn_any b x z y w
  obtain ⟨s0, s1, s2⟩ := (hs.below (hlt (.cells b.cs.toArray 45)) hs.lt)
  unfold B8.cs at *
  go_enter Try.func33, Try.ntmps33
  go_wp2_with (go_at_call 17; refine (hi _).mono ?_; rintro en w1 ⟨rfl, hb1⟩)
  go_ret
  exact ⟨rfl, (hlt _).trans (hb1.mono (by simp))⟩
end Go.Proofs.Ytbjbiimkhpfieaa
