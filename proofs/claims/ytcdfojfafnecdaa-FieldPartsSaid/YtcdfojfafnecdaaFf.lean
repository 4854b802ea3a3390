/- Where floors lead, as it lies in memory; world.step by a walk. No conditions but that the links lie where they are said to lie, and lead into the grid. -/
import Derived.Test.YtcdfojfafnecdaaFe
import Derived.Test.YtcdfojfafnecdaaRm
namespace Go.Proofs.Ytcdfojfafnecdaa
open Go Go.RowKit Go.Sx Go.Mp
attribute [local go_sem] Oper.semAt_some
theorem lk4_length (t : Nat → Option Nat) : (lk4 t).length = 4 := rfl
theorem lcs_length (tt : Nat → Nat → Option Nat) : ∀ n, (lcs tt n).length = n * 4
  | 0 => rfl
  | n + 1 => by simp [lcs, lcs_length tt n, lk4_length]; omega
theorem lcs_get (tt : Nat → Nat → Option Nat) : ∀ (n k d : Nat), k < n → d < 4 → (lcs tt n)[k * 4 + d]? = some (.int .i64 (optI (tt k d)))
  | 0, k, d, h, _ => by omega
  | n + 1, k, d, h, hd => by
    have hl := lcs_length tt n
    by_cases hk : k < n
    · rw [lcs, List.getElem?_append_left (by omega)]
      exact lcs_get tt n k d hk hd
    · obtain rfl : k = n := by omega
      rw [lcs, List.getElem?_append_right (by omega), hl, show k * 4 + d - k * 4 = d by omega]
      match d, hd with
      | 0, _ => rfl
      | 1, _ => rfl
      | 2, _ => rfl
      | 3, _ => rfl
/-- Rows of rows of links. -/
def LinksAt (w : World) (B : Nat) (A : Option Addr) (n : Nat) (len : Nat → Nat) (tt : Nat → Nat → Nat → Option Nat) : Prop :=
  ∃ hd : List Value, Reads w B 1 A n hd ∧ ∀ i, i < n → ∃ (Ai : Option Addr) (ci : Nat), hd[i]? = some (Value.slice Ai (len i) ci) ∧ Reads w B 4 Ai (len i) (lcs (tt i) (len i))
theorem LinksAt.below {w w' : World} {B n : Nat} {A : Option Addr} {len : Nat → Nat} {tt : Nat → Nat → Nat → Option Nat} (h : LinksAt w B A n len tt) (hb : Below B w w') : LinksAt w' B A n len tt := by
  obtain ⟨hd, h1, h2⟩ := h
  refine ⟨hd, h1.below hb, fun i hi => ?_⟩
  obtain ⟨Ai, ci, h3, h5⟩ := h2 i hi
  exact ⟨Ai, ci, h3, h5.below hb⟩
theorem LinksAt.more {w : World} {B B' n : Nat} {A : Option Addr} {len : Nat → Nat} {tt : Nat → Nat → Nat → Option Nat} (h : LinksAt w B A n len tt) (hB : B ≤ B') : LinksAt w B' A n len tt := by
  obtain ⟨hd, h1, h2⟩ := h
  refine ⟨hd, h1.more hB, fun i hi => ?_⟩
  obtain ⟨Ai, ci, h3, h5⟩ := h2 i hi
  exact ⟨Ai, ci, h3, h5.more hB⟩
theorem LinksAt.of {w : World} {base n : Nat} {v : Value} {len : Nat → Nat} {L : Nat → List Value} {tt : Nat → Nat → Nat → Option Nat} (h : LRows w base v n len L) (hL : ∀ i, i < n → L i = lcs (tt i) (len i)) : ∃ A cap, v = .slice A n cap ∧ LinksAt w w.heap.size A n len tt := by
  obtain ⟨hd, h1, h2⟩ := h
  obtain ⟨A, cap, rfl⟩ := own_rowS h1
  refine ⟨A, cap, rfl, hd, Reads.of_own h1, fun i hi => ?_⟩
  obtain ⟨u, h3, h4⟩ := h2 i hi
  obtain ⟨Ai, ci, rfl⟩ := own_rowS h4
  exact ⟨Ai, ci, h3, by rw [← hL i hi]; exact Reads.of_own h4⟩
theorem LinksAt.at_ {w : World} {B n : Nat} {A : Option Addr} {len : Nat → Nat} {tt : Nat → Nat → Nat → Option Nat} (h : LinksAt w B A n len tt) {i k : Nat} (hi : i < n) (hk : k < len i) :
    ∃ ad ai ci, A = some ad ∧ ad.block < B ∧ w.cell? (ad.add i) = some (.slice (some ai) (len i) ci) ∧ (ai.add (k * 4)).block < B ∧ ∀ d, d < 4 → w.cell? ((ai.add (k * 4)).add d) = some (.int .i64 (optI (tt i k d))) := by
  obtain ⟨hd, h1, h2⟩ := h
  obtain ⟨Ai, ci, h3, h5⟩ := h2 i hi
  obtain ⟨ad, u, rfl, hb, hu, hc⟩ := h1.at_ hi
  rw [h3] at hu
  injection hu with hu
  obtain ⟨ai, rfl, hb2, hc2⟩ := h5.2 (by omega)
  refine ⟨ad, ai, ci, rfl, hb, by rw [hc, ← hu], by rw [block_of_add]; exact hb2, fun d hd => ?_⟩
  have := hc2 (k * 4 + d) _ (lcs_get (tt i) (len i) k d hk hd)
  rw [add_of_add]
  exact this
theorem results_sp {fn : Func} {t u : Tmp} (h : fn.results = #[.cell t 67, .tmp u]) (tmps : Array Value) (w : World) (B : Nat) (v0 v1 : Value) (ht : tmps.getD t undef = .pointer (some ⟨B, 0, none⟩)) (c0 : w.cell? ⟨B, 0, none⟩ = some v0) (c1 : w.cell? ⟨B, 1, none⟩ = some v1) :
    (results fn tmps).run Try.prog w = .ok (.tuple #[.agg #[v0, v1], tmps.getD u undef]) w := by
  have ht' : tmps[t]?.getD undef = .pointer (some ⟨B, 0, none⟩) := by simpa using ht
  simp [results, h, ht', c0, c1, go_sem]
/-- Links that lead into the grid. -/
def Inside (W : Nat) (n : Nat) (len : Nat → Nat) (tt : Nat → Nat → Nat → Option Nat) : Prop :=
  ∀ (c k d m : Nat) (dx dz : Int), c < n → k < len c → stepD d = some (dx, dz) → tt c k d = some m → 0 ≤ (c : Int) + dz * W + dx ∧ (c : Int) + dz * W + dx < n ∧ m < len ((c : Int) + dz * W + dx).toNat
theorem three_alloc (w : World) (o1 o2 o3 : Obj) : (((w.alloc o1).alloc o2).alloc o3).heap[w.heap.size]? = some o1 ∧ (((w.alloc o1).alloc o2).alloc o3).heap[w.heap.size + 1]? = some o2 ∧ (((w.alloc o1).alloc o2).alloc o3).heap[w.heap.size + 1 + 1]? = some o3 ∧ Below w.heap.size w (((w.alloc o1).alloc o2).alloc o3) ∧ (((w.alloc o1).alloc o2).alloc o3).heap.size = w.heap.size + 3 := by
  have h1 := two_alloc w o1 o2
  have h2 := alloc2_new w o1 o2
  have h3 := World.alloc_heap_new ((w.alloc o1).alloc o2) o3
  have e : ((w.alloc o1).alloc o2).heap.size = w.heap.size + 1 + 1 := by simp
  have hb := (Below.refl ((w.alloc o1).alloc o2).heap.size ((w.alloc o1).alloc o2)).alloc (Nat.le_refl _) o3
  rw [e] at h3
  exact ⟨(hb.block _ (by rw [e]; omega)).trans h1, (hb.block _ (by rw [e]; omega)).trans h2, h3, (((Below.refl _ _).alloc (Nat.le_refl _) _).alloc (by simp) _).alloc (by simp; omega) _, by simp⟩
set_option maxHeartbeats 2000000 in
set_option maxRecDepth 100000 in
theorem wstep_any (X Z D : Int) (W : Nat) (F : Value) (A : Option Addr) (cap n : Nat) (len : Nat → Nat) (tt : Nat → Nat → Nat → Option Nat) (w : World) (hl : LinksAt w w.heap.size A n len tt) (hW : W ≤ 64) (hn : n ≤ 4096) (c k d : Nat) (hc : c < n) (hk : k < len c) (dx dz : Int) (hd : stepD d = some (dx, dz)) :
    Calls Try.prog 41 #[.agg #[.int .i64 X, .int .i64 Z, .int .i64 W, .int .i64 D, F, .slice A n cap], spv (c, k), .int .i64 d] w fun en w' =>
      en = .returned (.tuple #[.agg #[.int .i64 ((c : Int) + dz * W + dx), .int .i64 (optI (tt c k d))], .bool (decide (0 ≤ optI (tt c k d)))]) ∧ Below w.heap.size w w' := by
  have hst := fun w => step_any d w
  rw [hd] at hst
  simp only at hst
  have hs4 := stepD_opp hd
  unfold spv
  obtain ⟨p0, p1, p2, pb, ps⟩ := three_alloc w (.cells #[.int .i64 X, .int .i64 Z, .int .i64 W, .int .i64 D, F, .slice A n cap] 63) (.cells #[.int .i64 c, .int .i64 k] 67) (.cells #[.int .i64 0, .int .i64 0] 67)
  have hl2 := hl.below pb
  obtain ⟨ad, ai, ci, rfl, hbl, ha1, hbl2, ha2⟩ := hl2.at_ hc hk
  have hd4 : d < 4 := by omega
  have ha3 := ha2 d hd4
  obtain ⟨W2, hW2⟩ : ∃ W2, ((w.alloc (.cells #[.int .i64 X, .int .i64 Z, .int .i64 W, .int .i64 D, F, .slice (some ad) n cap] 63)).alloc (.cells #[.int .i64 c, .int .i64 k] 67)).alloc (.cells #[.int .i64 0, .int .i64 0] 67) = W2 := ⟨_, rfl⟩
  rw [hW2] at p0 p1 p2 pb ps ha1 ha3
  refine (callsIn_wide (n := 6)).1 ?_
  refine callsIn_of_wp Try.func41 rfl trivial ?_
  simp only [Try.ntmps41, List.size_toArray, List.length_cons, List.length_nil, Nat.reduceAdd, Nat.reduceSub, Array.replicate_succ, Array.replicate_zero, List.push_toArray, List.append_toArray, List.nil_append, List.cons_append]
  gi_wp2_with (refine ⟨trivial, ?_⟩; gi_at_call 50; refine (callsIn_wide.2 (hst _)).mono ?_; rintro en w1 ⟨rfl, hb1⟩)
  have hs1 := hb1.size
  have f0 := (hb1.block _ (lt_of_block p0)).trans p0
  have f1 := (hb1.block _ (lt_of_block p1)).trans p1
  have f2 := (hb1.block _ (lt_of_block p2)).trans p2
  have b1 := (hb1.cell (p := ad.add c) (by rw [block_of_add]; omega)).trans ha1
  have b3 := (hb1.cell (p := (ai.add (k * 4)).add d) (by rw [block_of_add]; omega)).trans ha3
  have hkl : (k : Int) < len c := by omega
  have hcl : (c : Int) < n := by omega
  have hdl : (d : Int) < 4 := by omega
  clear hst
  have hS : (CellsL [(⟨w.heap.size, 5, none⟩, .slice (some ad) n cap), (⟨w.heap.size + 1, 0, none⟩, .int .i64 c), (⟨w.heap.size + 1, 1, none⟩, .int .i64 k), (ad.add c, .slice (some ai) (len c) ci), ((ai.add (k * 4)).add d, .int .i64 (optI (tt c k d)))]) (w1.drew) := ⟨cell_of f0 rfl, cell_of f1 rfl, cell_of f1 rfl, b1, b3, trivial⟩
  refine wpIn_region_ord [(0, true), (1, true), (2, true), (3, true), (4, true), (5, true), (6, true), (7, true), (8, true), (9, true), (10, true), (11, true)] (CellsL [(⟨w.heap.size, 5, none⟩, .slice (some ad) n cap), (⟨w.heap.size + 1, 0, none⟩, .int .i64 c), (⟨w.heap.size + 1, 1, none⟩, .int .i64 k), (ad.add c, .slice (some ai) (len c) ci), ((ai.add (k * 4)).add d, .int .i64 (optI (tt c k d)))]) (fun _ => trivial) rfl (by first | exact then_put rfl | (intro c d v a w h; cases d <;> exact h)) (by kernel_rfl) ?_
  simp only [List.length_cons, List.length_nil, Nat.reduceAdd, List.drop_succ_cons, List.drop_zero]
  iterate 12 (apply wpOrd_quiet rfl hS rfl; (intro w' hw'; obtain ⟨q0, q1, q2, q3, q4, _⟩ := hw'; go_simp; exact rfl); go_simp)
  refine wpOrd_nil ?_
  clear hS b1 b3 hl hl2 ha1 ha3 ha2
  have hg : ∃ g : Int, dz * W = g ∧ -64 ≤ g ∧ g ≤ 64 := by
    refine ⟨_, rfl, ?_⟩
    have h3 : dz = -1 ∨ dz = 0 ∨ dz = 1 := by omega
    rcases h3 with rfl | rfl | rfl <;> omega
  obtain ⟨g, hg, hg1, hg2⟩ := hg
  have e0 : IntKind.i64.wrap (dz * W) = g := by rw [hg, IntKind.wrap_i64]; omega
  have e1 : IntKind.i64.wrap g = g := by rw [IntKind.wrap_i64]; omega
  have e2 : IntKind.i64.wrap ((c : Int) + g) = (c : Int) + g := by rw [IntKind.wrap_i64]; omega
  have e3 : IntKind.i64.wrap ((c : Int) + g + dx) = (c : Int) + g + dx := by rw [IntKind.wrap_i64]; omega
  have hbd : Below W2.heap.size W2 w1.drew := hb1.drew
  generalize w1.drew = w2 at hbd ⊢
  have hs2 := hbd.size
  clear f0 f1 f2 hb1
  replace f0 := (hbd.block _ (lt_of_block p0)).trans p0
  replace f1 := (hbd.block _ (lt_of_block p1)).trans p1
  replace f2 := (hbd.block _ (lt_of_block p2)).trans p2
  have q0 : w2.cell? ⟨w.heap.size, 2, none⟩ = some (.int .i64 W) := cell_of f0 rfl
  have q1 : w2.cell? ⟨w.heap.size + 1, 0, none⟩ = some (.int .i64 c) := cell_of f1 rfl
  have q2 : w2.cell? ⟨w.heap.size + 1 + 1, 0, none⟩ = some (.int .i64 0) := cell_of f2 rfl
  have q3 : w2.cell? ⟨w.heap.size + 1 + 1, 1, none⟩ = some (.int .i64 0) := cell_of f2 rfl
  have z0 : w2.frozen? ⟨w.heap.size + 1 + 1, 0, none⟩ = false := not_frozen f2
  have z1 : w2.frozen? ⟨w.heap.size + 1 + 1, 1, none⟩ = false := not_frozen f2
  gi_wp2
  refine bodyPost_ret (results_sp rfl _ _ (w.heap.size + 1 + 1) (.int .i64 ((c : Int) + g + dx)) (.int .i64 (optI (tt c k d))) rfl ?_ ?_) rfl ?_
  iterate 2 (go_simp)
  rw [hg]
  refine ⟨rfl, ?_⟩
  have hbw := pb.trans (hbd.mono (by omega))
  exact (hbw.setCell (p := ⟨w.heap.size + 1 + 1, 0, none⟩) (by show w.heap.size ≤ w.heap.size + 1 + 1; omega) _).setCell (p := ⟨w.heap.size + 1 + 1, 1, none⟩) (by show w.heap.size ≤ w.heap.size + 1 + 1; omega) _
end Go.Proofs.Ytcdfojfafnecdaa
