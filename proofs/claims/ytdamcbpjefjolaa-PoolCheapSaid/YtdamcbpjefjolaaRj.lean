/- What the law PoolCheap keeps: the pool, and a row of items of its own. No conditions. -/
import Derived.Test.YtdamcbpjefjolaaRe
import Derived.Test.YtdamcbpjefjolaaRv
namespace Go.Proofs.Ytdamcbpjefjolaa
open Go Go.RowKit Go.Sx Go.Mp
theorem vcs_set3 (y : V3) : ∀ (l : List V3) (k : Nat), k < l.length → (((vcs l).set (k * 3) (.int .i64 y.x)).set (k * 3 + 1) (.int .i64 y.y)).set (k * 3 + 2) (.int .i64 y.z) = vcs (l.set k y)
  | [], k, h => by simp at h
  | a :: l, 0, _ => by simp [vcs, V3.cs]
  | a :: l, k + 1, h => by
    have ih := vcs_set3 y l k (by simpa using h)
    have e : ∀ l : List V3, vcs (a :: l) = .int .i64 a.x :: .int .i64 a.y :: .int .i64 a.z :: vcs l := fun l => by simp [vcs, V3.cs]
    rw [List.set_cons_succ, e, e, show (k + 1) * 3 = k * 3 + 1 + 1 + 1 by omega, ← ih]
    simp [List.set_cons_succ]
/-- An item of a row of one's own is written. -/
theorem row_set3 {w : World} {base g n cap : Nat} {l : List V3} (h : w.ownsRow base 30 3 (.slice (some ⟨g, 0, none⟩) n cap) n (vcs l)) {k : Nat} (hk : k < l.length) (y : V3) :
    (((w.setCell ⟨g, k * 3, none⟩ (.int .i64 y.x)).setCell ⟨g, k * 3 + 1, none⟩ (.int .i64 y.y)).setCell ⟨g, k * 3 + 2, none⟩ (.int .i64 y.z)).ownsRow base 30 3 (.slice (some ⟨g, 0, none⟩) n cap) n (vcs (l.set k y)) ∧
    w.grownBy (((w.setCell ⟨g, k * 3, none⟩ (.int .i64 y.x)).setCell ⟨g, k * 3 + 1, none⟩ (.int .i64 y.y)).setCell ⟨g, k * 3 + 2, none⟩ (.int .i64 y.z)) (some g) := by
  obtain ⟨h1, g1⟩ := h.stored (k * 3) (.int .i64 y.x)
  obtain ⟨h2, g2⟩ := h1.stored (k * 3 + 1) (.int .i64 y.y)
  obtain ⟨h3, g3⟩ := h2.stored (k * 3 + 2) (.int .i64 y.z)
  rw [vcs_set3 y l k hk] at h3
  exact ⟨h3, (g1.trans g2).trans g3⟩
/-- What the pool's calls leave of a row of one's own. -/
theorem own30_keep {base base' : Nat} {v u : Value} {w w' : World} {n : Nat} {xs : List Value} (h : w.ownsRow base' 30 3 u n xs) (hd : ∀ k, u.ownBlock = some k → v.ownBlock ≠ some k) (hF : PFr base v w w') : w'.ownsRow base' 30 3 u n xs := by
  rcases h.2 with ⟨rfl, h0⟩ | ⟨g, cap, cur, rfl, h1, hg, h3⟩
  · exact ⟨h.1, .inl ⟨rfl, h0⟩⟩
  · exact ⟨h.1, .inr ⟨g, cap, cur, rfl, h1, hF.keep hg (.inr ⟨_, _, _, hg, by decide, by decide, fun _ => hd g rfl⟩), h3⟩⟩
theorem dis_next {u v v' : Value} {w : World} {base n : Nat} {xs : List Value} (h : w.ownsRow base 30 3 u n xs) (hd : ∀ k, u.ownBlock = some k → v.ownBlock ≠ some k) (hV : VL v v' w) : ∀ k, u.ownBlock = some k → v'.ownBlock ≠ some k := fun k hk e => by
  rcases hV with hV | hV
  · rw [hV] at e; exact hd k hk e
  · have := hV k e
    have := (h.lt k hk).2
    omega
/-- A row of one's own is written: the pool stays. -/
theorem PoolIn.row30 {w w8 : World} {base b bm n base' : Nat} {v u : Value} {room : Int} {E : List En} {h : List V3} {xs : List Value} (H : PoolIn w base b bm v room E h) (hu : w.ownsRow base' 30 3 u n xs) (hd : ∀ k, u.ownBlock = some k → v.ownBlock ≠ some k) (hg : w.grownBy w8 u.ownBlock) : PoolIn w8 base b bm v room E h := by
  have hrow : ∀ k, u.ownBlock = some k → ∃ c, w.heap[k]? = some (.cells c 30 (0, 0)) := fun k hk => by
    rcases hu.2 with ⟨rfl, _⟩ | ⟨g, cap, cur, rfl, _, h1, _⟩
    · cases hk
    · injection hk with hk
      exact ⟨cur, by rw [← show g = k from hk]; exact h1⟩
  have keep : ∀ {k : Nat} {o' : Obj}, w.heap[k]? = some o' → ((∀ c, o' ≠ .cells c 30 (0, 0)) ∨ v.ownBlock = some k) → w8.heap[k]? = some o' := fun {k o'} hk hne =>
    (hg.block k (lt_of_block hk) (fun e => by
      obtain ⟨c, hc⟩ := hrow k e.symm
      rw [hk] at hc
      injection hc with hc
      rcases hne with hne | hne
      · exact hne c hc
      · exact hd k e.symm hne)).trans hk
  obtain ⟨es, cl, h1, h2⟩ := H.mp
  refine ⟨keep H.pb (.inl fun c e => by injection e with _ e; cases e), ⟨es, cl, keep h1 (.inl fun c e => by cases e), h2⟩, fun e he => keep (H.nd e he) (.inl fun c e => by injection e with _ e; cases e), ?_, H.ps, H.ks, H.b0, H.b1, H.b2⟩
  rcases H.row.2 with ⟨rfl, h0⟩ | ⟨g, cap, cur, rfl, h1, hg', h3⟩
  · exact ⟨H.row.1, .inl ⟨rfl, h0⟩⟩
  · exact ⟨H.row.1, .inr ⟨g, cap, cur, rfl, h1, keep hg' (.inr rfl), h3⟩⟩
/-- What the law keeps: the least items put lie in a row of its own. -/
structure CIn (w0 wr : World) (b bm i : Nat) (u v : Value) (E : List En) (h L : List V3) : Prop where
  pool : PoolIn wr w0.heap.size b bm v 16384 E h
  inv : InvC E h
  row : wr.ownsRow w0.heap.size 30 3 u L.length (vcs L)
  dis : ∀ k, u.ownBlock = some k → v.ownBlock ≠ some k
  hl : h.length ≤ i
  el : E.length ≤ i
  low : Below w0.heap.size w0 wr
theorem CIn.below {w0 wr w3 : World} {b bm i : Nat} {u v : Value} {E : List En} {h L : List V3} (H : CIn w0 wr b bm i u v E h L) (hb : Below wr.heap.size wr w3) : CIn w0 w3 b bm i u v E h L :=
  ⟨H.pool.below hb, H.inv, own_below H.row hb, H.dis, H.hl, H.el, H.low.trans (hb.mono H.low.size)⟩
theorem CIn.drewN {w0 wr : World} {b bm i : Nat} {u v : Value} {E : List En} {h L : List V3} (H : CIn w0 wr b bm i u v E h L) (n : Nat) : CIn w0 (wr.drewN n) b bm i u v E h L := H.below (below_drewN (Below.refl _ _) n)
theorem CIn.next {w0 wr w3 : World} {b bm i i' : Nat} {u v v3 : Value} {E E3 : List En} {h h3 L : List V3} (H : CIn w0 wr b bm i u v E h L) (hF : PFr w0.heap.size v wr w3) (hV : VL v v3 wr) (hP : PoolIn w3 w0.heap.size b bm v3 16384 E3 h3) (hI : InvC E3 h3) (hh : h3.length ≤ i') (hE : E3.length ≤ i') : CIn w0 w3 b bm i' u v3 E3 h3 L :=
  ⟨hP, hI, own30_keep H.row H.dis hF, dis_next H.row H.dis hV, hh, hE, H.low.trans (hF.low H.low.size)⟩
theorem CIn.turn {w0 wr w8 : World} {b bm i : Nat} {u u8 v : Value} {E : List En} {h L L8 : List V3} (H : CIn w0 wr b bm i u v E h L) (hg : wr.grownBy w8 u.ownBlock) (hr : w8.ownsRow w0.heap.size 30 3 u8 L8.length (vcs L8)) (hd : ∀ k, u8.ownBlock = some k → v.ownBlock ≠ some k) : CIn w0 w8 b bm i u8 v E h L8 :=
  ⟨H.pool.row30 H.row H.dis hg, H.inv, hr, hd, H.hl, H.el, H.low.grown hg H.low.size (fun k e => (H.row.lt k e).1)⟩
end Go.Proofs.Ytdamcbpjefjolaa
