/- open.All by a walk: it copies the rows of a grid that may be. No conditions but that the grid lies where it is said to lie. -/
import Derived.Test.YtbjbiimkhpfieaaAj
import Derived.RangeFuncBox
namespace Go.Proofs.Ytbjbiimkhpfieaa
open Go Go.RowKit Go.Sx
/-- A box that holds a grid. -/
def GB (B : Nat) (X Z W D : Int) (v : Value) (w : World) : Prop := w.heap[B]? = some (.cells #[.int .i64 X, .int .i64 Z, .int .i64 W, .int .i64 D, v] 26 (0, 0))
theorem GB.lt {B : Nat} {X Z W D : Int} {v : Value} {w : World} (h : GB B X Z W D v w) : B < w.heap.size := (Array.getElem?_eq_some_iff.1 h).1
theorem GB.cells {B : Nat} {X Z W D : Int} {v : Value} {w : World} (h : GB B X Z W D v w) : w.cell? ⟨B, 0, none⟩ = some (.int .i64 X) ∧ w.cell? ⟨B, 1, none⟩ = some (.int .i64 Z) ∧ w.cell? ⟨B, 2, none⟩ = some (.int .i64 W) ∧ w.cell? ⟨B, 3, none⟩ = some (.int .i64 D) ∧ w.cell? ⟨B, 4, none⟩ = some v ∧
    w.frozen? ⟨B, 0, none⟩ = false ∧ w.frozen? ⟨B, 1, none⟩ = false ∧ w.frozen? ⟨B, 2, none⟩ = false ∧ w.frozen? ⟨B, 3, none⟩ = false ∧ w.frozen? ⟨B, 4, none⟩ = false := by
  unfold GB at h
  refine ⟨?_, ?_, ?_, ?_, ?_, ?_, ?_, ?_, ?_, ?_⟩
  iterate 5 (simp [World.cell?, h])
  iterate 5 (simp [World.frozen?, h])
theorem GB.kept {B : Nat} {X Z W D : Int} {v : Value} {w w' : World} {row : Option Nat} (h : GB B X Z W D v w) (hg : w.grownBy w' row) (hne : some B ≠ row) : GB B X Z W D v w' := (hg.block B h.lt hne).trans h
theorem GB.below {B N : Nat} {X Z W D : Int} {v : Value} {w w' : World} (h : GB B X Z W D v w) (hb : Below N w w') (hN : B < N) : GB B X Z W D v w' := (hb.block B hN).trans h
theorem GB.set {B : Nat} {X Z W D : Int} {v : Value} {w : World} (h : GB B X Z W D v w) (v' : Value) : GB B X Z W D v' (w.setCell ⟨B, 4, none⟩ v') := by
  unfold GB at h ⊢
  rw [heap_setCell_same _ _ _ _ _ _ h]
  simp
theorem GB.not_row {B : Nat} {X Z W D : Int} {v u : Value} {w : World} {base size k : Nat} {e : TypeId} {xs : List Value} (h : GB B X Z W D v w) (hr : w.ownsRow base e size u k xs) (he : 26 ≠ e) : some B ≠ u.ownBlock := by
  rcases hr.2 with ⟨rfl, _⟩ | ⟨g, cap, cur, rfl, _, hgb, _⟩
  · simp [Value.ownBlock]
  · intro e'
    obtain rfl : B = g := by simpa [Value.ownBlock] using e'
    have := (show w.heap[B]? = _ from h).symm.trans hgb
    simp at this
    exact he this.2
theorem rows_apart {w : World} {b1 b2 s1 s2 k1 k2 : Nat} {e1 e2 : TypeId} {u1 u2 : Value} {x1 x2 : List Value} (h1 : w.ownsRow b1 e1 s1 u1 k1 x1) (h2 : w.ownsRow b2 e2 s2 u2 k2 x2) (he : e1 ≠ e2) : u1.ownBlock = none ∨ u1.ownBlock ≠ u2.ownBlock := by
  rcases h1.2 with ⟨rfl, _⟩ | ⟨g, cap, cur, rfl, _, hg, _⟩
  · exact .inl rfl
  · rcases h2.2 with ⟨rfl, _⟩ | ⟨g', cap', cur', rfl, _, hg', _⟩
    · exact .inr (by simp [Value.ownBlock])
    · refine .inr fun e => ?_
      obtain rfl : g = g' := by simpa [Value.ownBlock] using e
      rw [hg] at hg'
      simp at hg'
      exact he hg'.2
/-- Rows of floors that the call has made. -/
def OwnRows (w : World) (N : Nat) (v : Value) (rows : List (List V3)) : Prop :=
  ∃ hd : List Value, w.ownsRow N 36 1 v rows.length hd ∧ ∀ (i : Nat) (r : List V3), rows[i]? = some r → ∃ u, hd[i]? = some u ∧ w.ownsRow N 39 3 u r.length (vcs r)
theorem OwnRows.nil (w : World) (N : Nat) : OwnRows w N (.slice none 0 0) [] := ⟨[], World.ownsRow_nil _ _ _ _, fun i r h => by simp at h⟩
theorem OwnRows.below {w w' : World} {N : Nat} {v : Value} {rows : List (List V3)} (h : OwnRows w N v rows) (hb : Below w.heap.size w w') : OwnRows w' N v rows := by
  obtain ⟨hd, h1, h2⟩ := h
  exact ⟨hd, ownsRow_below h1 hb, fun i r hr => by obtain ⟨u, a, b⟩ := h2 i r hr; exact ⟨u, a, ownsRow_below b hb⟩⟩
theorem OwnRows.turn {w w' : World} {N : Nat} {v : Value} {rows : List (List V3)} {row : Option Nat} (h : OwnRows w N v rows) (hg : w.grownBy w' row) (hv : v.ownBlock = none ∨ v.ownBlock ≠ row)
    (hu : ∀ b s k u xs, w.ownsRow b 39 s u k xs → u.ownBlock = none ∨ u.ownBlock ≠ row) : OwnRows w' N v rows := by
  obtain ⟨hd, h1, h2⟩ := h
  exact ⟨hd, h1.kept hg hv, fun i r hr => by obtain ⟨u, a, b⟩ := h2 i r hr; exact ⟨u, a, b.kept hg (hu _ _ _ _ _ b)⟩⟩
theorem grownBy_setCell4 (W : World) (b k : Nat) (v : Value) : W.grownBy (W.setCell ⟨b, k, none⟩ v) (some b) :=
  ⟨rfl, rfl, rfl, (KeepsWalks.setCell W _ v).size, fun k' _ hk => Below.heap_setCell _ _ _ k' (fun e => hk (by rw [e]))⟩
theorem OwnRows.set {w : World} {N B k : Nat} {X Z W D : Int} {v u : Value} {rows : List (List V3)} (h : OwnRows w N v rows) (hg : GB B X Z W D u w) (x : Value) : OwnRows (w.setCell ⟨B, k, none⟩ x) N v rows := by
  refine h.turn (grownBy_setCell4 w B k x) ?_ fun b s n u xs hu => .inr fun e => hg.not_row hu (by decide) e.symm
  obtain ⟨hd, h1, _⟩ := h
  exact .inr fun e => hg.not_row h1 (by decide) e.symm
theorem OwnRows.snoc {w w' : World} {N : Nat} {v v' u : Value} {rows : List (List V3)} {r : List V3} {hd : List Value} (h1 : w.ownsRow N 36 1 v rows.length hd) (h2 : ∀ (i : Nat) (r : List V3), rows[i]? = some r → ∃ u, hd[i]? = some u ∧ w.ownsRow N 39 3 u r.length (vcs r))
    (hu : w.ownsRow N 39 3 u r.length (vcs r)) (h' : w'.ownsRow N 36 1 v' (rows.length + 1) (hd ++ [u])) (hg : w.grownBy w' v.ownBlock) : OwnRows w' N v' (rows ++ [r]) := by
  have hlen : hd.length = rows.length := by have := h1.1; simpa using this
  have key : ∀ {u : Value} {k : Nat} {xs : List Value}, w.ownsRow N 39 3 u k xs → w'.ownsRow N 39 3 u k xs := fun hu => hu.kept hg (rows_apart hu h1 (by decide))
  refine ⟨hd ++ [u], by rw [List.length_append]; exact h', fun i q hq => ?_⟩
  by_cases hi : i < rows.length
  · rw [List.getElem?_append_left hi] at hq
    obtain ⟨y, a, b⟩ := h2 i q hq
    exact ⟨y, by rw [List.getElem?_append_left (by omega)]; exact a, key b⟩
  · have hlt := (List.getElem?_eq_some_iff.1 hq).1
    simp at hlt
    obtain rfl : i = rows.length := by omega
    rw [List.getElem?_append_right (by omega), Nat.sub_self] at hq
    simp at hq
    subst hq
    exact ⟨u, by rw [← hlen, List.getElem?_append_right (by omega)]; simp, key hu⟩
theorem info36 : (Try.prog.info? 36).map (fun i => (i.zero, i.size, i.bytes)) = some (some (.slice none 0 0), 1, 24) := by kernel_rfl
theorem ownsRow_base {w : World} {N N' : Nat} {e : TypeId} {s n : Nat} {v : Value} {xs : List Value} (h : w.ownsRow N' e s v n xs) (hN : N ≤ N') : w.ownsRow N e s v n xs := by
  refine ⟨h.1, ?_⟩
  rcases h.2 with hn | ⟨g, cap, cur, rfl, hb, rest⟩
  · exact .inl hn
  · exact .inr ⟨g, cap, cur, rfl, Nat.le_trans hN hb, rest⟩
theorem own_slice {w : World} {N : Nat} {e : TypeId} {s n : Nat} {v : Value} {xs : List Value} (h : w.ownsRow N e s v n xs) : ∃ A c, v = .slice A n c := by
  rcases h.2 with ⟨rfl, rfl⟩ | ⟨g, cap, cur, rfl, _⟩ <;> exact ⟨_, _, rfl⟩
theorem own_one {w : World} {N : Nat} {e : TypeId} {s n : Nat} {v : Value} {xs : List Value} (h : w.ownsRow N e s v n xs) : v.oneCell' = true := by
  rcases h.2 with ⟨rfl, _⟩ | ⟨g, cap, cur, rfl, _⟩ <;> rfl
theorem step_go {P : Program} {ops : Array Oper} {o : Oper} {a : Act} {w : World} {K : Act → World → Prop} {Q : Exit → Act → World → Prop} {E : Prop} (hgd : o.guard = none) (f : Nat) (xs : Array Operand) (ts : Array TypeId)
    (_ : o.op = .call { callee := .value (.func f), args := xs, argTypes := ts }) (h : Oper.wp P o a w K Q) : if Region.wanted o (yielded ops a.tmps) = true then Oper.wp P o a w K Q else E := by
  have hw : Region.wanted o (yielded ops a.tmps) = true := by simp [Region.wanted, hgd]
  rw [if_pos hw]; exact h
theorem reads_one (w : World) (u : Value) (t : TypeId) : Reads (w.alloc (.cells #[u] t)) (w.heap.size + 1) 1 (some ⟨w.heap.size, 0, none⟩) 1 [u] :=
  ⟨rfl, fun _ => ⟨_, rfl, by show w.heap.size < _; omega, cell_one_new _ _ _⟩⟩
theorem all_round {w wr w2 w3 : World} {k : Nat} {X Z W D : Int} {v v' u : Value} {hd : List Value} {rows : List (List V3)} {r : List V3} (hb : Below w.heap.size w wr) (hb2 : Below wr.heap.size wr w2) (hown2 : w2.ownsRow w.heap.size 36 1 v k hd)
    (hels : ∀ (i : Nat) (r : List V3), (rows.take k)[i]? = some r → ∃ u, hd[i]? = some u ∧ wr.ownsRow w.heap.size 39 3 u r.length (vcs r)) (hu : w2.ownsRow w.heap.size 39 3 u r.length (vcs r))
    (hown3 : w3.ownsRow w.heap.size 36 1 v' (k + 1) (hd ++ [u])) (hg3 : (w2.alloc (.cells #[u] 36)).grownBy w3 v.ownBlock) (hv3 : GB (w.heap.size + 2) X Z W D v w3) (hk : (rows.take k).length = k := by assumption) :
    GB (w.heap.size + 2) X Z W D v' (w3.setCell ⟨w.heap.size + 2, 4, none⟩ v') ∧ OwnRows (w3.setCell ⟨w.heap.size + 2, 4, none⟩ v') w.heap.size v' (rows.take k ++ [r]) ∧ Below w.heap.size w (w3.setCell ⟨w.heap.size + 2, 4, none⟩ v') := by
  have hs := hb.size
  have hs2 := hb2.size
  have h3 : OwnRows w3 w.heap.size v' (rows.take k ++ [r]) := OwnRows.snoc (w := w2.alloc (.cells #[u] 36)) (hd := hd) (by rw [hk]; exact hown2.alloc _) (fun i q hq => by
    obtain ⟨y, a, b⟩ := hels i q hq
    exact ⟨y, a, (ownsRow_below b hb2).alloc _⟩) (hu.alloc _) (by rw [hk]; exact hown3) hg3
  refine ⟨hv3.set v', h3.set hv3 v', ?_⟩
  refine Below.setCell (p := ⟨w.heap.size + 2, 4, none⟩) ?_ (by show w.heap.size ≤ w.heap.size + 2; omega) _
  refine (hb.trans ((hb2.mono hs).alloc (by omega) (.cells #[u] 36))).grown hg3 (by simp; omega) fun j e => ?_
  rcases hown2.2 with ⟨rfl, _⟩ | ⟨g, cap, cur, rfl, hbg, _⟩
  · simp [Value.ownBlock] at e
  · obtain rfl : g = j := by simpa [Value.ownBlock] using e
    exact hbg
set_option maxHeartbeats 4000000 in
set_option maxRecDepth 100000 in
theorem all_ok (X Z W D : Int) (rows : List (List V3)) (A : Option Addr) (cap : Nat) (w : World) (hr : RowsAt w w.heap.size A rows) (hl : lensOk rows) (ho : gridOk X Z W D rows) :
    Calls Try.prog 37 #[gridv X Z W D A rows.length cap] w fun en w' =>
      en = .returned (.func (.func 47) #[] #[.pointer (some ⟨w.heap.size + 2, 0, none⟩)]) ∧ (∃ v, GB (w.heap.size + 2) X Z W D v w' ∧ OwnRows w' w.heap.size v rows) ∧ Below w.heap.size w w' := by
  obtain ⟨i0, hi, hz0, hz1, hz2⟩ := info_parts info36
  have hmx : maxLen = 9223372036854775807 := rfl
  have hrl : rows.length ≤ 4096 := by
    obtain ⟨_, _, _, _, o5, o6, o7, o8, o9, _⟩ := ho
    have := Int.mul_le_mul o6 o8 o7 (by omega : (0 : Int) ≤ 64)
    omega
  have h8 : ∀ r ∈ rows, r.length ≤ 8 := fun r hm => (ho.2.2.2.2.2.2.2.2.2 r hm).2
  obtain ⟨W4, hW4⟩ : ∃ W4, ((w.alloc (.cells #[.int .i64 X, .int .i64 Z, .int .i64 W, .int .i64 D, .slice A rows.length cap] 26)).alloc (.cells #[.pointer (some ⟨w.heap.size, 0, none⟩)] 87)).alloc (.cells #[.int .i64 X, .int .i64 Z, .int .i64 W, .int .i64 D, .slice none 0 0] 26) = W4 := ⟨_, rfl⟩
  have hb4 : Below w.heap.size w W4 := by rw [← hW4]; exact (((Below.refl _ _).alloc (Nat.le_refl _) _).alloc (by simp) _).alloc (by simp <;> omega) _
  have hs4 : W4.heap.size = w.heap.size + 3 := by rw [← hW4]; simp
  have hg4 : GAt w.heap.size X Z W D A rows.length cap W4 := by
    rw [← hW4]
    exact (GAt.new X Z W D A rows.length cap w 26).below (N := w.heap.size + 1) (((Below.refl _ _).alloc (by simp) _).alloc (by simp <;> omega) _) (by omega)
  have ho4 : GB (w.heap.size + 2) X Z W D (.slice none 0 0) W4 := by
    rw [← hW4]
    have := World.alloc_heap_new ((w.alloc (.cells #[.int .i64 X, .int .i64 Z, .int .i64 W, .int .i64 D, .slice A rows.length cap] 26)).alloc (.cells #[.pointer (some ⟨w.heap.size, 0, none⟩)] 87)) (.cells #[.int .i64 X, .int .i64 Z, .int .i64 W, .int .i64 D, .slice none 0 0] 26)
    simpa [GB] using this
  have hm := may_any w.heap.size X Z W D rows A cap W4 hg4 ((hr.below hb4).more hb4.size) hl
  subst hW4
  unfold gridv
  go_enter Try.func37, Try.ntmps37
  go_wp2_with (go_at_call 42; refine hm.mono ?_; rintro en w1 ⟨hen, hb1⟩; obtain rfl := hen.tt ho; obtain ⟨g0, g1, g2, g3, g4, glt⟩ := hg4.below hb1 hg4.lt; have ho1 := ho4.below hb1 (by omega); have hbw1 := hb4.trans (hb1.mono hb4.size); clear hen)
  have hg1 : GAt w.heap.size X Z W D A rows.length cap w1 := ⟨g0, g1, g2, g3, g4, glt⟩
  clear g0 g1 g2 g3 g4 glt hm
  go_loopw [15] (fun i wr => ∃ k : Nat, i = .int .i64 k ∧ k ≤ rows.length ∧ (∃ v, GB (w.heap.size + 2) X Z W D v wr ∧ OwnRows wr w.heap.size v (rows.take k)) ∧ Below w.heap.size w wr)
    (fun i _ => rows.length - (intOf i).toNat)
  case atStart => exact ⟨0, rfl, Nat.zero_le _, ⟨_, ho1, OwnRows.nil _ _⟩, hbw1⟩
  case round =>
    obtain ⟨k, rfl, hk, ⟨v, hv, hrows⟩, hb⟩ := hrel
    by_cases hkn : k < rows.length
    · obtain ⟨ad, Ai, ci, rfl, hbl, hc0, hrr⟩ := hr.at_ hkn
      have hc := (hb.cell (p := ad.add k) (by rw [block_of_add]; exact hbl)).trans hc0
      have hkn' : (k : Int) < (rows.length : Int) := by omega
      have hget : rows.take (k + 1) = rows.take k ++ [rows[k]] := List.take_succ_eq_append_getElem hkn
      have h8k := h8 _ (List.getElem_mem hkn)
      generalize rows[k] = r at hc hrr hget h8k
      have hcl : ∀ {W' : World}, Below w.heap.size w W' → Calls Try.prog 46 #[.slice Ai r.length ci] W' fun en w' => ∃ u, en = .returned u ∧ w'.ownsRow w.heap.size 39 3 u r.length (vcs r) ∧ Below W'.heap.size W' w' := fun {W'} h =>
        (clone_any r Ai ci W' ((hrr.below h).more h.size) h8k).mono fun en w' ⟨u, a, b, c⟩ => ⟨u, a, ownsRow_base b h.size, c⟩
      obtain ⟨hd, hown, hels⟩ := hrows
      have htl : (rows.take k).length = k := by rw [List.length_take]; omega
      rw [htl] at hown
      have hsz := hb.size
      have hvl := hv.lt
      obtain ⟨v0, v1, v2, v3, v4, f0, f1, f2, f3, f4⟩ := hv.cells
      go_wp2
      clear hc hc0
      go_region_law (first
        | (refine step_go rfl 46 _ _ rfl ?_; go_simp; go_at_call 46; refine (hcl ?_).mono ?_; (first | exact hb.drew | exact hb); rintro en w2 ⟨u, rfl, hu, hb2⟩; obtain ⟨Au, cu, rfl⟩ := own_slice hu; have hb2' : Below wr.heap.size wr w2 := ((Below.refl _ wr).drew).trans hb2; have hv2 := hv.below hb2' hvl; obtain ⟨_, _, _, _, v24, _, _, _, _, f24⟩ := hv2.cells; have hown2 := ownsRow_below hown hb2'; have hs2 := hb2'.size; have v24a := fun o => (World.cell?_alloc_lt w2 o ⟨w.heap.size + 2, 4, none⟩ hv2.lt).trans v24)
        | (refine step_append_any _ rfl (.tmp 20) (.tmp 23) _ rfl w.heap.size 36 i0 _ 1 24 Try.underlying24 hi hz0 hz1 hz2 rfl (by omega) v k hd (by rfl) (hown2.alloc _) (w2.heap.size + 1) (some ⟨w2.heap.size, 0, none⟩) 1 1 [.slice Au r.length cu] (by rfl) (reads_one _ _ _) (by intro y hy; simp at hy; subst hy; exact own_one hu) (by omega) (by omega) (by simp; omega) ?_; intro v' w3 hown3 hg3 _; obtain ⟨Av, cv, rfl⟩ := own_slice hown3; have hvn : some (w.heap.size + 2) ≠ v.ownBlock := hv2.not_row hown2 (by decide); have hv3 := (hv2.below ((Below.refl _ _).alloc (Nat.le_refl _) _) hv2.lt).kept hg3 hvn; obtain ⟨_, _, _, _, v34, _, _, _, _, f34⟩ := hv3.cells))
      all_goals have hfin := Lib.hid (all_round hb hb2' hown2 hels hu hown3 hg3 hv3)
      all_goals clear v0 v1 v2 v3 v4 f0 f1 f2 f3 f4 v24 f24 v34 f34 v24a hown hown2 hown3 hu hv hv2 hv3 hg3 hvn hels
      all_goals go_wp2
      all_goals go_roundw
      all_goals first
        | (case rel => exact ⟨k + 1, by go_num, by omega, ⟨_, hfin.out.1, by rw [hget]; exact hfin.out.2.1⟩, hfin.out.2.2⟩)
        | (case measure => show rows.length - ((k : Int) + 1).toNat < rows.length - ((k : Int)).toNat; omega)
    · obtain rfl : k = rows.length := by omega
      rw [List.take_length] at hrows
      go_wp2
      go_ret
      exact ⟨rfl, ⟨v, hv, hrows⟩, hb⟩
end Go.Proofs.Ytbjbiimkhpfieaa
