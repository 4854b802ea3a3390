/- links.each by a walk: a row of rows, one a column. No conditions but that the grid lies where it is said to lie. -/
import Derived.Test.YtcdfojfafnecdaaFb
import Derived.Test.YtcdfojfafnecdaaRh
namespace Go.Proofs.Ytcdfojfafnecdaa
open Go Go.RowKit Go.Sx
attribute [local go_sem] Oper.semAt_some
/-- A row of the call's own, of n rows of links of its own. -/
def LRows (w : World) (base : Nat) (v : Value) (n : Nat) (len : Nat → Nat) (L : Nat → List Value) : Prop :=
  ∃ hd, w.ownsRow base 73 1 v n hd ∧ ∀ i, i < n → ∃ u, hd[i]? = some u ∧ w.ownsRow base 75 4 u (len i) (L i)
theorem LRows.nil (w : World) (base : Nat) (len : Nat → Nat) (L : Nat → List Value) : LRows w base (.slice none 0 0) 0 len L := ⟨[], World.ownsRow_nil _ _ _ _, fun i hi => by omega⟩
theorem own_ne {w : World} {base base' s s' n n' : Nat} {e e' : TypeId} {v v' : Value} {xs xs' : List Value} (h : w.ownsRow base e s v n xs) (h' : w.ownsRow base' e' s' v' n' xs') (he : e ≠ e') {k : Nat} (hk : v.ownBlock = some k) : v'.ownBlock ≠ some k := by
  rcases h.2 with ⟨rfl, _⟩ | ⟨g, cap, cur, rfl, _, hg, _⟩
  · cases hk
  · rcases h'.2 with ⟨rfl, _⟩ | ⟨g', cap', cur', rfl, _, hg', _⟩
    · simp [Value.ownBlock]
    · intro hk'
      injection hk with hk
      injection hk' with hk'
      have hk2 : g = k := hk
      have hk3 : g' = k := hk'
      subst hk2; subst hk3
      rw [hg] at hg'
      injection hg' with hg'
      injection hg' with _ hg'
      exact he hg'
theorem LRows.below {w w' : World} {base n : Nat} {v : Value} {len : Nat → Nat} {L : Nat → List Value} (h : LRows w base v n len L) (hb : Below w.heap.size w w') : LRows w' base v n len L := by
  obtain ⟨hd, h1, h2⟩ := h
  refine ⟨hd, own_below h1 hb, fun i hi => ?_⟩
  obtain ⟨u, h3, h4⟩ := h2 i hi
  exact ⟨u, h3, own_below h4 hb⟩
/-- One more. -/
theorem LRows.snoc {w w8 : World} {base n : Nat} {v v8 u : Value} {len : Nat → Nat} {L : Nat → List Value} {o : Obj} {hd : List Value} (h1 : w.ownsRow base 73 1 v n hd) (h2 : ∀ i, i < n → ∃ u, hd[i]? = some u ∧ w.ownsRow base 75 4 u (len i) (L i)) (hu : w.ownsRow base 75 4 u (len n) (L n))
    (hg : (w.alloc o).grownBy w8 v.ownBlock) (hown : w8.ownsRow base 73 1 v8 (n + 1) (hd ++ [u])) : LRows w8 base v8 (n + 1) len L := by
  have hb : Below w.heap.size w (w.alloc o) := (Below.refl _ _).alloc (Nat.le_refl _) _
  have hlen : hd.length = n := by have := h1.1; omega
  have keep : ∀ {u : Value} {m : Nat} {xs : List Value}, w.ownsRow base 75 4 u m xs → w8.ownsRow base 75 4 u m xs := fun {u m xs} h4 => by
    refine (own_below h4 hb).kept hg ?_
    cases hv : v.ownBlock with
    | none =>
      cases hu : u.ownBlock with
      | none => exact .inl rfl
      | some k => exact .inr (by simp)
    | some k => exact .inr (own_ne h1 h4 (by decide) hv)
  refine ⟨hd ++ [u], hown, fun i hi => ?_⟩
  by_cases hin : i < n
  · obtain ⟨u', h3, h4⟩ := h2 i hin
    exact ⟨u', by rw [List.getElem?_append_left (by omega)]; exact h3, keep h4⟩
  · obtain rfl : i = n := by omega
    exact ⟨u, by rw [List.getElem?_append_right (by omega), hlen]; simp, keep hu⟩
theorem own_rowS {w : World} {base s n : Nat} {e : TypeId} {v : Value} {xs : List Value} (h : w.ownsRow base e s v n xs) : ∃ A cap, v = .slice A n cap := by
  rcases h.2 with ⟨rfl, rfl⟩ | ⟨g, cap, cur, rfl, _⟩
  · exact ⟨none, 0, rfl⟩
  · exact ⟨_, cap, rfl⟩
theorem own_base {w : World} {base base' s n : Nat} {e : TypeId} {v : Value} {xs : List Value} (h : w.ownsRow base e s v n xs) (hb : base' ≤ base) : w.ownsRow base' e s v n xs := by
  refine ⟨h.1, ?_⟩
  rcases h.2 with h0 | ⟨g, cap, cur, e1, e2, e3⟩
  · exact .inl h0
  · exact .inr ⟨g, cap, cur, e1, Nat.le_trans hb e2, e3⟩
theorem spot_bd {X Z W D : Int} {rows : List (List V3)} (ho : gridOk X Z W D rows) {k : Nat} (hk : k < rows.length) : 0 < W ∧ 0 ≤ (k : Int) % W ∧ (k : Int) % W < 64 ∧ 0 ≤ (k : Int) / W ∧ (k : Int) / W < 64 := by
  obtain ⟨_, _, _, _, o5, o6, o7, o8, o9, _⟩ := ho
  have hW : 0 < W := by
    rcases Int.lt_or_le 0 W with h | h
    · exact h
    · obtain rfl : W = 0 := by omega
      rw [Int.zero_mul] at o9
      omega
  have h1 := Int.emod_nonneg (k : Int) (by omega : W ≠ 0)
  have h2 := Int.emod_lt_of_pos (k : Int) hW
  have h3 := Int.ediv_nonneg (a := (k : Int)) (b := W) (by omega) (by omega)
  have h4 : (k : Int) / W < D := Int.ediv_lt_of_lt_mul hW (by rw [Int.mul_comm]; omega)
  omega
theorem infoR : (Try.prog.info? 73).map (fun i => (i.zero, i.size, i.bytes)) = some (some (.slice none 0 0), 1, 24) := by kernel_rfl
set_option maxHeartbeats 2000000 in
set_option maxRecDepth 100000 in
theorem each_any (a b c d e f g : Int) (B M : Nat) (X Z W D : Int) (rows : List (List V3)) (A : Option Addr) (cap : Nat) (w : World) (hg : GAt B X Z W D A rows.length cap w) (hr : RowsAt w w.heap.size A rows) (ho : gridOk X Z W D rows)
    (hM : w.heap[M]? = some (.cells #[.int .i64 a, .int .i64 b, .int .i64 c, .int .i64 d, .int .i64 e, .int .i64 f, .int .i64 g, .pointer (some ⟨B, 0, none⟩)] 83 (0, 0))) :
    Calls Try.prog 38 #[.pointer (some ⟨B, 0, none⟩), .func (.func 39) #[] #[.pointer (some ⟨M, 0, none⟩)]] w fun en w' =>
      ∃ v, en = .returned v ∧ LRows w' w.heap.size v rows.length (fun i => (rows.getD i []).length) (fun i => lcs (fun k d' => toF (lkF a b c d e f g) (colOf X Z W D rows) (X + (i : Int) % W) (Z + (i : Int) / W) k d') (rows.getD i []).length) ∧ Below w.heap.size w w' := by
  obtain ⟨g0, g1, g2, g3, g4, g5⟩ := hg
  refine (callsIn_wide (n := 6)).1 ?_
  refine callsIn_of_wp Try.func38 rfl trivial ?_
  simp only [Try.ntmps38, List.size_toArray, List.length_cons, List.length_nil, Nat.reduceAdd, Nat.reduceSub, Array.replicate_succ, Array.replicate_zero, List.push_toArray, List.append_toArray, List.nil_append, List.cons_append]
  have hl : ∀ (W : World), (Builtin.len_ #[24] 3 #[.slice A rows.length cap]).run Try.prog W = .ok (.int .i64 rows.length) W := fun _ => by kernel_rfl
  generalize hLL : (fun i : Nat => lcs (fun k d' => toF (lkF a b c d e f g) (colOf X Z W D rows) (X + (i : Int) % W) (Z + (i : Int) / W) k d') (rows.getD i []).length) = LL
  obtain ⟨o1, o2, o3, o4, o5, o6, o7, o8, o9, o10⟩ := id ho
  have hn4 : rows.length ≤ 4096 := by
    have := Int.mul_le_mul o6 o8 o7 (by omega : (0 : Int) ≤ 64)
    omega
  gi_wp2
  gi_loopw [5, 13] (fun u x wr => ∃ k : Nat, x = .int .i64 k ∧ k ≤ rows.length ∧ LRows wr w.heap.size u k (fun i => (rows.getD i []).length) LL ∧ Below w.heap.size w wr) (fun _ x _ => rows.length - (intOf x).toNat)
  case atStart => exact ⟨0, rfl, Nat.zero_le _, LRows.nil _ _ _ _, Below.refl _ _⟩
  case round =>
    obtain ⟨k, rfl, hk, hrow, hlow⟩ := hrel
    by_cases hkn : k < rows.length
    · have hkn' : (k : Int) < (rows.length : Int) := by omega
      obtain ⟨ad, Ai, ci, rfl, hadb, hc, hrd⟩ := (hr.below hlow).at_ hkn
      have hbd := spot_bd ho hkn
      have hW0 : W ≠ 0 := by omega
      have hk0 : (0 : Int) ≤ (k : Int) := by omega
      have h8 : rows[k].length ≤ 8 := (o10 _ (List.getElem_mem hkn)).2
      have eX : IntKind.i64.wrap (X + (k : Int).tmod W) = X + (k : Int) % W := by rw [Int.tmod_eq_emod_of_nonneg hk0, IntKind.wrap_i64]; omega
      have eD : IntKind.i64.wrap ((k : Int) / W) = (k : Int) / W := by rw [IntKind.wrap_i64]; omega
      have eZ : IntKind.i64.wrap (Z + (k : Int) / W) = Z + (k : Int) / W := by rw [IntKind.wrap_i64]; omega
      have c0 := (hlow.cell (p := ⟨B, 0, none⟩) g5).trans g0
      have c1 := (hlow.cell (p := ⟨B, 1, none⟩) g5).trans g1
      have c2 := (hlow.cell (p := ⟨B, 2, none⟩) g5).trans g2
      gi_wp2
      obtain ⟨i0, hi, hz0, hz1, hz2⟩ := info_parts infoR
      have hlw : Below w.heap.size w wr.drew := hlow.drew
      have hb1 := build1_any a b c d e f g B M X Z W D (X + (k : Int) % W) (Z + (k : Int) / W) rows (some ad) cap wr.drew ((⟨g0, g1, g2, g3, g4, g5⟩ : GAt B X Z W D (some ad) rows.length cap w).below hlw g5) ((hr.below hlw).more hlw.size) ho (by omega) (by omega) ((hlw.block M (lt_of_block hM)).trans hM) rows[k].length h8 Ai ci
      have hS : (CellsL [(⟨B, 0, none⟩, .int .i64 X), (⟨B, 1, none⟩, .int .i64 Z), (⟨B, 2, none⟩, .int .i64 W)]) (wr.drew) := ⟨c0, c1, c2, trivial⟩
      refine wpIn_region_ord [(0, true), (1, true), (2, true), (3, true), (4, true), (5, true), (6, true), (7, true), (8, true), (9, true), (10, true), (11, true), (12, true), (13, true), (14, true), (15, true), (16, true), (17, true), (18, true), (19, true), (20, true), (21, true), (22, true), (23, true), (24, true), (25, false), (26, false), (27, false)] (CellsL [(⟨B, 0, none⟩, .int .i64 X), (⟨B, 1, none⟩, .int .i64 Z), (⟨B, 2, none⟩, .int .i64 W)]) (fun _ => trivial) rfl (by first | exact then_put rfl | (intro c d v a w h; cases d <;> exact h)) (by kernel_rfl) ?_
      simp only [List.length_cons, List.length_nil, Nat.reduceAdd, List.drop_succ_cons, List.drop_zero]
      iterate 25 (apply wpOrd_quiet rfl hS rfl; (intro w' hw'; obtain ⟨q0, q1, q2, _⟩ := hw'; go_simp; first | exact rfl | (rw [if_neg hW0, Int.tmod_eq_emod_of_nonneg hk0]; exact rfl) | (rw [if_neg hW0, Int.tdiv_eq_ediv_of_nonneg hk0]; exact rfl)); go_simp)
      refine wpOrd_move rfl rfl ?_
      go_simp
      refine ⟨trivial, (callsIn_wide.2 hb1).mono ?_⟩
      rintro en w3 ⟨u3, rfl, hu3, hb3⟩
      obtain ⟨A3, c3, rfl⟩ := own_rowS hu3
      obtain ⟨hd, hr1, hr2⟩ := LRows.below (show LRows wr.drew _ _ _ _ _ from hrow) hb3
      have hs3 := hb3.size
      have hws : w.heap.size ≤ w3.heap.size := Nat.le_trans hlw.size hs3
      have hBw3 : B < w3.heap.size := by have := hlow.size; simp at hs3; omega
      replace hS := CellsL.keep hb3 hS ⟨by show B < _; have := hlow.size; simp; omega, by show B < _; have := hlow.size; simp; omega, by show B < _; have := hlow.size; simp; omega, trivial⟩
      refine ⟨hS, ?_⟩
      go_simp
      refine wpOrd_move rfl rfl ?_
      go_simp
      have hS3 := hS
      replace hS := CellsL.keep ((Below.refl w3.heap.size w3).alloc (Nat.le_refl _) (.cells #[.slice A3 rows[k].length c3] 73)) hS ⟨hBw3, hBw3, hBw3, trivial⟩
      refine ⟨hS, ?_⟩
      go_simp
      refine wpOrd_move rfl rfl ?_
      refine wpIn_append_at (.tmp 18) (.tmp 44) 36 rfl w.heap.size 73 i0 _ 1 24 Try.underlying36 hi hz0 hz1 hz2 (by decide) (by decide) _ k hd rfl (hr1.alloc _) ⟨w3.heap.size, 0, none⟩ 1 1 [.slice A3 rows[k].length c3] rfl rfl (cell_one_new _ _ _) (by simp [Value.oneCell']) (by unfold maxLen; omega) (by omega) (by simp; omega) ?_
      intro v8 w8 hown8 hg8 hloc8
      have hB8 : w8.heap[B]? = w3.heap[B]? := (hg8.block B (by simp; omega) (fun e => by have := (hr1.lt B e.symm).1; omega)).trans (Below.heap_alloc _ _ _ hBw3)
      replace hS : CellsL [(⟨B, 0, none⟩, .int .i64 X), (⟨B, 1, none⟩, .int .i64 Z), (⟨B, 2, none⟩, .int .i64 W)] w8 := ⟨(World.cell?_of_block hB8).trans hS3.1, (World.cell?_of_block hB8).trans hS3.2.1, (World.cell?_of_block hB8).trans hS3.2.2.1, trivial⟩
      refine ⟨hS, ?_⟩
      go_simp
      refine wpOrd_nil ?_
      have hLk : LL k = lcs (fun k_1 d' => toF (lkF a b c d e f g) (colOf X Z W D rows) (X + (k : Int) % W) (Z + (k : Int) / W) k_1 d') rows[k].length := by rw [← hLL]; simp [List.getD, hkn]
      have hlen : (rows.getD k []).length = rows[k].length := by simp [List.getD, hkn]
      have hrow8 : LRows w8 w.heap.size v8 (k + 1) (fun i => (rows.getD i []).length) LL := LRows.snoc hr1 hr2 (by rw [hLk]; show World.ownsRow _ _ _ _ _ (rows.getD k []).length _; rw [hlen]; exact own_base hu3 hlow.size) hg8 hown8
      have hlow8 : Below w.heap.size w w8 := ((hlw.trans (hb3.mono hlw.size)).alloc hws _).grown hg8 (by simp; omega) (fun q e => (hr1.lt q e).1)
      gi_wp2
      go_roundw
      case rel => exact ⟨k + 1, by go_num, by omega, hrow8, hlow8⟩
      case measure => simp [intOf]; omega
    · obtain rfl : k = rows.length := by omega
      gi_wp2
      go_ret
      exact ⟨_, rfl, hrow, hlow⟩
end Go.Proofs.Ytcdfojfafnecdaa
