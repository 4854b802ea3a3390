/- AreaDrops by a walk: its call tells true. No conditions but that the grid and the boxes lie where they are said to lie. -/
import Derived.Test.YtbjbiimkhpfieaaAy
import Derived.Test.YtbjbiimkhpfieaaAp
namespace Go.Proofs.Ytbjbiimkhpfieaa
open Go Go.RowKit Go.Sx
attribute [local go_sem] Oper.semAt_some
theorem info45 : (Try.prog.info? 45).map (fun i => (i.zero, i.size, i.bytes)) = some (some (.agg #[.int .i64 0, .int .i64 0, .int .i64 0, .int .i64 0, .int .i64 0, .int .i64 0, .int .i64 0, .int .i64 0]), 8, 64) := by kernel_rfl
theorem bcs_one (l : List B8) : ∀ u ∈ bcs l, u.oneCell' = true := fun u hu => by
  obtain ⟨v, _, h⟩ := List.mem_flatMap.1 hu
  simp only [B8.cs, List.mem_cons, List.not_mem_nil, or_false] at h
  rcases h with rfl | rfl | rfl | rfl | rfl | rfl | rfl | rfl <;> rfl
theorem bcs_app (l m : List B8) : bcs (l ++ m) = bcs l ++ bcs m := by simp [bcs]
theorem bcs_take (l : List B8) (k : Nat) (h : k ≤ l.length) : bcs (l.take k) = (bcs l).take (k * 8) := by
  have e : bcs l = bcs (l.take k) ++ bcs (l.drop k) := by rw [← bcs_app, List.take_append_drop]
  have hl : (bcs (l.take k)).length = k * 8 := by rw [bcs_length, List.length_take]; omega
  rw [e, ← hl, List.take_left]
theorem bcs_drop (l : List B8) (k : Nat) (h : k ≤ l.length) : bcs (l.drop k) = (bcs l).drop (k * 8) := by
  have e : bcs l = bcs (l.take k) ++ bcs (l.drop k) := by rw [← bcs_app, List.take_append_drop]
  have hl : (bcs (l.take k)).length = k * 8 := by rw [bcs_length, List.length_take]; omega
  rw [e, ← hl, List.drop_left]
/-- Which box. -/
theorem which_ok (which : Int) {n : Nat} (h0 : 0 < n) (h16 : n ≤ 16) : ∃ (s : Int) (k : Nat), IntKind.i64.wrap (Int.tmod which n + n) = s ∧ Int.tmod s n = k ∧ k < n := by
  have h1 := Int.tmod_lt_of_pos which (by omega : (0 : Int) < n)
  have h2 : -(n : Int) < Int.tmod which n := by
    rcases Int.le_total 0 which with h | h
    · have := Int.tmod_nonneg (n : Int) h
      omega
    · have e := Int.neg_tmod which (n : Int)
      have := Int.tmod_lt_of_pos (-which) (by omega : (0 : Int) < n)
      omega
  have e : IntKind.i64.wrap (Int.tmod which n + n) = Int.tmod which n + n := by rw [IntKind.wrap_i64]; omega
  have h3 : 0 ≤ Int.tmod which n + n := by omega
  refine ⟨_, (Int.tmod (Int.tmod which n + n) n).toNat, e, ?_, ?_⟩
  · have := Int.tmod_nonneg (n : Int) h3
    omega
  · have := Int.tmod_lt_of_pos (Int.tmod which n + n) (by omega : (0 : Int) < n)
    have := Int.tmod_nonneg (n : Int) h3
    omega
theorem ad_carry {w1 w2 : World} {p2 ad : Addr} {xs : List Value} (hg : w1.grownBy w2 (Value.slice none 0 0).ownBlock) (hlt : ad.block < w1.heap.size) (h : ∀ (j : Nat) (u : Value), xs[j]? = some u → p2.block = ad.block ∧ w1.cell? (p2.add j) = some u) :
    ∀ (j : Nat) (u : Value), xs[j]? = some u → w2.cell? (p2.add j) = some u := fun j u hj => by
  obtain ⟨e, hc⟩ := h j u hj
  exact (cell_add (hg.block p2.block (by omega) (by simp [Value.ownBlock])) j).trans hc
theorem ad_b3 {w1 w2 w3 : World} {e : TypeId} {s k : Nat} {u : Value} {xs : List Value} (hown : w2.ownsRow w1.heap.size e s u k xs) (hg1 : w1.grownBy w2 (Value.slice none 0 0).ownBlock) (hg2 : w2.grownBy w3 u.ownBlock) : Below w1.heap.size w1 w3 :=
  ((Below.refl _ w1).grown hg1 (Nat.le_refl _) (fun k hk => by simp [Value.ownBlock] at hk)).grown hg2 hg1.size (fun j hj => (own_lt hown hj).1)
/-- What cells hold. -/
def CellsL : List (Addr × Value) → World → Prop
  | [], _ => True
  | (p, v) :: r, w => w.cell? p = some v ∧ CellsL r w
def LtL : List (Addr × Value) → Nat → Prop
  | [], _ => True
  | (p, _) :: r, n => p.block < n ∧ LtL r n
theorem LtL.mono {n m : Nat} (h : n ≤ m) : ∀ {L : List (Addr × Value)}, LtL L n → LtL L m
  | [], _ => trivial
  | _ :: _, h' => ⟨Nat.lt_of_lt_of_le h'.1 h, LtL.mono h h'.2⟩
theorem CellsL.keep {n : Nat} {w w' : World} (hb : Below n w w') : ∀ {L : List (Addr × Value)}, CellsL L w → LtL L n → CellsL L w'
  | [], _, _ => trivial
  | _ :: _, h, hl => ⟨(hb.cell hl.1).trans h.1, CellsL.keep hb h.2 hl.2⟩
theorem lit_add (b j : Nat) : (⟨b, 0, none⟩ : Addr).add j = ⟨b, j, none⟩ := by simp [Addr.add]; exact fun h => h.symm
theorem markF_at (l : List B8) (X Z W : Int) (rows : List (List V3)) {i : Nat} (h : i < (markF l X Z W rows).length) : (markF l X Z W rows)[i] = (rows[i]'(by rw [markF_length] at h; exact h)).map (mark1 l X Z W i) := by simp [markF]
set_option maxHeartbeats 4000000 in
set_option maxRecDepth 100000 in
theorem adrops_any (a b c d e f g X Z W D which : Int) (rows : List (List V3)) (A : Option Addr) (cap : Nat) (l : List B8) (Al : Option Addr) (cl : Nat) (w : World)
    (hr : RowsAt w w.heap.size A rows) (hl : lensOk rows) (hb : Reads w w.heap.size 8 Al l.length (bcs l)) (hbl : l.length ≤ 9223372036854775807) (hcap : l.length ≤ cl) (hcl : cl ≤ 9223372036854775807) :
    Calls Try.prog 5 #[cfgv a b c d e f g, gridv X Z W D A rows.length cap, .slice Al l.length cl, .int .i64 which] w fun en w' => en = .returned (.bool true) ∧ Below w.heap.size w w' := by
  have hl1 := hl.1
  have hmx : maxLen = 9223372036854775807 := rfl
  obtain ⟨i0, hi, hz0, hz1, hz2⟩ := info_parts info45
  obtain ⟨W0, hW0⟩ : ∃ W0, (w.alloc (.cells #[.int .i64 a, .int .i64 b, .int .i64 c, .int .i64 d, .int .i64 e, .int .i64 f, .int .i64 g] 23)).alloc (.cells #[.int .i64 X, .int .i64 Z, .int .i64 W, .int .i64 D, .slice A rows.length cap] 26) = W0 := ⟨_, rfl⟩
  have hk0 : FD w.heap.size a b c d e f g X Z W D A rows.length cap W0 := by rw [← hW0]; exact FD.new ..
  have hb0 : Below w.heap.size w W0 := by rw [← hW0]; exact ((Below.refl _ _).alloc (Nat.le_refl _) _).alloc (by simp) _
  have hgr := great12_any X Z W D rows A cap W0 ((hr.below hb0).more hb0.size) hl
  have hwk := fun w => wakes12_any w
  unfold gridv at hgr
  unfold cfgv gridv
  obtain ⟨k0, k1, k2, k3, k4, k5, k6, g0, g1, g2, g3, g4, klt⟩ := id hk0
  refine (callsIn_wide (n := 6)).1 ?_
  refine callsIn_of_wp Try.func5 rfl trivial ?_ rfl
  simp only [Try.ntmps5, List.size_toArray, List.length_cons, List.length_nil, Nat.reduceAdd, Nat.reduceSub, Array.replicate_succ, Array.replicate_zero, List.push_toArray, List.append_toArray, List.nil_append, List.cons_append]
  subst hW0
  gi_wp2
  refine ⟨trivial, (callsIn_wide.2 hgr).mono ?_⟩
  rintro en w1 ⟨⟨bg, rfl⟩, hb1⟩
  have hk1 := hk0.below hb1 (by simp)
  have hbw1 := hb0.trans (hb1.mono hb0.size)
  clear k0 k1 k2 k3 k4 k5 k6 g0 g1 g2 g3 g4 klt hk0 hb1 hgr hb0
  have hlast : ∀ {V w9 : World}, Below w.heap.size w V → Below V.heap.size V w9 → Below w.heap.size w w9 := fun h1 h2 => h1.trans (h2.mono h1.size)
  cases bg
  case true =>
    gi_wp2_with (refine ⟨trivial, ?_⟩; gi_at_call 16; refine (callsIn_wide.2 (hwk _)).mono ?_; rintro en w9 ⟨rfl, hb9⟩)
    refine bodyPost_ret (results_tmp rfl _ _ _) rfl ?_
    exact ⟨rfl, hlast hbw1 hb9⟩
  case false =>
    by_cases h16 : (16 : Int) < (l.length : Int)
    · gi_wp2_with (refine ⟨trivial, ?_⟩; gi_at_call 16; refine (callsIn_wide.2 (hwk _)).mono ?_; rintro en w9 ⟨rfl, hb9⟩)
      refine bodyPost_ret (results_tmp rfl _ _ _) rfl ?_
      exact ⟨rfl, hlast hbw1 hb9⟩
    by_cases h0 : (l.length : Int) = 0
    · gi_wp2_with (refine ⟨trivial, ?_⟩; gi_at_call 16; refine (callsIn_wide.2 (hwk _)).mono ?_; rintro en w9 ⟨rfl, hb9⟩)
      refine bodyPost_ret (results_tmp rfl _ _ _) rfl ?_
      exact ⟨rfl, hlast hbw1 hb9⟩
    obtain ⟨s, wi, hs1, hs2, hwi⟩ := which_ok which (n := l.length) (by omega) (by omega)
    have hrd := (hb.below hbw1).more hbw1.size
    obtain ⟨ad, rfl, hadl, hcell⟩ := hrd.2 (by omega)
    have hc1 : ∀ j u, (bcs (l.take wi))[j]? = some u → w1.cell? (ad.add j) = some u := fun j u hj => by
      rw [bcs_take l wi (by omega)] at hj
      have hlt := (List.getElem?_eq_some_iff.1 hj).1
      rw [List.length_take] at hlt
      rw [List.getElem?_take_of_lt (by omega)] at hj
      exact hcell j u hj
    have hl1' : (bcs (l.take wi)).length = wi * 8 := by rw [bcs_length, List.length_take]; omega
    have hwi' : (wi : Int) < (l.length : Int) := by omega
    have hd16 : decide ((16 : Int) < (l.length : Int)) = false := by simpa using h16
    have hb00 : ((l.length : Int) == 0) = false := by simpa using h0
    have hcapI : (l.length : Int) ≤ (cl : Int) := by omega
    have hwc : wi ≤ cl := by omega
    obtain ⟨p2, hp2, hc2⟩ : ∃ p2 : Addr, (if cl = wi + 1 then some ad else some (ad.add ((wi + 1) * 8))) = some p2 ∧ ∀ j u, (bcs (l.drop (wi + 1)))[j]? = some u → p2.block = ad.block ∧ w1.cell? (p2.add j) = some u := by
      by_cases hcw : cl = wi + 1
      · refine ⟨ad, by rw [if_pos hcw], fun j u hj => ?_⟩
        rw [List.drop_of_length_le (by omega)] at hj
        simp [bcs] at hj
      · refine ⟨ad.add ((wi + 1) * 8), by rw [if_neg hcw], fun j u hj => ⟨block_of_add _ _, ?_⟩⟩
        rw [bcs_drop l (wi + 1) (by omega), List.getElem?_drop] at hj
        rw [add_of_add]
        exact hcell _ u hj
    have hl2' : (bcs (l.drop (wi + 1))).length = (l.length - (wi + 1)) * 8 := by rw [bcs_length, List.length_drop]
    gi_wp2_with (first | (gi_at_builtin; refine wpListIn_append_own_at _ rfl (.tmp 40) (.tmp 43) 43 rfl w1.heap.size 45 i0 _ 8 64 Try.underlying43 hi hz0 hz1 hz2 (by decide) (by decide) (.slice none 0 0) 0 [] rfl (World.ownsRow_nil _ _ _ _) ad wi cl (bcs (l.take wi)) rfl hl1' hc1 (bcs_one _) (by omega) (by omega) (Nat.le_refl _) ?_; intro v1 w2 hown1 hg1 _ _; rw [Nat.zero_add, List.nil_append] at hown1; obtain ⟨Av, cv, rfl⟩ := own_slice hown1; have hc2' := ad_carry hg1 hadl hc2; have hg1s := hg1.size) | (gi_at_builtin; refine wpListIn_append_own_at _ rfl (.tmp 45) (.tmp 49) 43 rfl w1.heap.size 45 i0 _ 8 64 Try.underlying43 hi hz0 hz1 hz2 (by decide) (by decide) (.slice Av wi cv) wi (bcs (l.take wi)) rfl hown1 p2 (l.length - (wi + 1)) _ (bcs (l.drop (wi + 1))) rfl hl2' hc2' (bcs_one _) (by omega) (by omega) hg1s ?_; intro v2 w3 hown2 hg2 _ _; obtain ⟨Aw, cw, rfl⟩ := own_slice hown2; have hb3 := ad_b3 hown1 hg1 hg2; have hk3 := hk1.below hb3 hk1.lt; obtain ⟨k0, k1, k2, k3, k4, k5, k6, g0, g1, g2, g3, g4, klt⟩ := id hk3; clear hg1 hg2 hown1 hc2'))
    have B3 : Below w.heap.size w w3 := hbw1.trans (hb3.mono hbw1.size)
    have hrest := Reads.of_own hown2
    rw [← bcs_app] at hrest
    have hrl : (l.take wi ++ l.drop (wi + 1)).length = wi + (l.length - (wi + 1)) := by rw [List.length_append, List.length_take, List.length_drop]; omega
    obtain ⟨rest, hrest0⟩ : ∃ rest, l.take wi ++ l.drop (wi + 1) = rest := ⟨_, rfl⟩
    rw [hrest0] at hrest hrl
    have hmk1 := mark_any a b c d e f g X Z W D rows A cap l (some ad) cl w3 ((hr.below B3).more B3.size) hl ((hb.below B3).more B3.size) hbl
    have hmk0 : ∀ {V : World}, Below w3.heap.size w3 V → Calls Try.prog 22 #[cfgv a b c d e f g, gridv 0 0 0 0 none 0 0, .slice Aw (wi + (l.length - (wi + 1))) cw] V fun en w' =>
        ∃ (X' Z' W' D' : Int) (A' : Option Addr) (n' c' : Nat) (er : Int), en = .returned (.tuple #[gridv X' Z' W' D' A' n' c', .int .i64 er]) ∧ Below V.heap.size V w' := fun {V} h => by
      have := mark_some a b c d e f g 0 0 0 0 [] none 0 rest Aw cw V (rowsAt_nil _ _) lensOk_nil (by rw [hrl]; exact (hrest.below h).more h.size) (by rw [hrl]; omega)
      rw [hrl] at this
      exact this
    unfold cfgv gridv at hmk1 hmk0
    clear hown2 hcell hc1 hp2 hc2 hl1' hl2' hrd
    refine ⟨trivial, (callsIn_wide.2 hmk1).mono ?_⟩
    rintro en w4 ⟨hres, hb4⟩
    have B4 := hlast B3 hb4
    have hk4 := hk3.below hb4 hk3.lt
    clear hmk1 k0 k1 k2 k3 k4 k5 k6 g0 g1 g2 g3 g4 klt
    obtain ⟨k0, k1, k2, k3, k4, k5, k6, g0, g1, g2, g3, g4, klt⟩ := id hk4
    have hs40 : w.heap.size < w4.heap.size := by omega
    have hs41 : w.heap.size + 1 < w4.heap.size := by omega
    unfold MarkRes at hres
    unfold gridv at hres
    rcases hres with ⟨hcn, rfl⟩ | ⟨hc0, hnok, rfl⟩ | ⟨hc0, hok, M, rfl, hrM⟩
    iterate 2
      · gi_wp2_with (first | (refine ⟨trivial, ?_⟩; gi_at_call 22; refine (callsIn_wide.2 (hmk0 (hb4.alloc hb4.size _))).mono ?_; rintro en w5 ⟨X', Z', W', D', A', n', c', er, rfl, hb5⟩) | (refine ⟨trivial, ?_⟩; gi_at_call 16; refine (callsIn_wide.2 (hwk _)).mono ?_; rintro en w9 ⟨rfl, hb9⟩))
        have B5 := hlast (B4.alloc B4.size _) hb5
        refine bodyPost_ret (results_tmp rfl _ _ _) rfl ?_
        exact ⟨rfl, hlast (B5.alloc B5.size _) hb9⟩
    obtain ⟨W5, hW5⟩ : ∃ W5, w4.alloc (.cells #[.int .i64 X, .int .i64 Z, .int .i64 W, .int .i64 D, .slice (some ⟨M, 0, none⟩) rows.length rows.length] 26) = W5 := ⟨_, rfl⟩
    have hb45 : Below w4.heap.size w4 W5 := by rw [← hW5]; exact (Below.refl _ _).alloc (Nat.le_refl _) _
    have hs5 : W5.heap.size = w4.heap.size + 1 := by rw [← hW5]; simp
    have hO5 : GB w4.heap.size X Z W D (.slice (some ⟨M, 0, none⟩) rows.length rows.length) W5 := by rw [← hW5]; exact World.alloc_heap_new _ _
    have B5 := hlast B4 hb45
    have hb35 : Below w3.heap.size w3 W5 := hb4.trans (hb45.mono hb4.size)
    have hrest5 := (hrest.below hb35).more hb35.size
    have hra5 := (hrM.to.below hb45).more hb45.size
    have hbadr : ∀ x ∈ rest, badB f g x = false := fun x hx => hok.2.2 x (by
      rw [← hrest0] at hx
      rcases List.mem_append.1 hx with h | h
      · exact List.mem_of_mem_take h
      · exact List.mem_of_mem_drop h)
    have hok2 : markOk f g X Z W D (markF l X Z W rows) rest := markOk_again hok (by omega) hbadr
    have hmk2 := mark_good hc0 hok2 rfl (some ⟨M, 0, none⟩) rows.length Aw cw W5 hra5 (lensOk_ok hok2.1) (by rw [hrl]; exact hrest5)
    rw [markF_length, hrl] at hmk2
    unfold cfgv gridv at hmk2
    clear hmk0
    subst hW5
    gi_wp2
    refine ⟨trivial, (callsIn_wide.2 hmk2).mono ?_⟩
    rintro en w6 ⟨M2, rfl, hrM2, hb6⟩
    obtain ⟨W5, hW5⟩ : ∃ W5, w4.alloc (.cells #[.int .i64 X, .int .i64 Z, .int .i64 W, .int .i64 D, .slice (some ⟨M, 0, none⟩) rows.length rows.length] 26) = W5 := ⟨_, rfl⟩
    rw [hW5] at hb45 hs5 hO5 B5 hb35 hrest5 hra5 hrM2 hb6
    clear hmk2 hW5 k0 k1 k2 k3 k4 k5 k6 g0 g1 g2 g3 g4 klt
    have B6 := hlast B5 hb6
    have hk6 := (hk4.below hb45 hk4.lt).below hb6 (by have := hk4.lt; omega)
    have hO6 := hO5.below hb6 hO5.lt
    obtain ⟨_, _, _, _, o4, _⟩ := hO6.cells
    obtain ⟨k0, k1, k2, k3, k4, k5, k6, g0, g1, g2, g3, g4, klt⟩ := id hk6
    have hs6 := hb6.size
    have hs60 : w.heap.size + 1 < w6.heap.size := by omega
    have hs61 : w4.heap.size < w6.heap.size := by omega
    clear k0 k1 k2 k3 k4 k5 k6 g0 g1 g2 g3
    gi_wp2
    obtain ⟨W7, hW7⟩ : ∃ W7, w6.alloc (.cells #[.int .i64 X, .int .i64 Z, .int .i64 W, .int .i64 D, .slice (some ⟨M2, 0, none⟩) rows.length rows.length] 26) = W7 := ⟨_, rfl⟩
    have hb67 : Below w6.heap.size w6 W7 := by rw [← hW7]; exact (Below.refl _ _).alloc (Nat.le_refl _) _
    have hs7 : W7.heap.size = w6.heap.size + 1 := by rw [← hW7]; simp
    have hO7 : GB w6.heap.size X Z W D (.slice (some ⟨M2, 0, none⟩) rows.length rows.length) W7 := by rw [← hW7]; exact World.alloc_heap_new _ _
    try rw [hW7]
    have B7 := hlast B6 hb67
    have hb57 : Below W5.heap.size W5 W7 := hb6.trans (hb67.mono hb6.size)
    have hb37 : Below w3.heap.size w3 W7 := hb35.trans (hb57.mono hb35.size)
    have hrest7 := (hrest.below hb37).more hb37.size
    have hra7 := (hra5.below hb57).more hb57.size
    have hrb7 := (hrM2.to.below hb67).more hb67.size
    have hrg7 := (hr.below B7).more B7.size
    have hbx7 := (hb.below B7).more B7.size
    have hk7 := hk6.below hb67 hk6.lt
    have hO67 := hO6.below hb67 hs61
    have ho := hok.1
    have h8 : ∀ r ∈ rows, r.length ≤ 8 := fun r hm => (ho.2.2.2.2.2.2.2.2.2 r hm).2
    clear hW7 hrest hrest5 hra5 hrM hrM2 hb35 hb37 hb45 hb57 hb6 hb67 hs5 hO5 hO6 hk6 hk3 hk4 hk1 hr hb hadl hb3 hb4 B3 B4 B5 o4 g4 klt hok2 hbadr hs40 hs41 hd16 hb00 hs1 hs2 hbw1
    gi_loopw [15] (fun x wr => ∃ i : Nat, x = .int .i64 i ∧ i ≤ rows.length ∧ Below W7.heap.size W7 wr) (fun x _ => rows.length - (intOf x).toNat)
    case atStart => exact ⟨0, rfl, Nat.zero_le _, Below.refl _ _⟩
    case round =>
      obtain ⟨i, rfl, hi', hbr⟩ := hrel
      have hsr := hbr.size
      have hkr := hk7.below hbr hk7.lt
      have g4 := hkr.g4
      have oa := (hO67.below hbr hO67.lt).cells.2.2.2.2.1
      have ob := (hO7.below hbr hO7.lt).cells.2.2.2.2.1
      by_cases hin : i < rows.length
      · have hin' : (i : Int) < (rows.length : Int) := by omega
        have hi0 : (0 : Int) ≤ (i : Int) := by omega
        have hbd := spot_bd ho hin
        have hW0 : W ≠ 0 := by omega
        have hr8 := h8 _ (List.getElem_mem hin)
        obtain ⟨ag, Ag, cg, rfl, hagl, hg, hrg⟩ := hrg7.at_ hin
        obtain ⟨aa, Aa, ca, ea, hal, ha, hra⟩ := hra7.at_ (i := i) (by rw [markF_length]; exact hin)
        obtain ⟨ab, Ab, cb, eb, hbl2, hb, hrb⟩ := hrb7.at_ (i := i) (by rw [markF_length, markF_length]; exact hin)
        injection ea with ea
        injection eb with eb
        subst ea eb
        simp only [markF_at, List.length_map] at ha hb
        simp only [markF_at] at hra hrb
        rw [lit_add] at ha hb
        have hg' := (hbr.cell (p := ag.add i) (by rw [block_of_add]; exact hagl)).trans hg
        have ha' := (hbr.cell (p := ⟨M, i, none⟩) hal).trans ha
        have hb' := (hbr.cell (p := ⟨M2, i, none⟩) hbl2).trans hb
        gi_wp2
        have hS : CellsL [(⟨w4.heap.size, 4, none⟩, .slice (some ⟨M, 0, none⟩) rows.length rows.length), (⟨M, i, none⟩, .slice Aa rows[i].length ca), (⟨w.heap.size + 1, 4, none⟩, .slice (some ag) rows.length cap), (ag.add i, .slice Ag rows[i].length cg), (⟨w6.heap.size, 4, none⟩, .slice (some ⟨M2, 0, none⟩) rows.length rows.length), (⟨M2, i, none⟩, .slice Ab rows[i].length cb)] wr.drew := ⟨oa, ha', g4, hg', ob, hb', trivial⟩
        refine wpIn_region_ord [(0, true), (1, true), (2, true), (3, true), (4, true), (5, true), (6, true), (7, true), (8, true), (9, true), (10, true), (11, true), (12, true), (13, true), (14, true), (15, true), (16, true), (17, true), (18, true), (19, true), (20, true), (21, true), (22, true), (23, true), (24, true), (25, true), (26, true)] (CellsL [(⟨w4.heap.size, 4, none⟩, .slice (some ⟨M, 0, none⟩) rows.length rows.length), (⟨M, i, none⟩, .slice Aa rows[i].length ca), (⟨w.heap.size + 1, 4, none⟩, .slice (some ag) rows.length cap), (ag.add i, .slice Ag rows[i].length cg), (⟨w6.heap.size, 4, none⟩, .slice (some ⟨M2, 0, none⟩) rows.length rows.length), (⟨M2, i, none⟩, .slice Ab rows[i].length cb)]) (fun _ => trivial) rfl (by intro c d v a w h; cases d <;> exact h) (by kernel_rfl) ?_
        simp only [List.length_cons, List.length_nil, Nat.reduceAdd, List.drop_succ_cons, List.drop_zero]
        iterate 27 (apply wpOrd_quiet rfl hS rfl; (intro w' hw'; obtain ⟨q0, q1, q2, q3, q4, q5, _⟩ := hw'; go_simp; first | exact rfl | (rw [if_neg hW0, Int.tmod_eq_emod_of_nonneg hi0]; exact rfl) | (rw [if_neg hW0, Int.tdiv_eq_ediv_of_nonneg hi0]; exact rfl)); go_simp)
        refine wpOrd_nil ?_
        clear hS g4 oa ob ha' hb' hg'
        gi_wp2
        gi_loopw [16] (fun x wt => ∃ k : Nat, x = .int .i64 k ∧ k ≤ rows[i].length ∧ Below W7.heap.size W7 wt) (fun x _ => rows[i].length - (intOf x).toNat)
        case atStart => exact ⟨0, rfl, Nat.zero_le _, hbr.drew⟩
        case round =>
          obtain ⟨k, rfl, hk', hbt⟩ := hrel
          have hst := hbt.size
          have hkt := hk7.below hbt hk7.lt
          have g0 := hkt.g0
          have g1 := hkt.g1
          have g2 := hkt.g2
          have g4 := hkt.g4
          have hgt := (hbt.cell (p := ag.add i) (by rw [block_of_add]; exact hagl)).trans hg
          by_cases hkn : k < rows[i].length
          · have hkn' : (k : Int) < (rows[i].length : Int) := by omega
            obtain ⟨fg, rfl, hfgl, gx, _, _⟩ := v3_at ((hrg.below hbt).more hst) hkn
            gi_wp2
            have hS : CellsL [(⟨w.heap.size + 1, 0, none⟩, .int .i64 X), (⟨w.heap.size + 1, 1, none⟩, .int .i64 Z), (⟨w.heap.size + 1, 2, none⟩, .int .i64 W), (⟨w.heap.size + 1, 4, none⟩, .slice (some ag) rows.length cap), (ag.add i, .slice (some fg) rows[i].length cg), (fg.add (k * 3), .int .i64 rows[i][k].x)] wr.drew := ⟨g0, g1, g2, g4, hgt, gx, trivial⟩
            refine wpIn_region_ord [(0, true), (1, true), (2, true), (3, true), (4, true), (5, true), (6, true), (7, true), (8, true), (9, true), (10, true), (11, true), (12, true), (13, true), (14, true), (15, true), (16, true), (17, true), (18, true), (19, true), (20, true), (21, true), (22, true), (23, true), (24, false)] (CellsL [(⟨w.heap.size + 1, 0, none⟩, .int .i64 X), (⟨w.heap.size + 1, 1, none⟩, .int .i64 Z), (⟨w.heap.size + 1, 2, none⟩, .int .i64 W), (⟨w.heap.size + 1, 4, none⟩, .slice (some ag) rows.length cap), (ag.add i, .slice (some fg) rows[i].length cg), (fg.add (k * 3), .int .i64 rows[i][k].x)]) (fun _ => trivial) rfl (by intro c d v a w h; cases d <;> exact h) (by kernel_rfl) ?_
            simp only [List.length_cons, List.length_nil, Nat.reduceAdd, List.drop_succ_cons, List.drop_zero]
            iterate 24 (apply wpOrd_quiet rfl hS rfl; (intro w' hw'; obtain ⟨q0, q1, q2, q3, q4, q5, _⟩ := hw'; go_simp; first | exact rfl | (rw [if_neg hW0, Int.tmod_eq_emod_of_nonneg hi0]; exact rfl) | (rw [if_neg hW0, Int.tdiv_eq_ediv_of_nonneg hi0]; exact rfl)); go_simp)
            have hx1 := ho.1
            have hx2 := ho.2.1
            have hz1' := ho.2.2.1
            have hz2' := ho.2.2.2.1
            have e1 : IntKind.i64.wrap (X + (i : Int).tmod W) = X + (i : Int) % W := by rw [Int.tmod_eq_emod_of_nonneg hi0, IntKind.wrap_i64]; omega
            have e2 : IntKind.i64.wrap ((i : Int) / W) = (i : Int) / W := by rw [IntKind.wrap_i64]; omega
            have e3 : IntKind.i64.wrap (Z + (i : Int) / W) = Z + (i : Int) / W := by rw [IntKind.wrap_i64]; omega
            rw [e1, e2, e3]
            have hlt22 : LtL [(⟨w.heap.size + 1, 0, none⟩, .int .i64 X), (⟨w.heap.size + 1, 1, none⟩, .int .i64 Z), (⟨w.heap.size + 1, 2, none⟩, .int .i64 W), (⟨w.heap.size + 1, 4, none⟩, .slice (some ag) rows.length cap), (ag.add i, .slice (some fg) rows[i].length cg), (fg.add (k * 3), .int .i64 rows[i][k].x)] wr.heap.size := ⟨by show w.heap.size + 1 < _; omega, by show w.heap.size + 1 < _; omega, by show w.heap.size + 1 < _; omega, by show w.heap.size + 1 < _; omega, by show (ag.add i).block < _; rw [block_of_add]; omega, hfgl, trivial⟩
            refine wpOrd_move rfl rfl ?_
            go_simp
            refine ⟨?_, ?_⟩
            · first
                | exact CellsL.keep ((Below.refl wr.heap.size wr).alloc (Nat.le_refl _) _) (show CellsL _ wr from hS) hlt22
                | exact CellsL.keep (((Below.refl wr.heap.size wr).drew).alloc (Nat.le_refl _) _) (show CellsL _ wr from hS) hlt22
            refine wpOrd_nil ?_
            have oa := (hO67.below hbt hO67.lt).cells.2.2.2.2.1
            have ob := (hO7.below hbt hO7.lt).cells.2.2.2.2.1
            have hat' := (hbt.cell (p := ⟨M, i, none⟩) hal).trans ha
            have hbt' := (hbt.cell (p := ⟨M2, i, none⟩) hbl2).trans hb
            obtain ⟨fa, rfl, hfal, _, _, az⟩ := v3_at ((hra.below hbt).more hst) (j := k) (by rw [List.length_map]; exact hkn)
            obtain ⟨fb, rfl, hfbl, _, _, bz⟩ := v3_at ((hrb.below hbt).more hst) (j := k) (by rw [List.length_map, List.length_map]; exact hkn)
            rw [List.getElem_map] at az
            rw [List.getElem_map, List.getElem_map] at bz
            obtain ⟨ad', ead, hadl, y0, y1, y2, y3, y4, y5, y6, y7⟩ := b8_at ((hbx7.below hbt).more hst) hwi
            injection ead with ead
            subst ead
            have hM1 : M < W7.heap.size := hal
            have hM2 : M2 < W7.heap.size := hbl2
            have hinb := fun w => aIn_any l[wi] (X + (i : Int) % W) (Z + (i : Int) / W) rows[i][k].x w
            have hof : ∀ {V : World}, Below W7.heap.size W7 V → Calls Try.prog 19 #[.slice Aw (wi + (l.length - (wi + 1))) cw, .agg #[.int .i64 (X + (i : Int) % W), .int .i64 (Z + (i : Int) / W), .int .i64 rows[i][k].x]] V fun en w' => en = .returned (.int .i64 (ofF rest (X + (i : Int) % W) (Z + (i : Int) / W) rows[i][k].x)) ∧ Below V.heap.size V w' := fun {V} h => by
              have := of_any rest Aw cw (X + (i : Int) % W) (Z + (i : Int) / W) rows[i][k].x V (by rw [hrl]; exact (hrest7.below h).more h.size) (by rw [hrl]; omega)
              rw [hrl] at this
              exact this
            have hdrop : inB l[wi] (X + (i : Int) % W) (Z + (i : Int) / W) rows[i][k].x = false → ofF l (X + (i : Int) % W) (Z + (i : Int) / W) rows[i][k].x = ofF rest (X + (i : Int) % W) (Z + (i : Int) / W) rows[i][k].x := fun h => by
              have hsp : l = l.take wi ++ l[wi] :: l.drop (wi + 1) := by rw [List.getElem_cons_drop, List.take_append_drop]
              rw [← hrest0]
              exact (congrArg (fun q => ofF q (X + (i : Int) % W) (Z + (i : Int) / W) rows[i][k].x) hsp).trans (ofF_drop _ _ h)
            obtain ⟨va, hva⟩ : ∃ v, ofF l (X + (i : Int) % W) (Z + (i : Int) / W) rows[i][k].x = v := ⟨_, rfl⟩
            obtain ⟨vb, hvb⟩ : ∃ v, ofF rest (X + (i : Int) % W) (Z + (i : Int) / W) rows[i][k].x = v := ⟨_, rfl⟩
            replace az : _ = some (Value.int .i64 va) := az.trans (congrArg (fun v => some (Value.int .i64 v)) hva)
            replace bz : _ = some (Value.int .i64 vb) := bz.trans (congrArg (fun v => some (Value.int .i64 v)) hvb)
            rw [hvb] at hof hdrop
            rw [hva] at hdrop
            unfold B8.cs at hinb
            have hb8 : Below wr.heap.size wr (wr.alloc (.cells #[.int .i64 (X + (i : Int) % W), .int .i64 (Z + (i : Int) / W), .int .i64 rows[i][k].x] 47)) := (Below.refl _ _).alloc (Nat.le_refl _) _
            have hsz8 : (wr.alloc (.cells #[.int .i64 (X + (i : Int) % W), .int .i64 (Z + (i : Int) / W), .int .i64 rows[i][k].x] 47)).heap.size = wr.heap.size + 1 := by simp
            have hbS7 : Below W7.heap.size W7 (wr.alloc (.cells #[.int .i64 (X + (i : Int) % W), .int .i64 (Z + (i : Int) / W), .int .i64 rows[i][k].x] 47)) := hbt.trans (hb8.mono hst)
            have hl7 : ∀ {V u : World}, Below W7.heap.size W7 V → Below V.heap.size V u → Below W7.heap.size W7 u := fun h1 h2 => h1.trans (h2.mono h1.size)
            have hlt5 : LtL [(⟨w6.heap.size, 4, none⟩, .slice (some ⟨M2, 0, none⟩) rows.length rows.length), (⟨M2, i, none⟩, .slice (some fb) rows[i].length cb), (⟨(fb.add (k * 3)).block, (fb.add (k * 3)).off + 2, none⟩, .int .i64 vb), (⟨wr.heap.size, 0, none⟩, .int .i64 (X + (i : Int) % W)), (⟨wr.heap.size, 1, none⟩, .int .i64 (Z + (i : Int) / W)), (⟨wr.heap.size, 2, none⟩, .int .i64 rows[i][k].x), (ad.add (wi * 8), .int .i64 l[wi].id), (⟨(ad.add (wi * 8)).block, (ad.add (wi * 8)).off + 1, none⟩, .int .i64 l[wi].x0), (⟨(ad.add (wi * 8)).block, (ad.add (wi * 8)).off + 2, none⟩, .int .i64 l[wi].z0), (⟨(ad.add (wi * 8)).block, (ad.add (wi * 8)).off + 3, none⟩, .int .i64 l[wi].x1), (⟨(ad.add (wi * 8)).block, (ad.add (wi * 8)).off + 4, none⟩, .int .i64 l[wi].z1), (⟨(ad.add (wi * 8)).block, (ad.add (wi * 8)).off + 5, none⟩, .int .i64 l[wi].y0), (⟨(ad.add (wi * 8)).block, (ad.add (wi * 8)).off + 6, none⟩, .int .i64 l[wi].y1), (⟨(ad.add (wi * 8)).block, (ad.add (wi * 8)).off + 7, none⟩, .int .i64 l[wi].ar), (⟨w4.heap.size, 4, none⟩, .slice (some ⟨M, 0, none⟩) rows.length rows.length), (⟨M, i, none⟩, .slice (some fa) rows[i].length ca), (⟨(fa.add (k * 3)).block, (fa.add (k * 3)).off + 2, none⟩, .int .i64 va)] (wr.alloc (.cells #[.int .i64 (X + (i : Int) % W), .int .i64 (Z + (i : Int) / W), .int .i64 rows[i][k].x] 47)).heap.size := by
              rw [hsz8]
              exact ⟨by show w6.heap.size < _; omega, by show M2 < _; omega, by show (fb.add (k * 3)).block < _; omega, by show wr.heap.size < _; omega, by show wr.heap.size < _; omega, by show wr.heap.size < _; omega, by show (ad.add (wi * 8)).block < _; omega, by show (ad.add (wi * 8)).block < _; omega, by show (ad.add (wi * 8)).block < _; omega, by show (ad.add (wi * 8)).block < _; omega, by show (ad.add (wi * 8)).block < _; omega, by show (ad.add (wi * 8)).block < _; omega, by show (ad.add (wi * 8)).block < _; omega, by show (ad.add (wi * 8)).block < _; omega, by show w4.heap.size < _; omega, by show M < _; omega, by show (fa.add (k * 3)).block < _; omega, trivial⟩
            have hS5 : ∀ V : World, V.heap = (wr.alloc (.cells #[.int .i64 (X + (i : Int) % W), .int .i64 (Z + (i : Int) / W), .int .i64 rows[i][k].x] 47)).heap → CellsL [(⟨w6.heap.size, 4, none⟩, .slice (some ⟨M2, 0, none⟩) rows.length rows.length), (⟨M2, i, none⟩, .slice (some fb) rows[i].length cb), (⟨(fb.add (k * 3)).block, (fb.add (k * 3)).off + 2, none⟩, .int .i64 vb), (⟨wr.heap.size, 0, none⟩, .int .i64 (X + (i : Int) % W)), (⟨wr.heap.size, 1, none⟩, .int .i64 (Z + (i : Int) / W)), (⟨wr.heap.size, 2, none⟩, .int .i64 rows[i][k].x), (ad.add (wi * 8), .int .i64 l[wi].id), (⟨(ad.add (wi * 8)).block, (ad.add (wi * 8)).off + 1, none⟩, .int .i64 l[wi].x0), (⟨(ad.add (wi * 8)).block, (ad.add (wi * 8)).off + 2, none⟩, .int .i64 l[wi].z0), (⟨(ad.add (wi * 8)).block, (ad.add (wi * 8)).off + 3, none⟩, .int .i64 l[wi].x1), (⟨(ad.add (wi * 8)).block, (ad.add (wi * 8)).off + 4, none⟩, .int .i64 l[wi].z1), (⟨(ad.add (wi * 8)).block, (ad.add (wi * 8)).off + 5, none⟩, .int .i64 l[wi].y0), (⟨(ad.add (wi * 8)).block, (ad.add (wi * 8)).off + 6, none⟩, .int .i64 l[wi].y1), (⟨(ad.add (wi * 8)).block, (ad.add (wi * 8)).off + 7, none⟩, .int .i64 l[wi].ar), (⟨w4.heap.size, 4, none⟩, .slice (some ⟨M, 0, none⟩) rows.length rows.length), (⟨M, i, none⟩, .slice (some fa) rows[i].length ca), (⟨(fa.add (k * 3)).block, (fa.add (k * 3)).off + 2, none⟩, .int .i64 va)] V := by
              intro V hV
              have e : ∀ p : Addr, p.block < wr.heap.size → V.cell? p = wr.cell? p := fun p hp => World.cell?_of_block (by rw [hV]; exact hb8.block p.block hp)
              have es : ∀ q u, #[Value.int .i64 (X + (i : Int) % W), .int .i64 (Z + (i : Int) / W), .int .i64 rows[i][k].x][q]? = some u → V.cell? ⟨wr.heap.size, q, none⟩ = some u := fun q u hq => by
                have e9 : V.cell? ⟨wr.heap.size, q, none⟩ = (wr.alloc (.cells #[.int .i64 (X + (i : Int) % W), .int .i64 (Z + (i : Int) / W), .int .i64 rows[i][k].x] 47)).cell? ⟨wr.heap.size, q, none⟩ := World.cell?_of_block (by rw [hV])
                rw [e9]
                exact (World.cell?_alloc_at _ _ _ _ rfl).trans hq
              exact ⟨(e _ (by show w6.heap.size < _; omega)).trans ob, (e _ (by show M2 < _; omega)).trans hbt', (e _ (by show (fb.add (k * 3)).block < _; omega)).trans bz, es 0 _ rfl, es 1 _ rfl, es 2 _ rfl, (e _ (by show (ad.add (wi * 8)).block < _; omega)).trans y0, (e _ (by show (ad.add (wi * 8)).block < _; omega)).trans y1, (e _ (by show (ad.add (wi * 8)).block < _; omega)).trans y2, (e _ (by show (ad.add (wi * 8)).block < _; omega)).trans y3, (e _ (by show (ad.add (wi * 8)).block < _; omega)).trans y4, (e _ (by show (ad.add (wi * 8)).block < _; omega)).trans y5, (e _ (by show (ad.add (wi * 8)).block < _; omega)).trans y6, (e _ (by show (ad.add (wi * 8)).block < _; omega)).trans y7, (e _ (by show w4.heap.size < _; omega)).trans oa, (e _ (by show M < _; omega)).trans hat', (e _ (by show (fa.add (k * 3)).block < _; omega)).trans az, trivial⟩
            clear hS hlt22 e1 e2 e3 hx1 hx2 hz1' hz2' oa ob hat' hbt' az bz y0 y1 y2 y3 y4 y5 y6 y7 g0 g1 g2 g4 hgt gx hva hvb hb8
            gi_wp2
            cases hI : inB l[wi] (X + (i : Int) % W) (Z + (i : Int) / W) rows[i][k].x
            · rw [hI] at hinb
              obtain rfl := hdrop hI
              refine wpIn_region_ord [(0, true), (1, true), (2, true), (3, true), (4, true), (5, true), (6, true), (7, true), (8, true), (9, true), (10, true), (11, false), (12, true), (13, true), (14, true), (15, true), (16, true), (17, true), (18, true), (19, false), (20, true), (21, true), (22, true), (23, true), (24, true), (25, true), (26, true), (27, true), (28, true), (29, true), (30, true), (31, true), (32, true), (33, true), (34, true), (35, true), (36, true), (37, true), (38, true), (39, true), (40, true), (41, true)] (CellsL [(⟨w6.heap.size, 4, none⟩, .slice (some ⟨M2, 0, none⟩) rows.length rows.length), (⟨M2, i, none⟩, .slice (some fb) rows[i].length cb), (⟨(fb.add (k * 3)).block, (fb.add (k * 3)).off + 2, none⟩, .int .i64 va), (⟨wr.heap.size, 0, none⟩, .int .i64 (X + (i : Int) % W)), (⟨wr.heap.size, 1, none⟩, .int .i64 (Z + (i : Int) / W)), (⟨wr.heap.size, 2, none⟩, .int .i64 rows[i][k].x), (ad.add (wi * 8), .int .i64 l[wi].id), (⟨(ad.add (wi * 8)).block, (ad.add (wi * 8)).off + 1, none⟩, .int .i64 l[wi].x0), (⟨(ad.add (wi * 8)).block, (ad.add (wi * 8)).off + 2, none⟩, .int .i64 l[wi].z0), (⟨(ad.add (wi * 8)).block, (ad.add (wi * 8)).off + 3, none⟩, .int .i64 l[wi].x1), (⟨(ad.add (wi * 8)).block, (ad.add (wi * 8)).off + 4, none⟩, .int .i64 l[wi].z1), (⟨(ad.add (wi * 8)).block, (ad.add (wi * 8)).off + 5, none⟩, .int .i64 l[wi].y0), (⟨(ad.add (wi * 8)).block, (ad.add (wi * 8)).off + 6, none⟩, .int .i64 l[wi].y1), (⟨(ad.add (wi * 8)).block, (ad.add (wi * 8)).off + 7, none⟩, .int .i64 l[wi].ar), (⟨w4.heap.size, 4, none⟩, .slice (some ⟨M, 0, none⟩) rows.length rows.length), (⟨M, i, none⟩, .slice (some fa) rows[i].length ca), (⟨(fa.add (k * 3)).block, (fa.add (k * 3)).off + 2, none⟩, .int .i64 va)]) (fun _ => trivial) rfl (by intro c d v a w h; cases d <;> exact h) (by kernel_rfl) ?_
              simp only [List.length_cons, List.length_nil, Nat.reduceAdd, List.drop_succ_cons, List.drop_zero]
              have hS5d : CellsL [(⟨w6.heap.size, 4, none⟩, .slice (some ⟨M2, 0, none⟩) rows.length rows.length), (⟨M2, i, none⟩, .slice (some fb) rows[i].length cb), (⟨(fb.add (k * 3)).block, (fb.add (k * 3)).off + 2, none⟩, .int .i64 va), (⟨wr.heap.size, 0, none⟩, .int .i64 (X + (i : Int) % W)), (⟨wr.heap.size, 1, none⟩, .int .i64 (Z + (i : Int) / W)), (⟨wr.heap.size, 2, none⟩, .int .i64 rows[i][k].x), (ad.add (wi * 8), .int .i64 l[wi].id), (⟨(ad.add (wi * 8)).block, (ad.add (wi * 8)).off + 1, none⟩, .int .i64 l[wi].x0), (⟨(ad.add (wi * 8)).block, (ad.add (wi * 8)).off + 2, none⟩, .int .i64 l[wi].z0), (⟨(ad.add (wi * 8)).block, (ad.add (wi * 8)).off + 3, none⟩, .int .i64 l[wi].x1), (⟨(ad.add (wi * 8)).block, (ad.add (wi * 8)).off + 4, none⟩, .int .i64 l[wi].z1), (⟨(ad.add (wi * 8)).block, (ad.add (wi * 8)).off + 5, none⟩, .int .i64 l[wi].y0), (⟨(ad.add (wi * 8)).block, (ad.add (wi * 8)).off + 6, none⟩, .int .i64 l[wi].y1), (⟨(ad.add (wi * 8)).block, (ad.add (wi * 8)).off + 7, none⟩, .int .i64 l[wi].ar), (⟨w4.heap.size, 4, none⟩, .slice (some ⟨M, 0, none⟩) rows.length rows.length), (⟨M, i, none⟩, .slice (some fa) rows[i].length ca), (⟨(fa.add (k * 3)).block, (fa.add (k * 3)).off + 2, none⟩, .int .i64 va)] (wr.alloc (.cells #[.int .i64 (X + (i : Int) % W), .int .i64 (Z + (i : Int) / W), .int .i64 rows[i][k].x] 47)).drew.drew := hS5 _ rfl
              iterate 11 (apply wpOrd_quiet rfl hS5d rfl; (intro w' hw'; obtain ⟨q0, q1, q2, q3, q4, q5, q6, q7, q8, q9, q10, q11, q12, q13, q14, q15, q16, _⟩ := hw'; go_simp; first | exact rfl | (rw [if_neg hW0, Int.tmod_eq_emod_of_nonneg hi0]; exact rfl) | (rw [if_neg hW0, Int.tdiv_eq_ediv_of_nonneg hi0]; exact rfl)); go_simp)
              refine wpOrd_move rfl rfl ?_
              go_simp
              refine ⟨trivial, (callsIn_wide.2 (hof (by first | exact hbS7 | exact hbS7.drew | exact hbS7.drew.drew))).mono ?_⟩
              rintro en u1 ⟨rfl, hu1⟩
              have hS6 : CellsL [(⟨w6.heap.size, 4, none⟩, .slice (some ⟨M2, 0, none⟩) rows.length rows.length), (⟨M2, i, none⟩, .slice (some fb) rows[i].length cb), (⟨(fb.add (k * 3)).block, (fb.add (k * 3)).off + 2, none⟩, .int .i64 va), (⟨wr.heap.size, 0, none⟩, .int .i64 (X + (i : Int) % W)), (⟨wr.heap.size, 1, none⟩, .int .i64 (Z + (i : Int) / W)), (⟨wr.heap.size, 2, none⟩, .int .i64 rows[i][k].x), (ad.add (wi * 8), .int .i64 l[wi].id), (⟨(ad.add (wi * 8)).block, (ad.add (wi * 8)).off + 1, none⟩, .int .i64 l[wi].x0), (⟨(ad.add (wi * 8)).block, (ad.add (wi * 8)).off + 2, none⟩, .int .i64 l[wi].z0), (⟨(ad.add (wi * 8)).block, (ad.add (wi * 8)).off + 3, none⟩, .int .i64 l[wi].x1), (⟨(ad.add (wi * 8)).block, (ad.add (wi * 8)).off + 4, none⟩, .int .i64 l[wi].z1), (⟨(ad.add (wi * 8)).block, (ad.add (wi * 8)).off + 5, none⟩, .int .i64 l[wi].y0), (⟨(ad.add (wi * 8)).block, (ad.add (wi * 8)).off + 6, none⟩, .int .i64 l[wi].y1), (⟨(ad.add (wi * 8)).block, (ad.add (wi * 8)).off + 7, none⟩, .int .i64 l[wi].ar), (⟨w4.heap.size, 4, none⟩, .slice (some ⟨M, 0, none⟩) rows.length rows.length), (⟨M, i, none⟩, .slice (some fa) rows[i].length ca), (⟨(fa.add (k * 3)).block, (fa.add (k * 3)).off + 2, none⟩, .int .i64 va)] u1 := CellsL.keep hu1 hS5d hlt5
              have hv1 := hl7 (by first | exact hbS7 | exact hbS7.drew | exact hbS7.drew.drew) hu1
              refine ⟨hS6, ?_⟩
              go_simp
              iterate 7 (apply wpOrd_quiet rfl hS6 rfl; (intro w' hw'; obtain ⟨q0, q1, q2, q3, q4, q5, q6, q7, q8, q9, q10, q11, q12, q13, q14, q15, q16, _⟩ := hw'; go_simp; first | exact rfl | (rw [if_neg hW0, Int.tmod_eq_emod_of_nonneg hi0]; exact rfl) | (rw [if_neg hW0, Int.tdiv_eq_ediv_of_nonneg hi0]; exact rfl)); go_simp)
              refine wpOrd_move rfl rfl ?_
              go_simp
              refine ⟨trivial, (callsIn_wide.2 (hinb _)).mono ?_⟩
              rintro en u2 ⟨rfl, hu2⟩
              have hS7 : CellsL [(⟨w6.heap.size, 4, none⟩, .slice (some ⟨M2, 0, none⟩) rows.length rows.length), (⟨M2, i, none⟩, .slice (some fb) rows[i].length cb), (⟨(fb.add (k * 3)).block, (fb.add (k * 3)).off + 2, none⟩, .int .i64 va), (⟨wr.heap.size, 0, none⟩, .int .i64 (X + (i : Int) % W)), (⟨wr.heap.size, 1, none⟩, .int .i64 (Z + (i : Int) / W)), (⟨wr.heap.size, 2, none⟩, .int .i64 rows[i][k].x), (ad.add (wi * 8), .int .i64 l[wi].id), (⟨(ad.add (wi * 8)).block, (ad.add (wi * 8)).off + 1, none⟩, .int .i64 l[wi].x0), (⟨(ad.add (wi * 8)).block, (ad.add (wi * 8)).off + 2, none⟩, .int .i64 l[wi].z0), (⟨(ad.add (wi * 8)).block, (ad.add (wi * 8)).off + 3, none⟩, .int .i64 l[wi].x1), (⟨(ad.add (wi * 8)).block, (ad.add (wi * 8)).off + 4, none⟩, .int .i64 l[wi].z1), (⟨(ad.add (wi * 8)).block, (ad.add (wi * 8)).off + 5, none⟩, .int .i64 l[wi].y0), (⟨(ad.add (wi * 8)).block, (ad.add (wi * 8)).off + 6, none⟩, .int .i64 l[wi].y1), (⟨(ad.add (wi * 8)).block, (ad.add (wi * 8)).off + 7, none⟩, .int .i64 l[wi].ar), (⟨w4.heap.size, 4, none⟩, .slice (some ⟨M, 0, none⟩) rows.length rows.length), (⟨M, i, none⟩, .slice (some fa) rows[i].length ca), (⟨(fa.add (k * 3)).block, (fa.add (k * 3)).off + 2, none⟩, .int .i64 va)] u2 := CellsL.keep hu2 hS6 (hlt5.mono hu1.size)
              refine ⟨hS7, ?_⟩
              go_simp
              iterate 22 (apply wpOrd_quiet rfl hS7 rfl; (intro w' hw'; obtain ⟨q0, q1, q2, q3, q4, q5, q6, q7, q8, q9, q10, q11, q12, q13, q14, q15, q16, _⟩ := hw'; go_simp; first | exact rfl | (rw [if_neg hW0, Int.tmod_eq_emod_of_nonneg hi0]; exact rfl) | (rw [if_neg hW0, Int.tdiv_eq_ediv_of_nonneg hi0]; exact rfl)); go_simp)
              refine wpOrd_nil ?_
              have hbn : Below W7.heap.size W7 u2 := hl7 hv1 hu2
              clear hS5 hS5d hS6 hS7 hlt5
              gi_wp2
              go_roundw
              case rel => exact ⟨k + 1, by go_num, by omega, hbn⟩
              case measure => show rows[i].length - ((k : Int) + 1).toNat < rows[i].length - ((k : Int)).toNat; omega
            · rw [hI] at hinb
              clear hdrop
              refine wpIn_region_ord [(0, true), (1, true), (2, true), (3, true), (4, true), (5, true), (6, true), (7, true), (8, true), (9, true), (10, true), (11, false), (12, true), (13, true), (14, true), (15, true), (16, true), (17, true), (18, true), (19, false), (20, true), (21, true), (22, true), (23, true), (24, true), (25, true), (26, true), (27, true), (28, true), (29, true), (30, true), (31, true), (32, true), (33, true), (34, true), (35, true), (36, true), (37, true), (38, true), (39, true), (40, true), (41, true)] (CellsL [(⟨w6.heap.size, 4, none⟩, .slice (some ⟨M2, 0, none⟩) rows.length rows.length), (⟨M2, i, none⟩, .slice (some fb) rows[i].length cb), (⟨(fb.add (k * 3)).block, (fb.add (k * 3)).off + 2, none⟩, .int .i64 vb), (⟨wr.heap.size, 0, none⟩, .int .i64 (X + (i : Int) % W)), (⟨wr.heap.size, 1, none⟩, .int .i64 (Z + (i : Int) / W)), (⟨wr.heap.size, 2, none⟩, .int .i64 rows[i][k].x), (ad.add (wi * 8), .int .i64 l[wi].id), (⟨(ad.add (wi * 8)).block, (ad.add (wi * 8)).off + 1, none⟩, .int .i64 l[wi].x0), (⟨(ad.add (wi * 8)).block, (ad.add (wi * 8)).off + 2, none⟩, .int .i64 l[wi].z0), (⟨(ad.add (wi * 8)).block, (ad.add (wi * 8)).off + 3, none⟩, .int .i64 l[wi].x1), (⟨(ad.add (wi * 8)).block, (ad.add (wi * 8)).off + 4, none⟩, .int .i64 l[wi].z1), (⟨(ad.add (wi * 8)).block, (ad.add (wi * 8)).off + 5, none⟩, .int .i64 l[wi].y0), (⟨(ad.add (wi * 8)).block, (ad.add (wi * 8)).off + 6, none⟩, .int .i64 l[wi].y1), (⟨(ad.add (wi * 8)).block, (ad.add (wi * 8)).off + 7, none⟩, .int .i64 l[wi].ar), (⟨w4.heap.size, 4, none⟩, .slice (some ⟨M, 0, none⟩) rows.length rows.length), (⟨M, i, none⟩, .slice (some fa) rows[i].length ca), (⟨(fa.add (k * 3)).block, (fa.add (k * 3)).off + 2, none⟩, .int .i64 va)]) (fun _ => trivial) rfl (by intro c d v a w h; cases d <;> exact h) (by kernel_rfl) ?_
              simp only [List.length_cons, List.length_nil, Nat.reduceAdd, List.drop_succ_cons, List.drop_zero]
              have hS5d : CellsL [(⟨w6.heap.size, 4, none⟩, .slice (some ⟨M2, 0, none⟩) rows.length rows.length), (⟨M2, i, none⟩, .slice (some fb) rows[i].length cb), (⟨(fb.add (k * 3)).block, (fb.add (k * 3)).off + 2, none⟩, .int .i64 vb), (⟨wr.heap.size, 0, none⟩, .int .i64 (X + (i : Int) % W)), (⟨wr.heap.size, 1, none⟩, .int .i64 (Z + (i : Int) / W)), (⟨wr.heap.size, 2, none⟩, .int .i64 rows[i][k].x), (ad.add (wi * 8), .int .i64 l[wi].id), (⟨(ad.add (wi * 8)).block, (ad.add (wi * 8)).off + 1, none⟩, .int .i64 l[wi].x0), (⟨(ad.add (wi * 8)).block, (ad.add (wi * 8)).off + 2, none⟩, .int .i64 l[wi].z0), (⟨(ad.add (wi * 8)).block, (ad.add (wi * 8)).off + 3, none⟩, .int .i64 l[wi].x1), (⟨(ad.add (wi * 8)).block, (ad.add (wi * 8)).off + 4, none⟩, .int .i64 l[wi].z1), (⟨(ad.add (wi * 8)).block, (ad.add (wi * 8)).off + 5, none⟩, .int .i64 l[wi].y0), (⟨(ad.add (wi * 8)).block, (ad.add (wi * 8)).off + 6, none⟩, .int .i64 l[wi].y1), (⟨(ad.add (wi * 8)).block, (ad.add (wi * 8)).off + 7, none⟩, .int .i64 l[wi].ar), (⟨w4.heap.size, 4, none⟩, .slice (some ⟨M, 0, none⟩) rows.length rows.length), (⟨M, i, none⟩, .slice (some fa) rows[i].length ca), (⟨(fa.add (k * 3)).block, (fa.add (k * 3)).off + 2, none⟩, .int .i64 va)] (wr.alloc (.cells #[.int .i64 (X + (i : Int) % W), .int .i64 (Z + (i : Int) / W), .int .i64 rows[i][k].x] 47)).drew.drew := hS5 _ rfl
              iterate 11 (apply wpOrd_quiet rfl hS5d rfl; (intro w' hw'; obtain ⟨q0, q1, q2, q3, q4, q5, q6, q7, q8, q9, q10, q11, q12, q13, q14, q15, q16, _⟩ := hw'; go_simp; first | exact rfl | (rw [if_neg hW0, Int.tmod_eq_emod_of_nonneg hi0]; exact rfl) | (rw [if_neg hW0, Int.tdiv_eq_ediv_of_nonneg hi0]; exact rfl)); go_simp)
              refine wpOrd_move rfl rfl ?_
              go_simp
              refine ⟨trivial, (callsIn_wide.2 (hof (by first | exact hbS7 | exact hbS7.drew | exact hbS7.drew.drew))).mono ?_⟩
              rintro en u1 ⟨rfl, hu1⟩
              have hS6 : CellsL [(⟨w6.heap.size, 4, none⟩, .slice (some ⟨M2, 0, none⟩) rows.length rows.length), (⟨M2, i, none⟩, .slice (some fb) rows[i].length cb), (⟨(fb.add (k * 3)).block, (fb.add (k * 3)).off + 2, none⟩, .int .i64 vb), (⟨wr.heap.size, 0, none⟩, .int .i64 (X + (i : Int) % W)), (⟨wr.heap.size, 1, none⟩, .int .i64 (Z + (i : Int) / W)), (⟨wr.heap.size, 2, none⟩, .int .i64 rows[i][k].x), (ad.add (wi * 8), .int .i64 l[wi].id), (⟨(ad.add (wi * 8)).block, (ad.add (wi * 8)).off + 1, none⟩, .int .i64 l[wi].x0), (⟨(ad.add (wi * 8)).block, (ad.add (wi * 8)).off + 2, none⟩, .int .i64 l[wi].z0), (⟨(ad.add (wi * 8)).block, (ad.add (wi * 8)).off + 3, none⟩, .int .i64 l[wi].x1), (⟨(ad.add (wi * 8)).block, (ad.add (wi * 8)).off + 4, none⟩, .int .i64 l[wi].z1), (⟨(ad.add (wi * 8)).block, (ad.add (wi * 8)).off + 5, none⟩, .int .i64 l[wi].y0), (⟨(ad.add (wi * 8)).block, (ad.add (wi * 8)).off + 6, none⟩, .int .i64 l[wi].y1), (⟨(ad.add (wi * 8)).block, (ad.add (wi * 8)).off + 7, none⟩, .int .i64 l[wi].ar), (⟨w4.heap.size, 4, none⟩, .slice (some ⟨M, 0, none⟩) rows.length rows.length), (⟨M, i, none⟩, .slice (some fa) rows[i].length ca), (⟨(fa.add (k * 3)).block, (fa.add (k * 3)).off + 2, none⟩, .int .i64 va)] u1 := CellsL.keep hu1 hS5d hlt5
              have hv1 := hl7 (by first | exact hbS7 | exact hbS7.drew | exact hbS7.drew.drew) hu1
              refine ⟨hS6, ?_⟩
              go_simp
              iterate 7 (apply wpOrd_quiet rfl hS6 rfl; (intro w' hw'; obtain ⟨q0, q1, q2, q3, q4, q5, q6, q7, q8, q9, q10, q11, q12, q13, q14, q15, q16, _⟩ := hw'; go_simp; first | exact rfl | (rw [if_neg hW0, Int.tmod_eq_emod_of_nonneg hi0]; exact rfl) | (rw [if_neg hW0, Int.tdiv_eq_ediv_of_nonneg hi0]; exact rfl)); go_simp)
              refine wpOrd_move rfl rfl ?_
              go_simp
              refine ⟨trivial, (callsIn_wide.2 (hinb _)).mono ?_⟩
              rintro en u2 ⟨rfl, hu2⟩
              have hS7 : CellsL [(⟨w6.heap.size, 4, none⟩, .slice (some ⟨M2, 0, none⟩) rows.length rows.length), (⟨M2, i, none⟩, .slice (some fb) rows[i].length cb), (⟨(fb.add (k * 3)).block, (fb.add (k * 3)).off + 2, none⟩, .int .i64 vb), (⟨wr.heap.size, 0, none⟩, .int .i64 (X + (i : Int) % W)), (⟨wr.heap.size, 1, none⟩, .int .i64 (Z + (i : Int) / W)), (⟨wr.heap.size, 2, none⟩, .int .i64 rows[i][k].x), (ad.add (wi * 8), .int .i64 l[wi].id), (⟨(ad.add (wi * 8)).block, (ad.add (wi * 8)).off + 1, none⟩, .int .i64 l[wi].x0), (⟨(ad.add (wi * 8)).block, (ad.add (wi * 8)).off + 2, none⟩, .int .i64 l[wi].z0), (⟨(ad.add (wi * 8)).block, (ad.add (wi * 8)).off + 3, none⟩, .int .i64 l[wi].x1), (⟨(ad.add (wi * 8)).block, (ad.add (wi * 8)).off + 4, none⟩, .int .i64 l[wi].z1), (⟨(ad.add (wi * 8)).block, (ad.add (wi * 8)).off + 5, none⟩, .int .i64 l[wi].y0), (⟨(ad.add (wi * 8)).block, (ad.add (wi * 8)).off + 6, none⟩, .int .i64 l[wi].y1), (⟨(ad.add (wi * 8)).block, (ad.add (wi * 8)).off + 7, none⟩, .int .i64 l[wi].ar), (⟨w4.heap.size, 4, none⟩, .slice (some ⟨M, 0, none⟩) rows.length rows.length), (⟨M, i, none⟩, .slice (some fa) rows[i].length ca), (⟨(fa.add (k * 3)).block, (fa.add (k * 3)).off + 2, none⟩, .int .i64 va)] u2 := CellsL.keep hu2 hS6 (hlt5.mono hu1.size)
              refine ⟨hS7, ?_⟩
              go_simp
              iterate 2 (apply wpOrd_quiet rfl hS7 rfl; (intro w' hw'; obtain ⟨q0, q1, q2, q3, q4, q5, q6, q7, q8, q9, q10, q11, q12, q13, q14, q15, q16, _⟩ := hw'; go_simp; first | exact rfl | (rw [if_neg hW0, Int.tmod_eq_emod_of_nonneg hi0]; exact rfl) | (rw [if_neg hW0, Int.tdiv_eq_ediv_of_nonneg hi0]; exact rfl)); go_simp)
              iterate 19 (refine wpOrd_off rfl hS7 rfl ?_; go_simp)
              iterate 1 (apply wpOrd_quiet rfl hS7 rfl; (intro w' hw'; obtain ⟨q0, q1, q2, q3, q4, q5, q6, q7, q8, q9, q10, q11, q12, q13, q14, q15, q16, _⟩ := hw'; go_simp; first | exact rfl | (rw [if_neg hW0, Int.tmod_eq_emod_of_nonneg hi0]; exact rfl) | (rw [if_neg hW0, Int.tdiv_eq_ediv_of_nonneg hi0]; exact rfl)); go_simp)
              refine wpOrd_nil ?_
              have hbn : Below W7.heap.size W7 u2 := hl7 hv1 hu2
              clear hS5 hS5d hS6 hS7 hlt5
              gi_wp2
              go_roundw
              case rel => exact ⟨k + 1, by go_num, by omega, hbn⟩
              case measure => show rows[i].length - ((k : Int) + 1).toNat < rows[i].length - ((k : Int)).toNat; omega
          · obtain rfl : k = rows[i].length := by omega
            gi_wp2
            go_roundw
            case rel => exact ⟨i + 1, by go_num, by omega, hbt⟩
            case measure => show rows.length - ((i : Int) + 1).toNat < rows.length - ((i : Int)).toNat; omega
      · obtain rfl : i = rows.length := by omega
        gi_wp2_with (refine ⟨trivial, ?_⟩; gi_at_call 16; refine (callsIn_wide.2 (hwk _)).mono ?_; rintro en w9 ⟨rfl, hb9⟩)
        refine bodyPost_ret (results_tmp rfl _ _ _) rfl ?_
        exact ⟨rfl, hlast (hlast B7 hbr) hb9⟩
theorem areaDrops_calls (x0 x1 x2 x3 x4 x5 x6 gX gZ gW gD : Int) (v2 : Value) (x7 : Int) (rows : List (List V3)) (A : Option Addr) (cap : Nat) (xs : List Value) (w : World) (hr : RowsAt w w.heap.size A rows) (hl : lensOk rows) (hin : InVal w.heap.size w v2 xs [.i, .i, .i, .i, .i, .i, .i, .i]) (hlen : xs.length / 8 ≤ 9223372036854775807)
    (hcap : ∀ {A : Option Addr} {n c : Nat}, v2 = .slice A n c → n ≤ c ∧ c ≤ 9223372036854775807) :
    Calls Try.prog 5 #[.agg #[.int .i64 x0, .int .i64 x1, .int .i64 x2, .int .i64 x3, .int .i64 x4, .int .i64 x5, .int .i64 x6], .agg #[.int .i64 gX, .int .i64 gZ, .int .i64 gW, .int .i64 gD, .slice A rows.length cap], v2, .int .i64 x7] w fun en w' => en = .returned (.bool true) ∧ Below w.heap.size w w' := by
  obtain ⟨Al, cl, rfl, hb⟩ := b8s_ok hin
  obtain ⟨h1, h2⟩ := hcap rfl
  exact adrops_any x0 x1 x2 x3 x4 x5 x6 gX gZ gW gD x7 rows A cap (b8s xs) Al cl w hr hl hb (by simpa [b8s] using hlen) h1 h2
end Go.Proofs.Ytbjbiimkhpfieaa
