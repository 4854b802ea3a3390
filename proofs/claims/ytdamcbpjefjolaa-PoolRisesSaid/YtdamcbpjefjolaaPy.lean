/- PoolRises by a walk: it is true. No conditions but that the slices lie where they are said to lie. -/
import Derived.Test.YtdamcbpjefjolaaPx
import Derived.Test.YtdamcbpjefjolaaRv
import Derived.Deep.CutRange
import Derived.Deep.QuietTactic
namespace Go.Proofs.Ytdamcbpjefjolaa
open Go Go.RowKit Go.Sx Go.Mp
/-- What the law keeps. -/
structure LawIn (w0 wr : World) (b bm N : Nat) (i : Nat) (u : Value) (v : Value) (E : List En) (h : List V3) (L : V3) (TL : List Int) : Prop where
  pool : PoolIn wr w0.heap.size b bm v 16384 E h
  inv : Inv26 L TL E h
  row : wr.ownsRow w0.heap.size 3 1 u TL.length (ics TL)
  last : wr.heap[N]? = some (.cells #[.int .i64 L.x, .int .i64 L.y, .int .i64 L.z] 30 (0, 0))
  vN : v.ownBlock ≠ some N
  nN : w0.heap.size ≤ N
  hl : h.length ≤ i
  el : E.length ≤ i
  tl : TL.length ≤ i
  low : Below w0.heap.size w0 wr
theorem info3 : (Try.prog.info? 3).map (fun i => (i.zero, i.size, i.bytes)) = some (some (.int .i64 0), 1, 8) := by kernel_rfl
theorem own_row1 {w : World} {base : Nat} {e : TypeId} {v : Value} {n : Nat} {xs : List Value} (h : w.ownsRow base e 1 v n xs) : ∃ A cap, v = .slice A n cap ∧ n ≤ cap ∧ Reads w w.heap.size 1 A n xs := by
  have h' := h
  rcases h.2 with ⟨rfl, rfl⟩ | ⟨g, cap, cur, rfl, _, _, hc, _⟩
  · exact ⟨none, 0, rfl, Nat.le_refl _, Reads.of_own h'⟩
  · exact ⟨_, cap, rfl, hc, Reads.of_own h'⟩
theorem own_reads {w : World} {base : Nat} {e : TypeId} {A : Option Addr} {c n : Nat} {xs : List Value} (h : w.ownsRow base e 1 (.slice A n c) n xs) : Reads w w.heap.size 1 A n xs := Reads.of_own h
theorem row3_ne {w : World} {base n : Nat} {u : Value} {xs : List Value} (h : w.ownsRow base 3 1 u n xs) {k : Nat} {c : Array Value} {z : Nat × Nat} (hk : w.heap[k]? = some (.cells c 30 z)) : u.ownBlock ≠ some k := by
  rcases h.2 with ⟨rfl, _⟩ | ⟨g, cap, cur, rfl, _, hg, _⟩
  · simp [Value.ownBlock]
  · intro e
    injection e with e
    rw [show g = k from e, hk] at hg
    injection hg with hg; injection hg with _ h3; cases h3
theorem after_app {wc w8 : World} {base n m k : Nat} {u : Value} {xs : List Value} {o : Obj} (h : wc.ownsRow base 3 1 u n xs) (hg : ((wc.drewN m).alloc o).grownBy w8 u.ownBlock) {c : Array Value} (hk : wc.heap[k]? = some (.cells c 30 (0, 0))) : w8.heap[k]? = some (.cells c 30 (0, 0)) :=
  (hg.block k (lt_of_block (World.cells_alloc_lt (w := wc.drewN m) hk o)) (Ne.symm (row3_ne h hk))).trans (World.cells_alloc_lt (w := wc.drewN m) hk o)
theorem PoolIn.grow3 {w w8 : World} {base b bm n m base' : Nat} {v u : Value} {room : Int} {E : List En} {h : List V3} {xs : List Value} {o : Obj} (H : PoolIn w base b bm v room E h) (hu : w.ownsRow base' 3 1 u n xs) (hg : ((w.drewN m).alloc o).grownBy w8 u.ownBlock) : PoolIn w8 base b bm v room E h := by
  have hrow : ∀ k, u.ownBlock = some k → ∃ c, w.heap[k]? = some (.cells c 3 (0, 0)) := fun k hk => by
    rcases hu.2 with ⟨rfl, _⟩ | ⟨g, cap, cur, rfl, _, h1, _⟩
    · cases hk
    · injection hk with hk
      exact ⟨cur, by rw [← show g = k from hk]; exact h1⟩
  have keep : ∀ {k : Nat} {o' : Obj}, w.heap[k]? = some o' → (∀ c, o' ≠ .cells c 3 (0, 0)) → w8.heap[k]? = some o' := fun {k o'} hk hne =>
    (hg.block k (lt_of_block (World.cells_alloc_lt (w := w.drewN m) hk o)) (fun e => by
      obtain ⟨c, hc⟩ := hrow k e.symm
      rw [hk] at hc
      injection hc with hc
      exact hne c hc)).trans (World.cells_alloc_lt (w := w.drewN m) hk o)
  obtain ⟨es, cl, h1, h2⟩ := H.mp
  refine ⟨keep H.pb (fun c e => by injection e with _ e; cases e), ⟨es, cl, keep h1 (fun c e => by cases e), h2⟩, fun e he => keep (H.nd e he) (fun c e => by injection e with _ e; cases e), ?_, H.ps, H.ks, H.b0, H.b1, H.b2⟩
  rcases H.row.2 with ⟨rfl, h0⟩ | ⟨g, cap, cur, rfl, h1, hg', h3⟩
  · exact ⟨H.row.1, .inl ⟨rfl, h0⟩⟩
  · exact ⟨H.row.1, .inr ⟨g, cap, cur, rfl, h1, keep hg' (fun c e => by injection e with _ e; cases e), h3⟩⟩
/-- The round's end, where something was taken. -/
theorem law_end {w wc w8 : World} {b bm N k0 n m i base : Nat} {u u8 v : Value} {E : List En} {h : List V3} {L y : V3} {TL : List Int} {o : Obj} (hb : base = w.heap.size) (low : Below w.heap.size w wc) (hP : PoolIn wc base b bm v 16384 E h) (hI : Inv26 y (TL ++ [y.x]) E h) (hu : wc.ownsRow base 3 1 u n (ics TL)) (hg : ((wc.drewN m).alloc o).grownBy w8 u.ownBlock)
    (hown : w8.ownsRow base 3 1 u8 (TL.length + 1) (ics TL ++ [.int .i64 y.x])) (hL : wc.heap[N]? = some (.cells #[.int .i64 L.x, .int .i64 L.y, .int .i64 L.z] 30 (0, 0))) (hN : w.heap.size ≤ N) (vN : v.ownBlock ≠ some N) (hh : h.length ≤ i + 1) (hE : E.length ≤ i + 1) (hT : TL.length ≤ i) (_ : k0 = k0) :
    LawIn w (((w8.setCell ⟨N, 0, none⟩ (.int .i64 y.x)).setCell ⟨N, 1, none⟩ (.int .i64 y.y)).setCell ⟨N, 2, none⟩ (.int .i64 y.z)) b bm N (i + 1) u8 v E h y (TL ++ [y.x]) := by
  subst hb
  have h8 := hP.grow3 hu hg
  have hL8 := after_app hu hg hL
  have hrow : ∀ k, u.ownBlock = some k → w.heap.size ≤ k := fun k hk => (hu.lt k hk).1
  have low8 : Below w.heap.size w w8 := ⟨hg.os.trans low.os, hg.tape.trans low.tape, hg.output.trans low.output, by have := hg.size; have := low.size; simp at *; omega, fun k hk => by
    have h1 : k < wc.heap.size := Nat.lt_of_lt_of_le hk low.size
    have h2 : ((wc.drewN m).alloc o).heap[k]? = wc.heap[k]? := ((Below.refl wc.heap.size (wc.drewN m)).alloc (Nat.le_refl _) o).block k h1
    exact (hg.block k (by simp; omega) (fun e => by have := hrow k e.symm; omega)).trans (h2.trans (low.block k hk))⟩
  obtain ⟨e1, e2, e3⟩ := side3 (v := v) h8 hL8 vN ⟨low8.os, low8.tape, low8.output, low8.size, fun k hk _ => low8.block k hk⟩ hN (.int .i64 y.x) (.int .i64 y.y) (.int .i64 y.z)
  have n1 := row3_ne hown hL8
  refine ⟨e1, hI, ?_, e3, vN, hN, hh, hE, by simp; omega, e2.low (Nat.le_refl _)⟩
  have : (TL ++ [y.x]).length = TL.length + 1 := by simp
  rw [this, show ics (TL ++ [y.x]) = ics TL ++ [.int .i64 y.x] by simp [ics]]
  exact ((hown.kept (grownBy_set _ _ _ _) (.inr n1)).kept (grownBy_set _ _ _ _) (.inr n1)).kept (grownBy_set _ _ _ _) (.inr n1)
theorem prot3 {base g : Nat} {T : TypeId} {v : Value} {w : World} {c : Array Value} {z : Nat × Nat} (h : w.heap[g]? = some (.cells c T z)) (hT : T = 3) : Prot base v w g := by subst hT; exact .inr ⟨c, _, z, h, by decide, by decide, fun e => absurd e (by decide)⟩
theorem own3_keep {base base' : Nat} {v u : Value} {w w' : World} {n : Nat} {xs : List Value} (h : w.ownsRow base' 3 1 u n xs) (hF : PFr base v w w') : w'.ownsRow base' 3 1 u n xs := by
  rcases h.2 with ⟨rfl, h0⟩ | ⟨g, cap, cur, rfl, h1, hg, h3⟩
  · exact ⟨h.1, .inl ⟨rfl, h0⟩⟩
  · exact ⟨h.1, .inr ⟨g, cap, cur, rfl, h1, hF.keep hg (prot3 hg rfl), h3⟩⟩
theorem LawIn.next {w0 wr w3 : World} {b bm N i i' : Nat} {u v v3 : Value} {E E3 : List En} {h h3 : List V3} {L : V3} {TL : List Int} (H : LawIn w0 wr b bm N i u v E h L TL) (hF : PFr w0.heap.size v wr w3) (hV : VL v v3 wr) (hP : PoolIn w3 w0.heap.size b bm v3 16384 E3 h3) (hI : Inv26 L TL E3 h3) (hh : h3.length ≤ i') (hE : E3.length ≤ i') (hi : i ≤ i') :
    LawIn w0 w3 b bm N i' u v3 E3 h3 L TL :=
  ⟨hP, hI, own3_keep H.row hF, hF.keep H.last (.inr ⟨_, _, _, H.last, by decide, by decide, fun _ => H.vN⟩), by
    rcases hV with hV | hV
    · rw [hV]; exact H.vN
    · intro e
      have := hV N e
      have := lt_of_block H.last
      omega, H.nN, hh, hE, Nat.le_trans H.tl hi, H.low.trans (hF.low H.low.size)⟩
theorem LawIn.below {w0 wr w3 : World} {b bm N i : Nat} {u v : Value} {E : List En} {h : List V3} {L : V3} {TL : List Int} (H : LawIn w0 wr b bm N i u v E h L TL) (hb : Below wr.heap.size wr w3) : LawIn w0 w3 b bm N i u v E h L TL :=
  ⟨H.pool.below hb, H.inv, own_below H.row hb, (hb.block N (lt_of_block H.last)).trans H.last, H.vN, H.nN, H.hl, H.el, H.tl, H.low.trans (hb.mono H.low.size)⟩
set_option maxHeartbeats 4000000 in
set_option maxRecDepth 100000 in
theorem rises_any (l : List V3) (A0 : Option Addr) (c0 : Nat) (bs : List Bool) (A1 : Option Addr) (c1 : Nat) (w : World) (h0 : Reads w w.heap.size 3 A0 l.length (vcs l)) (h1 : Reads w w.heap.size 1 A1 bs.length (bcs1 bs)) (hb1 : bs.length ≤ 9223372036854775807)
    (hwk : ∀ w, Calls Try.prog 7 #[] w fun en w' => en = .returned (.bool true) ∧ Below w.heap.size w w') :
    Calls Try.prog 3 #[.slice A0 l.length c0, .slice A1 bs.length c1] w fun en w' => en = .returned (.bool true) ∧ Below w.heap.size w w' := by
  by_cases hlen : l.length ≤ 300
  · have hlen' : ¬ (300 < (l.length : Int)) := by omega
    have hnew := new_any 16384 (by decide) (by decide) w
    go_enter Try.func3, Try.ntmps3
    go_wp2_with (go_at_call 8; refine hnew.mono ?_; rintro en w1 ⟨rfl, hp1, hb1'⟩)
    have hstart : LawIn w (w1.alloc (.cells #[.int .i64 (-1), .int .i64 0, .int .i64 0] 30)) (w.heap.size + 1) w.heap.size w1.heap.size 0 (.slice none 0 0) (.slice none 0 0) [] [] ⟨-1, 0, 0⟩ [] :=
      ⟨hp1.alloc _, Inv26.start, World.ownsRow_nil _ _ _ _, World.alloc_heap_new _ _, by simp [Value.ownBlock], hb1'.size, by simp, by simp, by simp, hb1'.alloc hb1'.size _⟩
    go_loopg [8, 9] l.length (fun k u8 u9 wr => ∃ (i : Nat) (v : Value) (E : List En) (h : List V3) (L : V3) (TL : List Int), u9 = .int .i64 i ∧ k + i = l.length ∧ LawIn w wr (w.heap.size + 1) w.heap.size w1.heap.size i u8 v E h L TL)
    case atStart => exact ⟨0, _, _, _, _, _, rfl, rfl, hstart⟩
    case round =>
      clear hstart hp1 hnew
      obtain ⟨i, v, E, h, L, TL, rfl, hki, hI⟩ := hrel
      obtain ⟨A8, c8, hu8, _, _⟩ := own_row1 hI.row
      subst hu8
      by_cases hil : i < l.length
      · have hil' : (i : Int) < (l.length : Int) := by omega
        obtain ⟨ad, rfl, hadb, x0, x1, x2⟩ := v3_at (h0.below hI.low) hil
        obtain ⟨x, hx⟩ : ∃ x, l[i] = x := ⟨_, rfl⟩
        rw [hx] at x0 x1 x2
        have l0 := cell_of hI.last (j := 0) rfl
        have l1 := cell_of hI.last (j := 1) rfl
        have l2 := cell_of hI.last (j := 2) rfl
        have la1 : ∀ o, (wr.alloc o).cell? ⟨w1.heap.size, 1, none⟩ = some (.int .i64 L.y) := fun o => (World.cell?_alloc_lt wr o ⟨w1.heap.size, 1, none⟩ (lt_of_block hI.last)).trans l1
        go_upto_if 51 with (fail)
        go_cut [10] from 31 to 128 (fun u10 wc => u10 = .pointer (some ⟨wr.heap.size, 0, none⟩) ∧ ∃ c, L.y < c ∧ wc.heap[wr.heap.size]? = some (.cells #[.int .i64 x.x, .int .i64 c, .int .i64 x.z] 30 (0, 0)) ∧ Below wr.heap.size wr wc)
        case first =>
          have hlo := hI.inv.lo
          have hwL : IntKind.i64.wrap (L.y + 1) = L.y + 1 := by rw [IntKind.wrap_i64]; omega
          by_cases hxL : x.y < L.y
          · go_wp2
            go_meet
            case rel => exact ⟨rfl, L.y + 1, by omega, World.alloc_heap_new _ _, (Below.refl _ _).alloc (Nat.le_refl _) _⟩
          · by_cases hxe : x.y = L.y
            · go_wp2
              go_meet
              case rel => exact ⟨rfl, L.y + 1, by omega, World.alloc_heap_new _ _, (Below.refl _ _).alloc (Nat.le_refl _) _⟩
            · go_wp2
              go_meet
              case rel => exact ⟨rfl, x.y, by omega, World.alloc_heap_new _ _, (Below.refl _ _).alloc (Nat.le_refl _) _⟩
        case rest =>
          clear x0 x1 x2 l0 l1 l2 la1
          obtain ⟨rfl, c, hc, hX, hbw⟩ := hcut
          have hlow : Below w.heap.size w wc := hI.low.trans (hbw.mono hI.low.size)
          have hpool := hI.pool.below hbw
          have y0 := cell_of hX (j := 0) rfl
          have y1 := cell_of hX (j := 1) rfl
          have y2 := cell_of hX (j := 2) rfl
          have hput := put_law ⟨x.x, c, x.z⟩ hpool hI.inv hc (by have := hI.hl; omega) (by have := hI.el; omega) hlow.size
          go_upto_region 16 with (go_at_call 9; refine hput.mono ?_; rintro en w3 ⟨ok, er, v3, E3, h3, rfl, her, hP3, hI3, hh3, hE3, hF3, hV3⟩)
          go_cut [67] from 31 to 128 (fun u67 wc => u67 = .bool false ∧ wc = w3)
          case first =>
            rcases her with rfl | rfl
            · go_wp2
              go_meet
              case rel => exact ⟨rfl, rfl⟩
            · go_wp2
              go_meet
              case rel => exact ⟨rfl, rfl⟩
          case rest =>
            obtain ⟨rfl, rfl⟩ := hcut
            have hFc : PFr w.heap.size v wr wc := ((PFr.refl _ _ _).below hbw).transL hF3 (.inl rfl)
            have hVc : VL v v3 wr := VL.trans (.inl rfl) hV3 hbw.size
            have hIn := hI.next hFc hVc hP3 hI3 (i' := i + 1) (by have := hI.hl; omega) (by have := hI.el; omega) (by omega)
            clear hput hF3 hV3 hP3 hI3 hX y0 y1 y2 hpool hlow hFc hVc
            have hwi : IntKind.i64.wrap ((i : Int) + 1) = ((i + 1 : Nat) : Int) := by rw [IntKind.wrap_i64]; omega
            by_cases hib : i < bs.length
            · have hib' : (i : Int) < (bs.length : Int) := by omega
              obtain ⟨bd, rfl, hbdb, z0⟩ := bcs_at (h1.below hIn.low) hib
              cases hbi : bs[i]
              · rw [hbi] at z0
                go_wp2
                go_roundg (l.length - (i + 1))
                case measure => omega
                case rel => exact ⟨i + 1, v3, E3, h3, L, TL, by go_num, by omega, hIn⟩
              · rw [hbi] at z0
                have htake := take_law hIn.pool hIn.inv (by have := hIn.hl; omega)
                go_upto_if 85 with (go_at_call 10; refine htake.mono ?_; rintro en w4 ⟨y, er4, v4, E4, h4, rfl, hP4, hF4, hV4, hh4, hE4, hcase⟩)
                rcases hcase with ⟨rfl, hI4⟩ | ⟨rfl, hI4, hly, hny⟩
                · have hIm := (hIn.next hF4 hV4 hP4 hI4 (i' := i + 1) (by have := hIn.hl; omega) (by have := hIn.el; omega) (Nat.le_refl _)).below ((Below.refl _ _).alloc (Nat.le_refl _) (.cells #[.int .i64 y.x, .int .i64 y.y, .int .i64 y.z] 30))
                  go_wp2
                  go_roundg (l.length - (i + 1))
                  case measure => omega
                  case rel => exact ⟨i + 1, v4, E4, h4, L, TL, by go_num, by omega, hIm⟩
                · have row4 := own3_keep hIn.row hF4
                  have last4 := hF4.keep hIn.last (.inr ⟨_, _, _, hIn.last, by decide, by decide, fun _ => hIn.vN⟩)
                  have vN4 : v4.ownBlock ≠ some w1.heap.size := by
                    rcases hV4 with hV | hV
                    · rw [hV]; exact hIn.vN
                    · intro e
                      have := hV _ e
                      have := lt_of_block hIn.last
                      omega
                  have low4 : Below w.heap.size w w4 := hIn.low.trans (hF4.low hIn.low.size)
                  have hlN : w1.heap.size < w4.heap.size := lt_of_block last4
                  obtain ⟨W5, hW5⟩ : ∃ W5, w4.alloc (.cells #[.int .i64 y.x, .int .i64 y.y, .int .i64 y.z] 30) = W5 := ⟨_, rfl⟩
                  have hb5 : Below w4.heap.size w4 W5 := by rw [← hW5]; exact (Below.refl _ _).alloc (Nat.le_refl _) _
                  have hY5 : W5.heap[w4.heap.size]? = some (.cells #[.int .i64 y.x, .int .i64 y.y, .int .i64 y.z] 30 (0, 0)) := by rw [← hW5]; exact World.alloc_heap_new _ _
                  rw [hW5]
                  clear hW5 htake
                  have row5 := own_below row4 hb5
                  have last5 := (hb5.block _ hlN).trans last4
                  have hP5 := hP4.below hb5
                  have low5 := low4.trans (hb5.mono low4.size)
                  have y0 := cell_of hY5 (j := 0) rfl
                  have y1 := cell_of hY5 (j := 1) rfl
                  have y2 := cell_of hY5 (j := 2) rfl
                  have l0 := cell_of last5 (j := 0) rfl
                  have l1 := cell_of last5 (j := 1) rfl
                  have l2 := cell_of last5 (j := 2) rfl
                  clear row4 last4 hP4 hF4 hV4
                  go_upto_region 21 with (fail)
                  go_cut [109] from 31 to 128 (fun u109 wc5 => u109 = .bool false ∧ wc5 = W5)
                  case first =>
                    rcases lessV_iff.1 hly with hlt | ⟨heq, hlt⟩
                    · go_wp2
                      go_meet
                      case rel => exact ⟨congrArg Value.bool (decide_eq_false (by omega)), rfl⟩
                    · go_wp2
                      go_meet
                      case rel => exact ⟨rfl, rfl⟩
                  case rest =>
                    obtain ⟨rfl, hwc⟩ := hcut
                    subst hwc
                    obtain ⟨i0, hi, hz0, hz1, hz2⟩ := info_parts info3
                    go_wp2
                    go_loopg [15] TL.length (fun k u15 wt => ∃ (j n : Nat), u15 = .int .i64 j ∧ k + j = TL.length ∧ wt = wc.drewN n)
                    case atStart => exact ⟨0, 0, rfl, rfl, rfl⟩
                    case round =>
                      obtain ⟨j, n, rfl, hkj, rfl⟩ := hrel
                      by_cases hj : j < TL.length
                      · have hj' : (j : Int) < (TL.length : Int) := by omega
                        obtain ⟨td, rfl, _, hc⟩ := ics_at (own_reads row5) hj
                        have hne : ¬ TL[j] = y.x := fun e => hny (by rw [← e]; exact List.getElem_mem hj)
                        have hne' : (TL[j] == y.x) = false := by simpa using hne
                        have hwj : IntKind.i64.wrap ((j : Int) + 1) = ((j + 1 : Nat) : Int) := by rw [IntKind.wrap_i64]; have := hIn.tl; omega
                        go_wp2
                        go_quiet (fail)
                        go_wp2
                        go_roundg (TL.length - (j + 1))
                        case measure => omega
                        case rel => exact ⟨j + 1, n + nq, by go_num, by omega, rfl⟩
                      · have hj' : ¬ (j : Int) < (TL.length : Int) := by omega
                        go_wp2_with (at_builtin; refine wpList_append_own_at _ rfl _ _ 31 rfl w.heap.size 3 i0 (.int .i64 0) 1 8 Try.underlying31 hi hz0 hz1 hz2 rfl (by decide) _ _ _ rfl ((show (wc.drewN n).ownsRow w.heap.size 3 1 (.slice A8 TL.length c8) TL.length (ics TL) from row5).alloc _) ⟨(wc.drewN n).heap.size, 0, none⟩ 1 1 [.int .i64 y.x] rfl rfl (cell_one_new _ _ _) (by intro u hu; simp at hu; subst hu; rfl) (by have := hIn.tl; unfold maxLen; omega) (by have := hIn.tl; omega) (by simp; have := low5.size; omega) ?_; intro v8 w8 hown8 hg8 hnil8 hloc8; have hY8 := after_app row5 hg8 hY5; have hL8 := after_app row5 hg8 last5; have y0 := cell_of hY8 (j := 0) rfl; have y1 := cell_of hY8 (j := 1) rfl; have y2 := cell_of hY8 (j := 2) rfl; have l0 := cell_of hL8 (j := 0) rfl; have l1 := cell_of hL8 (j := 1) rfl; have l2 := cell_of hL8 (j := 2) rfl; have f0 := not_frozen (k := 0) hL8; have f1 := not_frozen (k := 1) hL8; have f2 := not_frozen (k := 2) hL8)
                        go_roundg (l.length - (i + 1))
                        case measure => omega
                        case rel => exact ⟨i + 1, v4, E4, h4, y, TL ++ [y.x], by go_num, by omega, law_end rfl low5 hP5 hI4 row5 hg8 hown8 last5 hIn.nN vN4 (by have := hIn.hl; omega) (by have := hIn.el; omega) hI.tl (rfl : 0 = 0)⟩
            · have hib' : ¬ (i : Int) < (bs.length : Int) := by omega
              go_wp2
              go_roundg (l.length - (i + 1))
              case measure => omega
              case rel => exact ⟨i + 1, v3, E3, h3, L, TL, by go_num, by omega, hIn⟩
      · have hil' : ¬ (i : Int) < (l.length : Int) := by omega
        have hw := hwk wr
        go_wp2_with (go_at_call 7; refine hw.mono ?_; rintro en w9 ⟨rfl, hb9⟩)
        go_ret
        exact ⟨rfl, hI.low.trans (hb9.mono hI.low.size)⟩
  · have hlen' : 300 < (l.length : Int) := by omega
    have hw := hwk w
    go_enter Try.func3, Try.ntmps3
    go_wp2_with (go_at_call 7; refine hw.mono ?_; rintro en w1 ⟨rfl, hb⟩)
    go_ret
    exact ⟨rfl, hb⟩
end Go.Proofs.Ytdamcbpjefjolaa
