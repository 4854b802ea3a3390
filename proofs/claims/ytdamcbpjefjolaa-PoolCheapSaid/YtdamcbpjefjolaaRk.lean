/- PoolCheap by a walk: it is true. No conditions but that the slice lies where it is said to lie. -/
import Derived.Test.YtdamcbpjefjolaaRj
import Derived.Deep.CutRange
import Derived.Deep.QuietTactic
namespace Go.Proofs.Ytdamcbpjefjolaa
open Go Go.RowKit Go.Sx Go.Mp
theorem cs_new (w : World) (x : V3) (T : TypeId) : ∀ j u, x.cs[j]? = some u → (w.alloc (.cells #[.int .i64 x.x, .int .i64 x.y, .int .i64 x.z] T)).cell? ((⟨w.heap.size, 0, none⟩ : Addr).add j) = some u := by
  intro j u hu
  have h := World.alloc_heap_new w (.cells #[.int .i64 x.x, .int .i64 x.y, .int .i64 x.z] T)
  match j, hu with
  | 0, hu => injection hu with hu; subst hu; exact cell_of h rfl
  | 1, hu => injection hu with hu; subst hu; exact cell_of h rfl
  | 2, hu => injection hu with hu; subst hu; exact cell_of h rfl
theorem CIn.app {w0 wr w8 : World} {b bm i : Nat} {u u8 v : Value} {E : List En} {h L : List V3} {o : Obj} {x : V3} (H : CIn w0 wr b bm i u v E h L) (hown : w8.ownsRow w0.heap.size 30 3 u8 (L.length + 1) (vcs L ++ x.cs)) (hg : (wr.alloc o).grownBy w8 u.ownBlock) (hloc : u8.ownBlock = u.ownBlock ∨ u8.ownBlock = some (wr.alloc o).heap.size) : CIn w0 w8 b bm i u8 v E h (L ++ [x]) := by
  have H1 := H.below ((Below.refl _ _).alloc (Nat.le_refl _) o)
  refine H1.turn hg ?_ (fun k hk e => ?_)
  · rw [show (L ++ [x]).length = L.length + 1 by simp, show vcs (L ++ [x]) = vcs L ++ x.cs by rw [vcs_append]; simp [vcs]]
    exact hown
  · rcases hloc with hl | hl
    · rw [hl] at hk; exact H.dis k hk e
    · rw [hl] at hk
      injection hk with hk
      have := (H1.pool.row.lt k e).2
      omega
theorem own_row3 {w : World} {base : Nat} {e : TypeId} {v : Value} {n : Nat} {xs : List Value} (h : w.ownsRow base e 3 v n xs) : ∃ A cap, v = .slice A n cap := by
  rcases h.2 with ⟨rfl, rfl⟩ | ⟨g, cap, cur, rfl, _, _, hc, _⟩
  · exact ⟨none, 0, rfl⟩
  · exact ⟨_, cap, rfl⟩
theorem own_row3' {w : World} {base : Nat} {e : TypeId} {A : Option Addr} {m c n : Nat} {xs : List Value} (h : w.ownsRow base e 3 (.slice A m c) n xs) (hn : 0 < n) : ∃ g, A = some ⟨g, 0, none⟩ := by
  rcases h.2 with ⟨h1, rfl⟩ | ⟨g, cap, cur, h1, _⟩
  · omega
  · injection h1 with h1
    exact ⟨g, h1⟩
theorem opN_all {E : List En} (h : ∀ e ∈ E, e.t = false) : opN E = E.length := by
  unfold opN
  rw [List.filter_eq_self.2 (fun e he => by simp [h e he])]
theorem set_mid {α : Type} {P D : List α} {a b : α} {j : Nat} (h : P.length = j) : (P ++ a :: D).set j b = P ++ b :: D := by subst h; simp
theorem get_mid {α : Type} {P D : List α} {a : α} {j : Nat} (h : P.length = j) : (P ++ a :: D)[j]? = some a := by subst h; simp
/-- The first j are turned. -/
def upTo (x : V3) (L : List V3) (j : Nat) : List V3 := (L.take j).map (upL x) ++ L.drop j
theorem upTo_length (x : V3) (L : List V3) (j : Nat) : (upTo x L j).length = L.length := by simp [upTo]; omega
theorem upTo_zero (x : V3) (L : List V3) : upTo x L 0 = L := by simp [upTo]
theorem upTo_end (x : V3) (L : List V3) : upTo x L L.length = L.map (upL x) := by simp [upTo]
theorem take_len {L : List V3} {j : Nat} (hj : j < L.length) (x : V3) : ((L.take j).map (upL x)).length = j := by rw [List.length_map, List.length_take]; omega
theorem upTo_step {L : List V3} {j : Nat} (hj : j < L.length) (x : V3) : upTo x L (j + 1) = (upTo x L j).set j (upL x L[j]) := by
  unfold upTo
  rw [List.take_succ_eq_append_getElem hj, List.map_append, List.map_singleton, List.drop_eq_getElem_cons hj, set_mid (take_len hj x), List.append_assoc]
  rfl
theorem upTo_get {L : List V3} {j : Nat} (hj : j < L.length) (x : V3) : (upTo x L j)[j]'(by rw [upTo_length]; exact hj) = L[j] := by
  apply Option.some.inj
  rw [← List.getElem?_eq_getElem]
  unfold upTo
  rw [List.drop_eq_getElem_cons hj, get_mid (take_len hj x)]
theorem upTo_same {L : List V3} {j : Nat} (hj : j < L.length) {x : V3} (h : upL x L[j] = L[j]) : upTo x L (j + 1) = upTo x L j := by
  have e := List.set_getElem_self (show j < (upTo x L j).length by rw [upTo_length]; exact hj)
  rw [upTo_get hj x] at e
  rw [upTo_step hj, h, e]
def fnd (x : V3) (L : List V3) (j : Nat) : Bool := (L.take j).any fun e => e.x == x.x
theorem fnd_step {L : List V3} {j : Nat} (hj : j < L.length) (x : V3) : fnd x L (j + 1) = (fnd x L j || (L[j].x == x.x)) := by
  unfold fnd
  rw [List.take_succ_eq_append_getElem hj, List.any_append]
  simp
theorem upTo_none {x : V3} {L : List V3} (h : fnd x L L.length = false) : upTo x L L.length = L := by
  rw [upTo_end]
  unfold fnd at h
  rw [List.take_length, List.any_eq_false] at h
  refine (List.map_congr_left (g := id) fun e he => ?_).trans (List.map_id L)
  exact upL_self (by simpa using h e he)
theorem fnd_end (x : V3) (L : List V3) : leastU L x = if fnd x L L.length = true then upTo x L L.length else L ++ [x] := by
  unfold leastU fnd
  rw [upTo_end, List.take_length]
  congr 1
  simp
theorem take_some {base b bm : Nat} {v : Value} {E : List En} {h : List V3} {w : World} (H : PoolIn w base b bm v 16384 E h) (I : InvC E h) (hh : h.length < 1000) (ho : opN E ≠ 0) :
    Calls Try.prog 10 #[.pointer (some ⟨b, 0, none⟩)] w fun en w' =>
      ∃ (y : V3) (v' : Value) (E' : List En) (h' : List V3), en = .returned (.tuple #[.agg #[.int .i64 y.x, .int .i64 y.y, .int .i64 y.z], .int .i64 0]) ∧ PoolIn w' base b bm v' 16384 E' h' ∧ PFr base v w w' ∧ VL v v' w ∧ h'.length ≤ h.length ∧ InvC E' h' ∧ E'.map (·.x) = E.map (·.x) ∧ y ∈ E.map (·.x) ∧ opN E' + 1 = opN E := by
  refine (take_c H I hh).mono ?_
  rintro en w' ⟨y, er, v', E', h', rfl, h1, h2, h3, h4, h5, h6, ⟨_, h7, _⟩ | ⟨rfl, h7, h8⟩⟩
  · exact absurd h7 ho
  · exact ⟨y, v', E', h', rfl, h1, h2, h3, h4, h5, h6, h7, h8⟩
theorem take_none {base b bm : Nat} {v : Value} {E : List En} {h : List V3} {w : World} (H : PoolIn w base b bm v 16384 E h) (I : InvC E h) (hh : h.length < 1000) (ho : opN E = 0) :
    Calls Try.prog 10 #[.pointer (some ⟨b, 0, none⟩)] w fun en w' =>
      ∃ (y : V3) (v' : Value) (h' : List V3), en = .returned (.tuple #[.agg #[.int .i64 y.x, .int .i64 y.y, .int .i64 y.z], .int .i64 4]) ∧ PoolIn w' base b bm v' 16384 E h' ∧ PFr base v w w' := by
  refine (take_c H I hh).mono ?_
  rintro en w' ⟨y, er, v', E', h', rfl, h1, h2, h3, h4, h5, h6, ⟨rfl, h7, rfl⟩ | ⟨rfl, h7, h8⟩⟩
  · exact ⟨y, v', h', rfl, h1, h2⟩
  · omega
def same3 (a b : V3) : Bool := a.x == b.x && a.y == b.y && a.z == b.z
def kn (y : V3) (L : List V3) (j : Nat) : Bool := (L.take j).any fun e => same3 e y
theorem kn_step {L : List V3} {j : Nat} (hj : j < L.length) (y : V3) : kn y L (j + 1) = (kn y L j || same3 L[j] y) := by
  unfold kn
  rw [List.take_succ_eq_append_getElem hj, List.any_append]
  simp
theorem kn_end {L : List V3} {y : V3} (h : y ∈ L) : kn y L L.length = true := by
  unfold kn
  rw [List.take_length, List.any_eq_true]
  exact ⟨y, h, by simp [same3]⟩
set_option maxHeartbeats 4000000 in
set_option maxRecDepth 100000 in
theorem cheap_any (l : List V3) (A0 : Option Addr) (c0 : Nat) (w : World) (h0 : Reads w w.heap.size 3 A0 l.length (vcs l))
    (hwk : ∀ w, Calls Try.prog 7 #[] w fun en w' => en = .returned (.bool true) ∧ Below w.heap.size w w') :
    Calls Try.prog 6 #[.slice A0 l.length c0] w fun en w' => en = .returned (.bool true) ∧ Below w.heap.size w w' := by
  by_cases hlen : l.length ≤ 300
  · have hlen' : ¬ (300 < (l.length : Int)) := by omega
    have hnew := new_any 16384 (by decide) (by decide) w
    go_enter Try.func6, Try.ntmps6
    go_wp2_with (go_at_call 8; refine hnew.mono ?_; rintro en w1 ⟨rfl, hp1, hb1'⟩)
    have hstart : CIn w w1 (w.heap.size + 1) w.heap.size 0 (.slice none 0 0) (.slice none 0 0) [] [] ([] : List V3) :=
      ⟨hp1, InvC.start, World.ownsRow_nil _ _ _ _, by simp [Value.ownBlock], by simp, by simp, hb1'⟩
    go_loopg [5, 6] l.length (fun k u5 u6 wr => ∃ (i : Nat) (v : Value) (E : List En) (h : List V3), u6 = .int .i64 i ∧ k + i = l.length ∧ (∀ e ∈ E, e.t = false) ∧ CIn w wr (w.heap.size + 1) w.heap.size i u5 v E h (E.map (·.x)))
    case atStart => exact ⟨0, _, _, _, rfl, rfl, by simp, hstart⟩
    case round =>
      clear hstart hp1 hnew
      obtain ⟨i, v, E, h, rfl, hki, ht, hI⟩ := hrel
      obtain ⟨A5, c5, hu5⟩ := own_row3 hI.row
      subst hu5
      obtain ⟨L, hL⟩ : ∃ L, E.map (·.x) = L := ⟨_, rfl⟩
      rw [hL] at hI
      rw [hL]
      by_cases hil : i < l.length
      · have hil' : (i : Int) < (l.length : Int) := by omega
        obtain ⟨ad, rfl, hadb, x0, x1, x2⟩ := v3_at (h0.below hI.low) hil
        obtain ⟨x, hx⟩ : ∃ x, l[i] = x := ⟨_, rfl⟩
        rw [hx] at x0 x1 x2
        have hput := put_c x hI.pool hI.inv ht (by have := hI.hl; omega) (by have := hI.el; omega) hI.low.size
        go_upto_if 48 with (go_at_call 9; refine hput.mono ?_; rintro en w3 ⟨ok, er, v3, E3, h3, rfl, her, hP3, hI3, ht3, hh3, hE3, hF3, hV3⟩)
        have hIn := hI.next hF3 hV3 hP3 hI3 (i' := i + 1) (by have := hI.hl; omega) (by have := hI.el; omega)
        have hwi : IntKind.i64.wrap ((i : Int) + 1) = ((i + 1 : Nat) : Int) := by rw [IntKind.wrap_i64]; omega
        rw [hL] at her
        rcases her with ⟨rfl, hE3x⟩ | ⟨her, rfl⟩
        · clear hput hF3 hV3 hP3 hI3 x0 x1 x2
          go_wp2
          go_loopg [9, 10] L.length (fun k u9 u10 wt => ∃ j : Nat, u10 = .int .i64 j ∧ k + j = L.length ∧ u9 = .bool (fnd x L j) ∧ CIn w wt (w.heap.size + 1) w.heap.size (i + 1) (.slice A5 L.length c5) v3 E3 h3 (upTo x L j))
          case atStart => exact ⟨0, rfl, rfl, rfl, by rw [upTo_zero]; exact hIn⟩
          case round =>
            clear hIn
            obtain ⟨j, rfl, hkj, rfl, hIj⟩ := hrel
            obtain ⟨_, hadr, _, x0, x1, x2⟩ := v3_at (h0.below hIj.low) hil
            injection hadr with hadr; subst hadr
            rw [hx] at x0 x1 x2
            by_cases hjn : j < L.length
            · have hjn' : (j : Int) < (L.length : Int) := by omega
              have hr := hIj.row
              rw [upTo_length] at hr
              obtain ⟨g, hA5⟩ := own_row3' hr (by omega)
              subst hA5
              obtain ⟨q0, q1, q2⟩ := row_at hr (k := j) (by rw [upTo_length]; exact hjn)
              rw [upTo_get hjn x] at q0 q1 q2
              have f0 := hr.frozenAt (j * 3)
              have f1 := hr.frozenAt (j * 3 + 1)
              have f2 := hr.frozenAt (j * 3 + 2)
              have hjb : L.length ≤ 1000 := by have h5 := hI.el; rw [← hL, List.length_map]; omega
              have hwj : IntKind.i64.wrap ((j : Int) + 1) = ((j + 1 : Nat) : Int) := by rw [IntKind.wrap_i64]; omega
              have hfs := fnd_step hjn x
              have hus := upTo_same hjn (x := x)
              have hut := upTo_step hjn x
              by_cases hne : L[j].x = x.x
              · have hne1 : (L[j].x == x.x) = true := by simpa using hne
                rw [hne1, Bool.or_true] at hfs
                by_cases hlt : x.y < L[j].y
                · rw [upL, if_pos ⟨hne, hlt⟩] at hut
                  clear hus
                  go_wp2
                  go_quiet (fail)
                  go_wp2
                  go_quiet (fail)
                  go_wp2
                  go_roundg (L.length - (j + 1))
                  case measure => omega
                  case rel =>
                    refine ⟨j + 1, by go_num, by omega, by rw [hfs], ?_⟩
                    have hk : j < (upTo x L j).length := by rw [upTo_length]; exact hjn
                    rw [hut]
                    have hrd : ∀ m, (wr.drewN m).ownsRow w.heap.size 30 3 (.slice (some ⟨g, 0, none⟩) L.length c5) L.length (vcs (upTo x L j)) := fun m => hr
                    refine CIn.turn (hIj.drewN _) (row_set3 (hrd _) hk x).2 ?_ hIj.dis
                    rw [List.length_set, upTo_length]
                    exact (row_set3 (hrd _) hk x).1
                · have hue : upL x L[j] = L[j] := by rw [upL, if_neg (fun h => hlt h.2)]
                  have hus' := hus hue
                  clear hus hut hue
                  go_wp2
                  go_quiet (fail)
                  go_wp2
                  go_quiet (fail)
                  go_wp2
                  go_roundg (L.length - (j + 1))
                  case measure => omega
                  case rel => exact ⟨j + 1, by go_num, by omega, by rw [hfs], by rw [hus']; exact hIj.drewN _⟩
              · have hne1 : (L[j].x == x.x) = false := by simpa using hne
                rw [hne1, Bool.or_false] at hfs
                have hus' := hus (upL_self hne)
                clear hus hut
                go_wp2
                go_quiet (fail)
                go_wp2
                go_roundg (L.length - (j + 1))
                case measure => omega
                case rel => exact ⟨j + 1, by go_num, by omega, by rw [hfs], by rw [hus']; exact hIj.drewN _⟩
            · obtain rfl : j = L.length := by have := hkj; omega
              have hf2 := fnd_end x L
              cases hf : fnd x L L.length
              · rw [if_neg (by rw [hf]; decide)] at hf2
                rw [upTo_none hf] at hIj
                rw [hf2] at hE3x
                clear hf2
                have hr := hIj.row
                have hjb : L.length ≤ 1000 := by have h5 := hI.el; rw [← hL, List.length_map]; omega
                obtain ⟨i0, hi, hz0, hz1, hz2⟩ := info_parts info30
                go_wp2_with (at_builtin; refine wpList_append_own_at _ rfl _ _ 22 rfl w.heap.size 30 i0 _ 3 24 Try.underlying22 hi hz0 hz1 hz2 (by decide) (by decide) _ _ _ rfl (hr.alloc _) ⟨wr.heap.size, 0, none⟩ 1 1 x.cs rfl rfl (cs_new _ _ _) (cs_one x) (by unfold maxLen; omega) (by omega) (by simp; have := hIj.low.size; omega) ?_; intro v8 w8 hown8 hg8 hnil8 hloc8)
                go_roundg (l.length - (i + 1))
                case measure => omega
                case rel => exact ⟨i + 1, v3, E3, h3, by go_num, by omega, ht3, by rw [hE3x]; exact hIj.app hown8 hg8 hloc8⟩
              · rw [if_pos hf] at hf2
                rw [hf2] at hE3x
                clear hf2
                go_wp2
                go_roundg (l.length - (i + 1))
                case measure => omega
                case rel => exact ⟨i + 1, v3, E3, h3, by go_num, by omega, ht3, by rw [hE3x]; exact hIj⟩
        · have her' : (er == 0) = false := by simpa using her
          clear hput hF3 hV3 hP3 hI3 x0 x1 x2
          go_wp2
          go_roundg (l.length - (i + 1))
          case measure => omega
          case rel => exact ⟨i + 1, v3, _, h3, by go_num, by omega, ht3, by rw [hL]; exact hIn⟩
      · have hil' : ¬ (i : Int) < (l.length : Int) := by omega
        have hop := opN_all ht
        have hLl : E.length = L.length := by rw [← hL]; simp
        have hl300 : L.length ≤ 300 := by have := hI.el; omega
        have hil2 : i ≤ 300 := by omega
        rw [hLl] at hop
        have hlenc := len_any hI.pool
        rw [hLl] at hlenc
        have hkb := hI.inv.kb
        have hopc : ∀ wq, Below wr.heap.size wr wq → _ := fun wq hbq => open_any (hI.pool.below hbq) (by have := hI.el; omega) hkb
        rw [hop] at hopc
        clear hLl
        go_wp2_with (first
          | (go_at_call 19; refine hlenc.mono ?_; rintro en w4 ⟨rfl, hb4⟩)
          | (go_at_call 20; refine (hopc w4 hb4).mono ?_; rintro en w5 ⟨rfl, hb5⟩))
        have hI5 := (hI.below hb4).below hb5
        clear hb4 hb5 hlenc hopc hI
        go_loopg [11] L.length (fun k u11 wr => ∃ (j : Nat) (v : Value) (E : List En) (h : List V3), u11 = .int .i64 j ∧ k + j = L.length ∧ E.map (·.x) = L ∧ opN E = k ∧ CIn w wr (w.heap.size + 1) w.heap.size i (.slice A5 L.length c5) v E h L)
        case atStart => exact ⟨0, v, E, h, rfl, rfl, hL, hop, hI5⟩
        case round =>
          clear hI5 hL hop hkb ht
          obtain ⟨j, v, E, h, rfl, hkj, hL, hop, hI⟩ := hrel
          by_cases hjn : j < L.length
          · have hjn' : (j : Int) < (L.length : Int) := by omega
            have htake := take_some hI.pool hI.inv (by have := hI.hl; omega) (by omega)
            go_wp2_with (go_at_call 10; refine htake.mono ?_; rintro en w4 ⟨y, v4, E4, h4, rfl, hP4, hF4, hV4, hh4, hI4, hE4, hy, hn⟩)
            have hEl : E4.length = E.length := by have := congrArg List.length hE4; simpa using this
            have hIn := hI.next hF4 hV4 hP4 hI4 (i' := i) (by have := hI.hl; omega) (by have := hI.el; omega)
            rw [hL] at hy
            have hkend := kn_end hy
            obtain ⟨W5, hW5⟩ : ∃ W5, w4.alloc (.cells #[.int .i64 y.x, .int .i64 y.y, .int .i64 y.z] 30) = W5 := ⟨_, rfl⟩
            have hb5 : Below w4.heap.size w4 W5 := by rw [← hW5]; exact (Below.refl _ _).alloc (Nat.le_refl _) _
            have hY5 : W5.heap[w4.heap.size]? = some (.cells #[.int .i64 y.x, .int .i64 y.y, .int .i64 y.z] 30 (0, 0)) := by rw [← hW5]; exact World.alloc_heap_new _ _
            rw [hW5]
            have hI5 := hIn.below hb5
            have y0 := cell_of hY5 (j := 0) rfl
            have y1 := cell_of hY5 (j := 1) rfl
            have y2 := cell_of hY5 (j := 2) rfl
            have hwj : IntKind.i64.wrap ((j : Int) + 1) = ((j + 1 : Nat) : Int) := by rw [IntKind.wrap_i64]; omega
            have hr := hI5.row
            have hE5 := hE4.trans hL
            clear hW5 htake hP4 hF4 hV4 hI4 hIn hb5 hY5 hI hEl hE4 hL hy
            go_loopg [14, 15] L.length (fun k u14 u15 wt => ∃ q n : Nat, u15 = .int .i64 q ∧ k + q = L.length ∧ u14 = .bool (kn y L q) ∧ wt = W5.drewN n)
            case atStart => exact ⟨0, 0, rfl, rfl, rfl, rfl⟩
            case round =>
              obtain ⟨q, n, rfl, hkq, rfl, rfl⟩ := hrel
              by_cases hqn : q < L.length
              · have hqn' : (q : Int) < (L.length : Int) := by omega
                obtain ⟨g, hA5⟩ := own_row3' hr (by omega)
                subst hA5
                obtain ⟨q0, q1, q2⟩ := row_at hr hqn
                have hwq : IntKind.i64.wrap ((q : Int) + 1) = ((q + 1 : Nat) : Int) := by rw [IntKind.wrap_i64]; omega
                have hks := kn_step hqn y
                cases hkv : kn y L q
                · rw [hkv, Bool.false_or] at hks
                  unfold same3 at hks
                  by_cases e1 : L[q].x = y.x
                  · rw [e1] at q0
                    rw [e1, beq_self_eq_true, Bool.true_and] at hks
                    by_cases e2 : L[q].y = y.y
                    · rw [e2] at q1
                      rw [e2, beq_self_eq_true, Bool.true_and] at hks
                      by_cases e3 : L[q].z = y.z
                      · rw [e3] at q2
                        rw [e3, beq_self_eq_true] at hks
                        clear e1 e2 e3
                        go_wp2
                        go_quiet (fail)
                        go_wp2
                        go_roundg (L.length - (q + 1))
                        case measure => omega
                        case rel => exact ⟨q + 1, _, by go_num, by omega, by rw [hks], rfl⟩
                      · rw [beq_eq_false_iff_ne.2 e3] at hks
                        clear e1 e2
                        go_wp2
                        go_quiet (fail)
                        go_wp2
                        go_roundg (L.length - (q + 1))
                        case measure => omega
                        case rel => exact ⟨q + 1, _, by go_num, by omega, by rw [hks], rfl⟩
                    · rw [beq_eq_false_iff_ne.2 e2, Bool.false_and] at hks
                      clear e1
                      go_wp2
                      go_quiet (fail)
                      go_wp2
                      go_roundg (L.length - (q + 1))
                      case measure => omega
                      case rel => exact ⟨q + 1, _, by go_num, by omega, by rw [hks], rfl⟩
                  · rw [beq_eq_false_iff_ne.2 e1, Bool.false_and, Bool.false_and] at hks
                    go_wp2
                    go_quiet (fail)
                    go_wp2
                    go_roundg (L.length - (q + 1))
                    case measure => omega
                    case rel => exact ⟨q + 1, _, by go_num, by omega, by rw [hks], rfl⟩
                · rw [hkv, Bool.true_or] at hks
                  go_wp2
                  go_quiet (fail)
                  go_wp2
                  go_roundg (L.length - (q + 1))
                  case measure => omega
                  case rel => exact ⟨q + 1, _, by go_num, by omega, by rw [hks], rfl⟩
              · obtain rfl : q = L.length := by omega
                rw [hkend]
                clear hr
                go_wp2
                go_roundg (L.length - (j + 1))
                case measure => omega
                case rel => exact ⟨j + 1, v4, E4, h4, by go_num, by omega, hE5, by omega, hI5.drewN _⟩
          · have hjn' : ¬ (j : Int) < (L.length : Int) := by omega
            have hop0 : opN E = 0 := by omega
            have htake := take_none hI.pool hI.inv (by have := hI.hl; omega) hop0
            have hkb := hI.inv.kb
            have hEn : E.length < 1000000 := by have := hI.el; omega
            have hopc : ∀ (v : Value) (h : List V3) (wq : World), PoolIn wq w.heap.size (w.heap.size + 1) w.heap.size v 16384 E h → Calls Try.prog 20 #[.pointer (some ⟨w.heap.size + 1, 0, none⟩)] wq fun en w' => en = .returned (.int .i64 0) ∧ Below wq.heap.size wq w' := fun v h wq H => by
              have := open_any H hEn hkb
              rw [hop0] at this
              exact this
            have hlow := hI.low
            clear hI hL hop hop0 hkb hEn
            go_wp2_with (first
              | (go_at_call 10; refine htake.mono ?_; rintro en w4 ⟨y, v4, h4, rfl, hP4, hF4⟩; have hlow4 := hlow.trans (hF4.low hlow.size))
              | (go_at_call 20; refine (hopc _ _ _ (hP4.alloc _)).mono ?_; rintro en w5 ⟨rfl, hb5⟩)
              | (go_at_call 7; refine (hwk _).mono ?_; rintro en w6 ⟨rfl, hb6⟩))
            go_ret
            have hl5 := (hlow4.alloc hlow4.size _).trans (hb5.mono (by simp; have := hlow4.size; omega))
            exact ⟨rfl, hl5.trans (hb6.mono hl5.size)⟩
  · have hlen' : 300 < (l.length : Int) := by omega
    have hw := hwk w
    go_enter Try.func6, Try.ntmps6
    go_wp2_with (go_at_call 7; refine hw.mono ?_; rintro en w1 ⟨rfl, hb⟩)
    go_ret
    exact ⟨rfl, hb⟩
end Go.Proofs.Ytdamcbpjefjolaa
