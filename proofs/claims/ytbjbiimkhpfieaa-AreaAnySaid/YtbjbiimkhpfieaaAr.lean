/- area.Mark by a walk. No conditions but that the grid and the boxes lie where they are said to lie. -/
import Derived.Test.YtbjbiimkhpfieaaAq
namespace Go.Proofs.Ytbjbiimkhpfieaa
open Go Go.RowKit Go.Sx Go.Shelf
attribute [local go_sem] Oper.semAt_some
set_option maxRecDepth 100000 in
set_option maxHeartbeats 500000 in
theorem mark_any (a b c d e f g X Z W D : Int) (rows : List (List V3)) (A : Option Addr) (cap : Nat) (l : List B8) (Al : Option Addr) (cl : Nat) (w : World)
    (hr : RowsAt w w.heap.size A rows) (hl : lensOk rows) (hb : Reads w w.heap.size 8 Al l.length (bcs l)) (hbl : l.length ≤ 9223372036854775807) :
    Calls Try.prog 22 #[cfgv a b c d e f g, gridv X Z W D A rows.length cap, .slice Al l.length cl] w fun en w' =>
      MarkRes w.heap.size a b c d e f g X Z W D rows l en w' ∧ Below w.heap.size w w' := by
  have hl1 := hl.1
  have hmx : maxLen = 9223372036854775807 := rfl
  obtain ⟨i0, hi, hz0, hz1, hz2⟩ := info_parts info39
  obtain ⟨W0, hW0⟩ : ∃ W0, (((w.alloc (.cells #[.int .i64 a, .int .i64 b, .int .i64 c, .int .i64 d, .int .i64 e, .int .i64 f, .int .i64 g] 23)).alloc (.cells #[.int .i64 X, .int .i64 Z, .int .i64 W, .int .i64 D, .slice A rows.length cap] 26)).alloc (.cells #[.slice Al l.length cl] 43)).alloc (.cells #[.int .i64 0, .int .i64 0, .int .i64 0, .int .i64 0, .slice none 0 0] 26) = W0 := ⟨_, rfl⟩
  have hk0 : MkAt w.heap.size a b c d e f g X Z W D A rows.length cap Al l.length cl W0 := by rw [← hW0]; exact MkAt.new ..
  have hb0 : Below w.heap.size w W0 := by rw [← hW0]; exact ((((Below.refl _ _).alloc (Nat.le_refl _) _).alloc (by simp) _).alloc (by simp <;> omega) _).alloc (by simp <;> omega) _
  have hck : ∀ w, Calls Try.prog 28 #[cfgv a b c d e f g] w fun en w' => en = .returned (.int .i64 (checkF a b c d e f g)) ∧ Below w.heap.size w w' := fun w => chk_any a b c d e f g w
  have hoc : ∀ {W' : World}, Below w.heap.size w W' → Calls Try.prog 35 #[.agg #[.int .i64 X, .int .i64 Z, .int .i64 W, .int .i64 D, .slice A rows.length cap]] W' fun e w' => ErrIff e (gridOk X Z W D rows) ∧ Below W'.heap.size W' w' := fun {W'} h => ocheck_any X Z W D rows A cap W' ((hr.below h).more h.size) hl
  unfold cfgv at hck
  obtain ⟨k0, k1, k2, k3, k4, k5, k6, kx, kz, kw, kd, kf, kl, kr, klt⟩ := id hk0
  obtain ⟨r0, r1, r2, r3, r4, q0, q1, q2, q3, q4⟩ := kr.cells
  refine (callsIn_wide (n := 6)).1 ?_
  unfold cfgv gridv
  refine callsIn_of_wp_marks Try.func22 rfl trivial ?_ rfl
  simp only [Try.ntmps22, List.size_toArray, List.length_cons, List.length_nil, Nat.reduceAdd, Nat.reduceSub, Array.replicate_succ, Array.replicate_zero, List.push_toArray, List.append_toArray, List.nil_append, List.cons_append]
  subst hW0
  by_cases hc : checkF a b c d e f g = 0
  · rw [hc] at hck
    gi_wp2_with (refine ⟨trivial, ?_⟩; gi_at_call 28; refine (callsIn_wide.2 (hck _)).mono ?_; rintro en w1 ⟨rfl, hb1⟩; have hk1 := hk0.below hb1 (by simp); have hbw1 := hb0.trans (hb1.mono (by simp <;> omega)); clear k0 k1 k2 k3 k4 k5 k6 kx kz kw kd kf kl kr klt r0 r1 r2 r3 r4 q0 q1 q2 q3 q4 hck hk0 hb0 hb1; obtain ⟨k0, k1, k2, k3, k4, k5, k6, kx, kz, kw, kd, kf, kl, kr, klt⟩ := id hk1; obtain ⟨r0, r1, r2, r3, r4, q0, q1, q2, q3, q4⟩ := kr.cells)
    refine ⟨trivial, (callsIn_wide.2 (hoc hbw1)).mono ?_⟩
    rintro en w2 ⟨⟨er, rfl, her⟩, hb2⟩
    have hk2 := hk1.below hb2 hk1.lt
    have hbw2 := hbw1.trans (hb2.mono hbw1.size)
    clear k0 k1 k2 k3 k4 k5 k6 kx kz kw kd kf kl kr klt r0 r1 r2 r3 r4 q0 q1 q2 q3 q4 hk1 hb2 hbw1
    obtain ⟨k0, k1, k2, k3, k4, k5, k6, kx, kz, kw, kd, kf, kl, kr, klt⟩ := id hk2
    have hcase : er = 0 ∧ gridOk X Z W D rows ∨ er ≠ 0 ∧ ¬ gridOk X Z W D rows := by
      by_cases he : er = 0
      · exact .inl ⟨he, her.1 he⟩
      · exact .inr ⟨he, fun h => he (her.2 h)⟩
    clear her
    have hst : ∃ bad0 : Bool, (bad0 = false ↔ gridOk X Z W D rows ∧ l.length ≤ 16) ∧ (er = 0 ∧ decide (16 < (l.length : Int)) = bad0 ∨ er ≠ 0 ∧ bad0 = true) := by
      rcases hcase with ⟨he, ho⟩ | ⟨he, ho⟩
      · refine ⟨_, ?_, .inl ⟨he, rfl⟩⟩
        rw [decide_eq_false_iff_not]
        exact ⟨fun h => ⟨ho, by omega⟩, fun h => by omega⟩
      · exact ⟨true, by simp [ho], .inr ⟨he, rfl⟩⟩
    obtain ⟨bad0, hbad, hst⟩ := hst
    clear hcase
    have hxb := fun (x : B8) w => boxes_er hc x w
    unfold cfgv B8.cs at hxb
    rcases hst with ⟨rfl, hst⟩ | ⟨he, hst⟩
    · have hbad' := Lib.hid hbad
      clear hbad
      gi_wp2
      gi_loopw [31, 8] (fun x y wr => ∃ k : Nat, x = .int .i64 k ∧ k ≤ l.length ∧ y = .bool (bad0 || (l.take k).any (badB f g)) ∧ Below w2.heap.size w2 wr) (fun x _ _ => l.length - (intOf x).toNat)
      case atStart => exact ⟨0, rfl, Nat.zero_le _, by simp, Below.refl _ _⟩
      case round =>
        obtain ⟨k, rfl, hk, rfl, hbr⟩ := hrel
        have hbrw := hbw2.trans (hbr.mono hbw2.size)
        have hkr := hk2.below hbr hk2.lt
        clear k0 k1 k2 k3 k4 k5 k6 kx kz kw kd kf kl kr klt
        obtain ⟨k0, k1, k2, k3, k4, k5, k6, kx, kz, kw, kd, kf, kl, kr, klt⟩ := id hkr
        by_cases hkn : k < l.length
        · have hkn' : (k : Int) < (l.length : Int) := by omega
          have hlt0 : w.heap.size < wr.heap.size := by omega
          obtain ⟨ad, rfl, hlt, x0, x1, x2, x3, x4, x5, x6, x7⟩ := b8_at ((hb.below hbrw).more hbrw.size) hkn
          have hxk := hxb l[k]
          clear hxb
          have htk : (l.take (k + 1)).any (badB f g) = ((l.take k).any (badB f g) || badB f g l[k]) := by
            rw [List.take_succ_eq_append_getElem hkn, List.any_append]; simp
          generalize (l.take k).any (badB f g) = bk at htk ⊢
          cases hbv : (bad0 || bk)
          all_goals gi_wp2_with (refine ⟨trivial, ?_⟩; gi_at_call 36; refine (callsIn_wide.2 (hxk _)).mono ?_; rintro en w3 ⟨v, er3, rfl, her3, hb3⟩; clear hxk)
          all_goals go_roundw
          all_goals first
            | (case measure => show l.length - ((k : Int) + 1).toNat < l.length - ((k : Int)).toNat; omega)
            | (case rel => exact ⟨k + 1, by go_num, by omega, by rw [htk, ← her3, ← Bool.or_assoc, hbv]; by_cases h0 : er3 = 0 <;> simp [h0], (hbr.alloc hbr.size _).trans (hb3.mono (by have := hbr.size; simp; omega))⟩)
        · obtain rfl : k = l.length := by omega
          rw [List.take_length]
          clear hxb
          cases hbv : (bad0 || l.any (badB f g))
          · have hm0 : bad0 = false := by cases bad0; rfl; cases hbv
            rw [hm0, Bool.false_or] at hbv
            have hmk : markOk f g X Z W D rows l := ⟨(hbad'.out.1 hm0).1, (hbad'.out.1 hm0).2, fun x hx => by
              have := List.any_eq_false.1 hbv x hx
              simpa using this⟩
            obtain ⟨ho, hl16, _⟩ := id hmk
            clear hbad' hm0 hst hoc
            have hlt1 : w.heap.size + 1 < wr.heap.size := by omega
            have hrl : rows.length ≤ 4096 := by
              obtain ⟨_, _, _, _, o5, o6, o7, o8, o9, _⟩ := ho
              have := Int.mul_le_mul o6 o8 o7 (by omega : (0 : Int) ≤ 64)
              omega
            have hmk24 : ∀ w : World, (Instr.makeSlice 24 (.int .i64 (rows.length : Int)) (.int .i64 (rows.length : Int))).run Try.prog w = .ok (.slice (some ⟨w.heap.size, 0, none⟩) rows.length rows.length) (w.alloc (.cells (madeCells #[.slice none 0 0] rows.length) 36)) := fun w => run_make_row' 24 36 (.slice none 0 0) 24 Try.underlying24 info36 rfl .i64 .i64 rows.length (by omega) (by omega) w
            obtain ⟨W7, hW7⟩ : ∃ W7, (wr.alloc (.cells #[.int .i64 X, .int .i64 Z, .int .i64 W, .int .i64 D, .slice (some ⟨wr.heap.size + 1, 0, none⟩) rows.length rows.length] 26)).alloc (.cells (madeCells #[.slice none 0 0] rows.length) 36) = W7 := ⟨_, rfl⟩
            have hb7 : Below wr.heap.size wr W7 := by rw [← hW7]; exact ((Below.refl _ _).alloc (Nat.le_refl _) _).alloc (by simp) _
            have hs7 : W7.heap.size = wr.heap.size + 2 := by rw [← hW7]; simp
            have hO7 : GB wr.heap.size X Z W D (.slice (some ⟨wr.heap.size + 1, 0, none⟩) rows.length rows.length) W7 := by
              have := World.alloc_heap_new wr (.cells #[.int .i64 X, .int .i64 Z, .int .i64 W, .int .i64 D, .slice (some ⟨wr.heap.size + 1, 0, none⟩) rows.length rows.length] 26)
              rw [← hW7]
              exact GB.below (w := wr.alloc (.cells #[.int .i64 X, .int .i64 Z, .int .i64 W, .int .i64 D, .slice (some ⟨wr.heap.size + 1, 0, none⟩) rows.length rows.length] 26)) this ((Below.refl _ _).alloc (Nat.le_refl _) _) (by simp)
            have hM7 : W7.heap[wr.heap.size + 1]? = some (.cells (List.replicate rows.length (.slice none 0 0)).toArray 36 (0, 0)) := by
              rw [← made_eq, ← hW7]
              have := World.alloc_heap_new (wr.alloc (.cells #[.int .i64 X, .int .i64 Z, .int .i64 W, .int .i64 D, .slice (some ⟨wr.heap.size + 1, 0, none⟩) rows.length rows.length] 26)) (.cells (madeCells #[.slice none 0 0] rows.length) 36)
              simpa using this
            have hk7 := hkr.below hb7 (by omega)
            have hbw7 := hbrw.trans (hb7.mono hbrw.size)
            have hall := all_ok X Z W D rows A cap W7 ((hr.below hbw7).more hbw7.size) hl ho
            unfold gridv at hall
            clear k0 k1 k2 k3 k4 k5 k6 kl klt
            obtain ⟨k70, k71, k72, k73, k74, k75, k76, k7x, k7z, k7w, k7d, k7f, k7l, k7r, k7lt⟩ := id hk7
            subst hW7
            gi_wp2
            refine ⟨trivial, (callsIn_wide.2 hall).mono ?_⟩
            rintro en w8 ⟨rfl, ⟨vg, hgb, hor⟩, hb8⟩
            obtain ⟨W7, hW7⟩ : ∃ W7, (wr.alloc (.cells #[.int .i64 X, .int .i64 Z, .int .i64 W, .int .i64 D, .slice (some ⟨wr.heap.size + 1, 0, none⟩) rows.length rows.length] 26)).alloc (.cells (madeCells #[.slice none 0 0] rows.length) 36) = W7 := ⟨_, rfl⟩
            rw [hW7] at hb7 hs7 hO7 hM7 hk7 hbw7 hb8 hgb hor ⊢
            clear hW7 hall k70 k71 k72 k73 k74 k75 k76 k7x k7z k7w k7d k7f k7l k7r k7lt kx kz kw kd kf kr hmk24
            have hs8 := hgb.lt
            have hlW : w.heap.size + 4 ≤ wr.heap.size := by have := hkr.lt; omega
            have hk8 := hk7.below hb8 hk7.lt
            have hO8 := hO7.below hb8 (by omega)
            have hM8 := Lib.hid ((hb8.block (wr.heap.size + 1) (by omega)).trans hM7)
            obtain ⟨A', c', hA⟩ := AllAt.of (N1 := W7.heap.size) (by omega) hgb hor
            have hbw8 := hbw7.trans (hb8.mono hbw7.size)
            have hs72 : wr.heap.size + 2 ≤ W7.heap.size := by omega
            have hs78 : wr.heap.size + 4 < w8.heap.size := by omega
            have hlt8 : w.heap.size + 4 ≤ wr.heap.size := by omega
            clear hO7 hM7 hk7 hgb hor hbr hbrw hkr hb7 hk2 hbw2 hs7 hlW
            gi_wp2
            refine wpIn_rangeFunc_ownH rfl (by omega) (gf := 47) rfl trivial (enters_of Try.func47 (by kernel_rfl) rfl)
              (all1_stops 5 (by omega) W7.heap.size w8.heap.size (W7.heap.size + 2) X Z W D A' c' rows ho w8 hA) Keep2.trans (Keep2.put (Nat.le_refl _)) (Below.refl _ _) (fun _ => rfl)
              (fun pre Wd => ∃ hd, MarkIn w8.heap.size (wr.heap.size + 1) l X Z W w8 hd pre Wd)
              (fun _ _ _ => False)
              (fun pre Wx Wy row ⟨hd, h⟩ hg hr => ⟨hd, h.grown (by omega) hg hr⟩)
              (fun _ _ _ _ _ hs _ _ => hs)
              ⟨_, MarkIn.new (Nat.le_refl _) hM8.out⟩
              (fun x a' Wd => ∃ S, ItAt S w8.heap.size X Z W x Wd ∧ ApartAt (wr.heap.size + 1) (S + 1) Wd ∧ a' = (?act : Fin rows.length × V3 → Nat → Act) x S)
              ?ax
              ?assign ?body ?done ?stop
            case assign =>
              rintro l' pre x Wd K ⟨hd, hmi⟩ hK
              simp only [spotOf]
              gi_wp2
              have hbd : Below Wd.heap.size Wd ((Wd.alloc (.cells #[.int .i64 (X + ((x.1 : Nat) : Int) % W), .int .i64 (Z + ((x.1 : Nat) : Int) / W), .int .i64 x.2.x] 47)).alloc (.cells #[.int .i64 x.2.x, .int .i64 x.2.y, .int .i64 x.2.z] 39)) := ((Below.refl _ _).alloc (Nat.le_refl _) _).alloc (by simp) _
              refine hK _ _ (((KeepsOthers.alloc _ _).trans (KeepsOthers.alloc _ _)).from _) (Keep2.below hbd hmi.size) ⟨hd, hmi.belowW (by omega) hbd⟩ ⟨Wd.heap.size, ItAt.new _ X Z W x Wd hmi.size, fun hd' u h1 h2 => ?_, ?_⟩
              · rw [(hbd.block _ (by have := hmi.size; omega)).trans hmi.head] at h1
                injection h1 with h1
                injection h1 with h1
                subst h1
                exact hmi.fresh (Nat.le_succ _) u (by simpa using h2)
              generalize Wd.heap.size = Sx
              exact rfl
            case ax =>
              rintro x a' _ Wx Wy row ⟨S, h1, h2, h3⟩ hg hr
              have hlt := h1.cells.2.2.2.2.2.2.2
              have hge := h1.ge
              exact ⟨S, h1.grown hg (fun r e => (hr r e).2), h2.same (hg.block _ (by omega) (fun e => by have := (hr _ e.symm).1; omega)), h3⟩
            case body =>
              rintro l' pre x a' Wd hl' ⟨rr, hrr⟩ ⟨hd, hmi⟩ ⟨S, hit, hap, rfl⟩ hlt
              have hgeS := hit.ge
              have hszW := hmi.size
              have hkW := hk8.same hmi.size (fun j hj => hmi.keep j (by omega) (by omega))
              have hOW : GB wr.heap.size X Z W D (.slice (some ⟨wr.heap.size + 1, 0, none⟩) rows.length rows.length) Wd := (hmi.keep _ (by omega) (by omega)).trans hO8
              have hbW := hbw8.trans (hmi.below.mono (by omega))
              have hrdW := (hb.below hbW).more hbW.size
              have hap' : ∀ u ∈ hd, u.ownBlock ≠ some (S + 1) := fun u hu => hap _ u hmi.head (by simpa using hu)
              obtain ⟨u, hu, hou⟩ := hmi.rows x.1.val x.1.isLt
              have hbd := spot_bd ho x.1.isLt
              have hdm := Int.mul_ediv_add_emod ((x.1.val : Nat) : Int) W
              have hof := fun (q m : Int) => of_any l Al cl (X + m) (Z + q) x.2.x Wd hrdW hbl
              have hin : ((x.1.val : Nat) : Int) < (rows.length : Int) := by have := x.1.isLt; omega
              obtain ⟨s0, s1, s2, f0, f1, f2, fz, hsl⟩ := hit.cells
              generalize hq : ((x.1.val : Nat) : Int) / W = q at *
              generalize hm : ((x.1.val : Nat) : Int) % W = m at *
              have hqW : 0 ≤ q * W ∧ q * W ≤ 4096 ∧ q * W + m = ((x.1.val : Nat) : Int) := by
                have h1 := Int.mul_nonneg hbd.2.2.2.1 (Int.le_of_lt hbd.1)
                rw [Int.mul_comm] at hdm
                omega
              have hx1 := ho.1
              have hx2 := ho.2.1
              have hz1' := ho.2.2.1
              have hz2' := ho.2.2.2.1
              have e1 : IntKind.i64.wrap (Z + q - Z) = q := by rw [IntKind.wrap_i64]; omega
              have e2 : IntKind.i64.wrap (q * W) = q * W := by rw [IntKind.wrap_i64]; omega
              have e3 : IntKind.i64.wrap (q * W + (X + m)) = q * W + (X + m) := by rw [IntKind.wrap_i64]; omega
              have e4 : IntKind.i64.wrap (q * W + (X + m) - X) = ((x.1.val : Nat) : Int) := by rw [IntKind.wrap_i64]; omega
              have hlen : x.1.val < rows.length := x.1.isLt
              replace hof := hof q m
              have hqh := Lib.hid hq
              have hmh := Lib.hid hm
              obtain ⟨k0, k1, k2, k3, k4, k5, k6, kx, kz, kw, kd, kf, kl, kr, klt⟩ := id hkW
              obtain ⟨o0, o1, o2, o3, o4, oz0, oz1, oz2, oz3, oz4⟩ := hOW.cells
              clear k0 k1 k2 k3 k4 k5 k6 kd kf kr hx1 hx2 hz1' hz2' hdm hq hm o0 o1 o2 o3 oz0 oz1 oz2 oz3
              gi_wp2
              refine ⟨trivial, (CallsIn.inRound l' (callsIn_wide.2 hof)).mono ?_⟩
              rintro en w3 ⟨rfl, hb3⟩
              generalize har : ofF l (X + m) (Z + q) x.2.x = ar
              have hmi3 := hmi.belowW (by omega) hb3
              have hit3 := hit.grown (row := none) (grown_of_below hb3) (fun r e => by cases e)
              have hO3 := hOW.below hb3 (by omega)
              clear s0 s1 s2 f0 f1 f2 fz hsl kx kz kw kl klt o4 oz4 hof e1 e2 e3 e4
              obtain ⟨_, _, _, f0, f1, f2, fz, hsl⟩ := hit3.cells
              gi_wp2
              obtain ⟨W4, hW4⟩ : ∃ W4, w3.setCell ⟨S + 1, 2, none⟩ (.int .i64 ar) = W4 := ⟨_, rfl⟩
              have hF4 := heap_setCell_same w3 (S + 1) 2 _ 39 (.int .i64 ar) hit3.f
              have hg4 := grownBy_setCell4 w3 (S + 1) 2 (.int .i64 ar)
              have hmi4 := hmi3.set (k := 2) (v := .int .i64 ar) (by omega) (by omega) hap'
              rw [hW4] at hF4 hg4 hmi4 ⊢
              have hO4 := (hO3.kept hg4 (by intro e; injection e with e; omega)).cells.2.2.2.2.1
              obtain ⟨u', hu', hou4⟩ := hmi4.rows x.1.val x.1.isLt
              obtain rfl : u' = u := by rw [hu] at hu'; injection hu' with e; exact e.symm
              obtain ⟨Au, cu, rfl⟩ := own_slice hou4
              have hM4 : W4.cell? ⟨wr.heap.size + 1, x.1.val, none⟩ = some (.slice Au (sel l X Z W pre x.1.val).length cu) := by simp [World.cell?, hmi4.head, hu]
              have hf4 : W4.cell? ⟨S + 1, 0, none⟩ = some (.int .i64 x.2.x) ∧ W4.cell? ⟨S + 1, 1, none⟩ = some (.int .i64 x.2.y) ∧ W4.cell? ⟨S + 1, 2, none⟩ = some (.int .i64 ar) := by
                refine ⟨?_, ?_, ?_⟩ <;> simp [World.cell?, hF4]
              clear hF4 f0 f1 f2 fz
              refine wpIn_region_tail2 [true, true, true, true, true, true, true, true, true, false, false] (fun w' => w'.cell? ⟨wr.heap.size, 4, none⟩ = some (.slice (some ⟨wr.heap.size + 1, 0, none⟩) rows.length rows.length) ∧ w'.cell? ⟨wr.heap.size + 1, x.1.val, none⟩ = some (.slice Au (sel l X Z W pre x.1.val).length cu) ∧
                w'.cell? ⟨S + 1, 0, none⟩ = some (.int .i64 x.2.x) ∧ w'.cell? ⟨S + 1, 1, none⟩ = some (.int .i64 x.2.y) ∧ w'.cell? ⟨S + 1, 2, none⟩ = some (.int .i64 ar)) (fun _ => trivial) rfl (by intro c d v a w h; cases d <;> exact h) (by kernel_rfl) ?_
              have hS : (fun w' : World => w'.cell? ⟨wr.heap.size, 4, none⟩ = some (.slice (some ⟨wr.heap.size + 1, 0, none⟩) rows.length rows.length) ∧ w'.cell? ⟨wr.heap.size + 1, x.1.val, none⟩ = some (.slice Au (sel l X Z W pre x.1.val).length cu) ∧
                w'.cell? ⟨S + 1, 0, none⟩ = some (.int .i64 x.2.x) ∧ w'.cell? ⟨S + 1, 1, none⟩ = some (.int .i64 x.2.y) ∧ w'.cell? ⟨S + 1, 2, none⟩ = some (.int .i64 ar)) W4.drew := ⟨hO4, hM4, hf4.1, hf4.2.1, hf4.2.2⟩
              simp only [List.length_cons, List.length_nil, Nat.reduceAdd, List.take_succ_cons, List.take_zero, List.drop_succ_cons, List.drop_zero]
              iterate 9 (apply wpHd_quiet rfl hS; (intro w' hw'; obtain ⟨q0, q1, q2, q3, q4⟩ := hw'; go_simp; exact rfl); go_simp)
              refine wpHd_move rfl ?_
              go_simp
              obtain ⟨W5, hW5⟩ : ∃ W5, W4.alloc (.cells #[.int .i64 x.2.x, .int .i64 x.2.y, .int .i64 ar] 39) = W5 := ⟨_, rfl⟩
              have hb5 : Below W4.heap.size W4 W5 := by rw [← hW5]; exact (Below.refl _ _).alloc (Nat.le_refl _) _
              have hn5 := cells_new W4 [.int .i64 x.2.x, .int .i64 x.2.y, .int .i64 ar] 39
              have hs4 : Wd.heap.size ≤ W4.heap.size := Nat.le_trans hb3.size hg4.size
              rw [hW5] at hn5 ⊢
              have c5 : ∀ b k, b < W4.heap.size → W5.cell? ⟨b, k, none⟩ = W4.cell? ⟨b, k, none⟩ := fun b k hp => hb5.cell (by exact hp)
              have hmi5 := hmi4.belowW (by omega) hb5
              have hou5 := ownsRow_below hou4 hb5
              have hs5 := hb5.size
              have hs43 := hg4.size
              refine ⟨⟨(c5 _ _ (by omega)).trans hO4, (c5 _ _ (by omega)).trans hM4, (c5 _ _ (by omega)).trans hf4.1, (c5 _ _ (by omega)).trans hf4.2.1, (c5 _ _ (by omega)).trans hf4.2.2⟩, ?_⟩
              have hsl2 := sel_le l X Z W pre x.1.val
              have hfl : (flat rows).length ≤ 8 * rows.length := flat_len rows (fun r hm => (ho.2.2.2.2.2.2.2.2.2 r hm).2) _ (Nat.le_refl _)
              have hb5d : Below W4.heap.size W4 W5.drew := hb5.drew
              obtain ⟨W6, hW6⟩ : ∃ W6, W5.drew = W6 := ⟨_, rfl⟩
              have hn6 : ∀ (j : Nat) (u : Value), [Value.int .i64 x.2.x, .int .i64 x.2.y, .int .i64 ar][j]? = some u → W5.drew.cell? ((⟨W4.heap.size, 0, none⟩ : Addr).add j) = some u := hn5
              rw [hW6] at hb5d hn6 ⊢
              have hmi6 := hmi4.belowW (by omega) hb5d
              have hou6 := ownsRow_below hou4 hb5d
              have hs6 := hb5d.size
              clear hn5 hb5 hou5 hmi5 c5 hs5
              refine wpHd_move rfl ?_
              refine opIn_append_own_at W6 (.tmp 84) (.tmp 86) 36 ?_ w8.heap.size 39 i0 _ 3 24 Try.underlying36 hi hz0 hz1 hz2 (by decide) (by decide) (.slice Au (sel l X Z W pre x.1.val).length cu) _ _ ?_ hou6 ⟨W4.heap.size, 0, none⟩ 1 1 [.int .i64 x.2.x, .int .i64 x.2.y, .int .i64 ar] ?_ rfl hn6 (by intro y hy; simp at hy; rcases hy with rfl | rfl | rfl <;> rfl) (by omega) (by omega) (by omega) ?_
              · exact rfl
              · exact rfl
              · exact rfl
              intro v' w9 hown9 hg9 hob9
              obtain ⟨Av, cv, rfl⟩ := own_slice hown9
              have c9 : ∀ b k, b < W4.heap.size → some b ≠ (Value.slice Au (sel l X Z W pre x.1.val).length cu).ownBlock → w9.cell? ⟨b, k, none⟩ = W4.cell? ⟨b, k, none⟩ := fun b k hb hne => (World.cell?_of_block (hg9.block b (by omega) hne)).trans (hb5d.cell (by exact hb))
              have n1 : ∀ b, b < w8.heap.size → some b ≠ (Value.slice Au (sel l X Z W pre x.1.val).length cu).ownBlock := fun b hb e => by have := (own_lt hou4 e.symm).1; omega
              have n2 : some (S + 1) ≠ (Value.slice Au (sel l X Z W pre x.1.val).length cu).ownBlock := fun e => hap' _ (List.mem_of_getElem? hu) e.symm
              have hM9 := (hg9.block (wr.heap.size + 1) (by omega) (n1 _ (by omega))).trans hmi6.head
              refine ⟨⟨(c9 _ _ (by omega) (n1 _ (by omega))).trans hO4, (c9 _ _ (by omega) (n1 _ (by omega))).trans hM4, (c9 _ _ (by omega) n2).trans hf4.1, (c9 _ _ (by omega) n2).trans hf4.2.1, (c9 _ _ (by omega) n2).trans hf4.2.2⟩, ?_⟩
              have hcM : w9.cell? ⟨wr.heap.size + 1, x.1.val, none⟩ = some (.slice Au (sel l X Z W pre x.1.val).length cu) := by simp [World.cell?, hM9, hu]
              have hfM : w9.frozen? ⟨wr.heap.size + 1, x.1.val, none⟩ = false := by simp [World.frozen?, hM9]
              have hst9 := hmi6.step (x := x) (by omega) hu (by rw [show mark1 l X Z W x.1.val x.2 = ⟨x.2.x, x.2.y, ar⟩ by rw [← har, ← hqh.out, ← hmh.out]; rfl]; exact hown9) hg9 hob9
              have hko : KeepsOthers Wd (w9.setCell ⟨wr.heap.size + 1, x.1.val, none⟩ (.slice Av ((sel l X Z W pre x.1.val).length + 1) cv)) := by
                have h1 : KeepsOthers w3 W4 := by rw [← hW4]; exact KeepsOthers.setCell _ _ _
                exact ((((keepsO_below hb3).trans h1).trans (keepsO_below hb5d)).trans (keepsO_own hou6 hg9)).trans (KeepsOthers.setCell _ _ _)
              have hfin := Lib.hid (⟨hko.from _, ⟨hko.size, fun j h1 h2 => (hst9.keep j h2 (by omega)).trans (hmi.keep j h2 (by omega)).symm⟩, _, hst9⟩ : KeepsFrom w8.heap.size Wd _ ∧ Keep2 W7.heap.size w8.heap.size Wd _ ∧ ∃ hd, MarkIn w8.heap.size (wr.heap.size + 1) l X Z W w8 hd (pre ++ [x]) _)
              clear hst9 hko hM9 n1 n2 c9 hou6 hmi6 hn6 hob9 hg9 hown9 hmi4 hou4 hO4 hM4 hf4 hg4 hb5d hW4 hW5 hW6 hit3 hO3 hmi3 hou hit hap hap' hu hS hmi hkW hOW hM8 hO8 hk8 hA har hrr hrdW hb3
              refine wpHd_nil ?_
              gi_wp2
              exact hfin.out
            case done =>
              rintro D' ys Wf hD' rfl ⟨hd, hmi⟩ hdf
              have hszW := hmi.size
              have hkW := hk8.same hmi.size (fun j hj => hmi.keep j (by omega) (by omega))
              have hOW : GB wr.heap.size X Z W D (.slice (some ⟨wr.heap.size + 1, 0, none⟩) rows.length rows.length) Wf := (hmi.keep _ (by omega) (by omega)).trans hO8
              have hbW := hbw8.trans (hmi.below.mono (by omega))
              have hkr := hkW.r
              obtain ⟨o0, o1, o2, o3, o4, _⟩ := hOW.cells
              obtain ⟨r0, r1, r2, r3, r4, q0, q1, q2, q3, q4⟩ := hkr.cells
              have hdh := Lib.hid hdf
              have hmh := Lib.hid hmi
              have hkh := Lib.hid hkr
              clear hdf hmi hkr hkW hOW hk8 hO8 hM8 hA
              gi_wp2
              obtain ⟨We, hWe⟩ : ∃ We, (((((Wf.setCell ⟨w.heap.size + 1 + 1 + 1, 0, none⟩ (.int .i64 X)).setCell ⟨w.heap.size + 1 + 1 + 1, 1, none⟩ (.int .i64 Z)).setCell ⟨w.heap.size + 1 + 1 + 1, 2, none⟩ (.int .i64 W)).setCell ⟨w.heap.size + 1 + 1 + 1, 3, none⟩ (.int .i64 D)).setCell ⟨w.heap.size + 1 + 1 + 1, 4, none⟩ (.slice (some ⟨wr.heap.size + 1, 0, none⟩) rows.length rows.length)) = We := ⟨_, rfl⟩
              have hG : GB (w.heap.size + 3) X Z W D (.slice (some ⟨wr.heap.size + 1, 0, none⟩) rows.length rows.length) We := by rw [← hWe]; exact hkh.out.set5 X Z W D _
              have hoth : ∀ k, k ≠ w.heap.size + 3 → We.heap[k]? = Wf.heap[k]? := fun k hk => by rw [← hWe]; exact set5_other _ _ _ _ _ hk
              have hbe : Below w.heap.size w We := by rw [← hWe]; exact below_set5 hbW (by omega) _ _ _ _ _
              have hde : We.heap[D']? = some (.deferred (some [])) := (hoth D' (by omega)).trans hdh.out
              rw [hWe]
              refine ⟨by simp, .inl ⟨_, _, rfl, run_takeDeferred hde, ?_⟩⟩
              refine ⟨_, results_g rfl _ _ (w.heap.size + 3) X Z W D _ rfl (hG.kept (grownBy_putObj' We D' (.deferred none)) (by intro e; injection e with e; omega)), .inr (.inr ⟨hc, hmk, wr.heap.size + 1, rfl, ?_⟩), ?_⟩
              · refine (hmh.out.rowsAt (by omega) fun k c0 t0 f0 hk hcell => ?_).wide (by omega) (Nat.le_refl _)
                have hk3 : We.heap[k]? = some (.cells c0 t0 f0) := (hoth k (by omega)).trans hcell
                refine ((grownBy_putObj' We D' (.deferred none)).block k (Array.getElem?_eq_some_iff.1 hk3).1 (fun e => ?_)).trans hk3
                injection e with e
                rw [e, hde] at hk3
                cases hk3
              · exact hbe.trans (belowK_b (w := w8) (by omega) _ D' _ _ hD' hde rfl rfl)
            case stop =>
              rintro D' c0 pre Wd _ _ h _
              exact h.elim
          · obtain ⟨r0, r1, r2, r3, r4, q0, q1, q2, q3, q4⟩ := kr.cells
            clear k0 k1 k2 k3 k4 k5 k6 kx kz kw kd kf kl
            gi_wp2
            have hno : ¬ markOk f g X Z W D rows l := fun ⟨m1, m2, m3⟩ => by
              rw [hbad'.out.2 ⟨m1, m2⟩, Bool.false_or, List.any_eq_true] at hbv
              obtain ⟨x, hx, hx'⟩ := hbv
              rw [m3 x hx] at hx'
              cases hx'
            exact ⟨_, results_g rfl _ _ (w.heap.size + 3) 0 0 0 0 _ rfl (kr.set5 0 0 0 0 _), .inr (.inl ⟨hc, hno, rfl⟩), below_set5 hbrw (by omega) _ _ _ _ _⟩
    · have hbad' := Lib.hid hbad
      clear hbad
      gi_wp2
      gi_loopw [31, 8] (fun x y wr => ∃ k : Nat, x = .int .i64 k ∧ k ≤ l.length ∧ y = .bool (bad0 || (l.take k).any (badB f g)) ∧ Below w2.heap.size w2 wr) (fun x _ _ => l.length - (intOf x).toNat)
      case atStart => exact ⟨0, rfl, Nat.zero_le _, by simp [hst], Below.refl _ _⟩
      case round =>
        obtain ⟨k, rfl, hk, rfl, hbr⟩ := hrel
        have hbrw := hbw2.trans (hbr.mono hbw2.size)
        have hkr := hk2.below hbr hk2.lt
        clear k0 k1 k2 k3 k4 k5 k6 kx kz kw kd kf kl kr klt
        obtain ⟨k0, k1, k2, k3, k4, k5, k6, kx, kz, kw, kd, kf, kl, kr, klt⟩ := id hkr
        by_cases hkn : k < l.length
        · have hkn' : (k : Int) < (l.length : Int) := by omega
          have hlt0 : w.heap.size < wr.heap.size := by omega
          obtain ⟨ad, rfl, hlt, x0, x1, x2, x3, x4, x5, x6, x7⟩ := b8_at ((hb.below hbrw).more hbrw.size) hkn
          have hxk := hxb l[k]
          clear hxb
          have htk : (l.take (k + 1)).any (badB f g) = ((l.take k).any (badB f g) || badB f g l[k]) := by
            rw [List.take_succ_eq_append_getElem hkn, List.any_append]; simp
          generalize (l.take k).any (badB f g) = bk at htk ⊢
          cases hbv : (bad0 || bk)
          all_goals gi_wp2_with (refine ⟨trivial, ?_⟩; gi_at_call 36; refine (callsIn_wide.2 (hxk _)).mono ?_; rintro en w3 ⟨v, er3, rfl, her3, hb3⟩; clear hxk)
          all_goals go_roundw
          all_goals first
            | (case measure => show l.length - ((k : Int) + 1).toNat < l.length - ((k : Int)).toNat; omega)
            | (case rel => exact ⟨k + 1, by go_num, by omega, by rw [htk, ← her3, ← Bool.or_assoc, hbv]; by_cases h0 : er3 = 0 <;> simp [h0], (hbr.alloc hbr.size _).trans (hb3.mono (by have := hbr.size; simp; omega))⟩)
        · obtain rfl : k = l.length := by omega
          rw [List.take_length]
          clear hxb
          cases hbv : (bad0 || l.any (badB f g))
          · rw [hst] at hbv; cases hbv
          · obtain ⟨r0, r1, r2, r3, r4, q0, q1, q2, q3, q4⟩ := kr.cells
            clear k0 k1 k2 k3 k4 k5 k6 kx kz kw kd kf kl
            gi_wp2
            have hno : ¬ markOk f g X Z W D rows l := fun ⟨m1, m2, m3⟩ => by
              rw [hbad'.out.2 ⟨m1, m2⟩, Bool.false_or, List.any_eq_true] at hbv
              obtain ⟨x, hx, hx'⟩ := hbv
              rw [m3 x hx] at hx'
              cases hx'
            exact ⟨_, results_g rfl _ _ (w.heap.size + 3) 0 0 0 0 _ rfl (kr.set5 0 0 0 0 _), .inr (.inl ⟨hc, hno, rfl⟩), below_set5 hbrw (by omega) _ _ _ _ _⟩
  · have hc20 : checkF a b c d e f g = 20 := by
      rw [check_val] at hc ⊢
      split at hc
      · exact absurd rfl hc
      · rename_i h; rw [if_neg h]
    rw [hc20] at hck
    clear hoc hr hl hb hbl hi hz0 hz1 hz2
    gi_wp2_with (refine ⟨trivial, ?_⟩; gi_at_call 28; refine (callsIn_wide.2 (hck _)).mono ?_; rintro en w1 ⟨rfl, hb1⟩; have hk1 := hk0.below hb1 (by simp); have hr1 := hk1.r; obtain ⟨s0, s1, s2, s3, s4, t0, t1, t2, t3, t4⟩ := hr1.cells; clear hk1 r0 r1 r2 r3 r4 q0 q1 q2 q3 q4 k0 k1 k2 k3 k4 k5 k6 kx kz kw kd kf kl kr klt hk0 hck)
    exact ⟨_, results_g rfl _ _ (w.heap.size + 3) 0 0 0 0 _ rfl (hr1.set5 0 0 0 0 _), .inl ⟨by rw [hc20]; decide, rfl⟩, below_set5 (hb0.trans (hb1.mono (by simp <;> omega))) (by omega) _ _ _ _ _⟩
end Go.Proofs.Ytbjbiimkhpfieaa
