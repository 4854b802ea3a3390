/- FieldCap's call tells true. No conditions but that the grid lies where it is said to lie. -/
import Derived.Test.YtcdfojfafnecdaaFp
namespace Go.Proofs.Ytcdfojfafnecdaa
open Go Go.RowKit Go.Sx Go.Mp
attribute [local go_sem] Oper.semAt_some
theorem clear_bd (x : Int) : 0 ≤ (x.tmod 4 + 4).tmod 4 ∧ (x.tmod 4 + 4).tmod 4 ≤ 3 := by
  have h1 := Int.lt_tmod_of_pos x (by decide : (0 : Int) < 4)
  have h2 := Int.tmod_lt_of_pos x (by decide : (0 : Int) < 4)
  have e : (x.tmod 4 + 4).tmod 4 = (x.tmod 4 + 4) % 4 := Int.tmod_eq_emod_of_nonneg (by omega)
  omega
set_option maxHeartbeats 4000000 in
set_option maxRecDepth 100000 in
theorem fcap_any (a b c d e f g X Z W D clear : Int) (rows : List (List V3)) (A : Option Addr) (cap : Nat) (w : World) (hr : RowsAt w w.heap.size A rows) (hl : lensOk rows) :
    Calls Try.prog 6 #[cfgv a b c d e f g, gridv X Z W D A rows.length cap, .int .i64 clear] w fun en w' => en = .returned (.bool true) ∧ Below w.heap.size w w' := by
  have hba := ((Below.refl w.heap.size w).alloc (Nat.le_refl _) (.cells #[.int .i64 a, .int .i64 b, .int .i64 c, .int .i64 d, .int .i64 e, .int .i64 f, .int .i64 g] 23)).alloc (by simp) (.cells #[.int .i64 X, .int .i64 Z, .int .i64 W, .int .i64 D, .slice A rows.length cap] 26)
  have hB0 := two_alloc w (.cells #[.int .i64 a, .int .i64 b, .int .i64 c, .int .i64 d, .int .i64 e, .int .i64 f, .int .i64 g] 23) (.cells #[.int .i64 X, .int .i64 Z, .int .i64 W, .int .i64 D, .slice A rows.length cap] 26)
  have hB1 := alloc2_new w (.cells #[.int .i64 a, .int .i64 b, .int .i64 c, .int .i64 d, .int .i64 e, .int .i64 f, .int .i64 g] 23) (.cells #[.int .i64 X, .int .i64 Z, .int .i64 W, .int .i64 D, .slice A rows.length cap] 26)
  obtain ⟨W2, hW2⟩ : ∃ W2, (w.alloc (.cells #[.int .i64 a, .int .i64 b, .int .i64 c, .int .i64 d, .int .i64 e, .int .i64 f, .int .i64 g] 23)).alloc (.cells #[.int .i64 X, .int .i64 Z, .int .i64 W, .int .i64 D, .slice A rows.length cap] 26) = W2 := ⟨_, rfl⟩
  rw [hW2] at hba hB0 hB1
  have hrW := (hr.below hba).more hba.size
  have hgr := great14_any X Z W D rows A cap W2 hrW hl
  have hwk := fun w => wakes14_any w
  have hck := fun w => rcfg_any a b c d e f g w
  have hcap := fun a b c d e f g w => cap_any a b c d e f g w
  unfold gridv at hgr ⊢
  unfold cfgv at hck hcap ⊢
  obtain ⟨q0, q1, q2, q3, q4, q5, q6⟩ := box7 hB0
  obtain ⟨g0, g1, g2, g3, g4⟩ := box5 hB1
  refine (callsIn_wide (n := 6)).1 ?_
  refine callsIn_of_wp Try.func6 rfl trivial ?_
  simp only [Try.ntmps6, List.size_toArray, List.length_cons, List.length_nil, Nat.reduceAdd, Nat.reduceSub, Array.replicate_succ, Array.replicate_zero, List.push_toArray, List.append_toArray, List.nil_append, List.cons_append]
  gi_wp2
  refine ⟨trivial, (callsIn_wide.2 hgr).mono ?_⟩
  rintro en w1 ⟨⟨bg, rfl⟩, hb1⟩
  clear q0 q1 q2 q3 q4 q5 q6 g0 g1 g2 g3 g4 hgr
  have p0 := (hb1.block _ (lt_of_block hB0)).trans hB0
  have p1 := (hb1.block _ (lt_of_block hB1)).trans hB1
  obtain ⟨q0, q1, q2, q3, q4, q5, q6⟩ := box7 p0
  have hb01 := hba.trans (hb1.mono hba.size)
  cases bg with
  | true =>
    gi_wp2_with (refine wpListIn_off rfl ?_)
    refine ⟨trivial, (callsIn_wide.2 (hwk _)).mono ?_⟩
    rintro en w2 ⟨rfl, hb2⟩
    gi_wp2
    go_ret
    exact ⟨rfl, hb01.trans (hb2.mono hb01.size)⟩
  | false =>
    gi_wp2
    refine ⟨trivial, (callsIn_wide.2 (hck _)).mono ?_⟩
    rintro en w2 ⟨rfl, hb2⟩
    have hb02 := hb01.trans (hb2.mono hb01.size)
    by_cases hk : checkF a b c d e f g = 0
    · rw [hk]
      clear q0 q1 q2 q3 q4 q5 q6
      have s0 := (hb2.block _ (lt_of_block p0)).trans p0
      have s1 := (hb2.block _ (lt_of_block p1)).trans p1
      obtain ⟨q0, q1, q2, q3, q4, q5, q6⟩ := box7 s0
      obtain ⟨x3, ex3, bx3, kx3⟩ := alloc_step w2 (.cells #[.int .i64 a, .int .i64 b, .int .i64 c, .int .i64 d, .int .i64 e, .int .i64 f, .int .i64 g] 23)
      obtain ⟨v', hv'⟩ : ∃ v', (clear.tmod 4 + 4).tmod 4 = v' := ⟨_, rfl⟩
      have hbd := clear_bd clear
      rw [hv'] at hbd
      have z0 : x3.frozen? ⟨w2.heap.size, 0, none⟩ = false := not_frozen kx3
      obtain ⟨t0, t1, t2, t3, t4, t5, t6⟩ := box7 kx3
      have hw1 : IntKind.i64.wrap (clear.tmod 4) = clear.tmod 4 := by
        have h1 := Int.lt_tmod_of_pos clear (by decide : (0 : Int) < 4)
        have h2 := Int.tmod_lt_of_pos clear (by decide : (0 : Int) < 4)
        rw [IntKind.wrap_i64]; omega
      have hw2 : IntKind.i64.wrap (clear.tmod 4 + 4) = clear.tmod 4 + 4 := by
        have h1 := Int.lt_tmod_of_pos clear (by decide : (0 : Int) < 4)
        have h2 := Int.tmod_lt_of_pos clear (by decide : (0 : Int) < 4)
        rw [IntKind.wrap_i64]; omega
      have hw3 : IntKind.i64.wrap ((clear.tmod 4 + 4).tmod 4) = v' := by rw [hv', IntKind.wrap_i64]; omega
      obtain ⟨y4, ey4⟩ : ∃ y4, x3.setCell ⟨w2.heap.size, 0, none⟩ (.int .i64 v') = y4 := ⟨_, rfl⟩
      have by4 : Below w2.heap.size w2 y4 := by rw [← ey4]; exact bx3.setCell (p := ⟨w2.heap.size, 0, none⟩) (Nat.le_refl _) _
      have ky4 : y4.heap[w2.heap.size]? = some (.cells #[.int .i64 v', .int .i64 b, .int .i64 c, .int .i64 d, .int .i64 e, .int .i64 f, .int .i64 g] 23 (0, 0)) := by rw [← ey4]; exact set_block kx3 _
      have u0 := (by4.block _ (lt_of_block s0)).trans s0
      have u1 := (by4.block _ (lt_of_block s1)).trans s1
      obtain ⟨a0, a1, a2, a3, a4, a5, a6⟩ := box7 u0
      obtain ⟨g0, g1, g2, g3, g4⟩ := box5 u1
      have hb04 : Below w.heap.size w y4 := hb02.trans (by4.mono hb02.size)
      have hr4 := (hr.below hb04).more hb04.size
      have hk2 := check_other hk hbd.1 hbd.2
      gi_wp2
      clear t0 t1 t2 t3 t4 t5 t6 q0 q1 q2 q3 q4 q5 q6 a0 a1 a2 a3 a4 a5 a6 g0 g1 g2 g3 g4 hw1 hw2 hw3 hv'
      by_cases ho : gridOk X Z W D rows
      · have hf1 := fbuild_ok a b c d e f g X Z W D rows A cap y4 hr4 hl hk ho
        unfold cfgv at hf1
        refine ⟨trivial, (callsIn_wide.2 hf1).mono ?_⟩
        rintro en w5 ⟨A5, c5, rfl, hI5, hb5⟩
        have hb05 := hb04.trans (hb5.mono hb04.size)
        have v0 := (hb5.block _ (lt_of_block ky4)).trans ky4
        have v1 := (hb5.block _ (lt_of_block u1)).trans u1
        have v2 := (hb5.block _ (lt_of_block u0)).trans u0
        obtain ⟨a0, a1, a2, a3, a4, a5, a6⟩ := box7 v0
        obtain ⟨g0, g1, g2, g3, g4⟩ := box5 v1
        gi_wp2
        have hf2 := fbuild_ok v' b c d e f g X Z W D rows A cap w5 ((hr.below hb05).more hb05.size) hl hk2 ho
        unfold cfgv at hf2
        refine ⟨trivial, (callsIn_wide.2 hf2).mono ?_⟩
        rintro en w6 ⟨A6, c6, rfl, hI6, hb6⟩
        clear a0 a1 a2 a3 a4 a5 a6 g0 g1 g2 g3 g4 hf1 hf2
        have hb06 := hb05.trans (hb6.mono hb05.size)
        have n0 := (hb6.block _ (lt_of_block v0)).trans v0
        have n1 := (hb6.block _ (lt_of_block v2)).trans v2
        obtain ⟨ca, hca⟩ : ∃ ca : Nat, a + 3 = ca := ⟨(a + 3).toNat, by have := check_clear hk; omega⟩
        obtain ⟨cb, hcb⟩ : ∃ cb : Nat, v' + 3 = cb := ⟨(v' + 3).toNat, by omega⟩
        have hcA := fun w => hcap a b c d e f g w
        have hcB := fun w => hcap v' b c d e f g w
        rw [show capF a b c d e f g = ca by unfold capF; rw [if_pos hk, hca]] at hcA
        rw [show capF v' b c d e f g = cb by unfold capF; rw [if_pos hk2, hcb]] at hcB
        obtain ⟨ka, hka⟩ : ∃ ka : Int, (ca : Int) = ka := ⟨_, rfl⟩
        obtain ⟨kb, hkb⟩ : ∃ kb : Int, (cb : Int) = kb := ⟨_, rfl⟩
        rw [hka] at hcA
        rw [hkb] at hcB
        rw [hca, Int.toNat_natCast, lk_other hk hk2] at hI5
        rw [hcb, Int.toNat_natCast] at hI6
        generalize eightF W.toNat (ttF (lkF v' b c d e f g) X Z W D rows) = N at hI5 hI6
        clear hcap
        gi_wp2
        obtain ⟨a0, a1, a2, a3, a4, a5, a6⟩ := box7 (show w6.drew.heap[w.heap.size]? = _ from n1)
        obtain ⟨d0, d1, d2, d3, d4, d5, d6⟩ := box7 (show w6.drew.heap[w2.heap.size]? = _ from n0)
        have l1 : w.heap.size < w6.drew.heap.size := lt_of_block n1
        have l2 : w2.heap.size < w6.drew.heap.size := lt_of_block n0
        have hS : (CellsL [(⟨w.heap.size, 0, none⟩, .int .i64 a), (⟨w.heap.size, 1, none⟩, .int .i64 b), (⟨w.heap.size, 2, none⟩, .int .i64 c), (⟨w.heap.size, 3, none⟩, .int .i64 d), (⟨w.heap.size, 4, none⟩, .int .i64 e), (⟨w.heap.size, 5, none⟩, .int .i64 f), (⟨w.heap.size, 6, none⟩, .int .i64 g), (⟨w2.heap.size, 0, none⟩, .int .i64 v'), (⟨w2.heap.size, 1, none⟩, .int .i64 b), (⟨w2.heap.size, 2, none⟩, .int .i64 c), (⟨w2.heap.size, 3, none⟩, .int .i64 d), (⟨w2.heap.size, 4, none⟩, .int .i64 e), (⟨w2.heap.size, 5, none⟩, .int .i64 f), (⟨w2.heap.size, 6, none⟩, .int .i64 g)]) (w6.drew) := ⟨a0, a1, a2, a3, a4, a5, a6, d0, d1, d2, d3, d4, d5, d6, trivial⟩
        refine wpIn_region_ord [(0, true), (2, true), (1, false), (3, false), (4, true)] (CellsL [(⟨w.heap.size, 0, none⟩, .int .i64 a), (⟨w.heap.size, 1, none⟩, .int .i64 b), (⟨w.heap.size, 2, none⟩, .int .i64 c), (⟨w.heap.size, 3, none⟩, .int .i64 d), (⟨w.heap.size, 4, none⟩, .int .i64 e), (⟨w.heap.size, 5, none⟩, .int .i64 f), (⟨w.heap.size, 6, none⟩, .int .i64 g), (⟨w2.heap.size, 0, none⟩, .int .i64 v'), (⟨w2.heap.size, 1, none⟩, .int .i64 b), (⟨w2.heap.size, 2, none⟩, .int .i64 c), (⟨w2.heap.size, 3, none⟩, .int .i64 d), (⟨w2.heap.size, 4, none⟩, .int .i64 e), (⟨w2.heap.size, 5, none⟩, .int .i64 f), (⟨w2.heap.size, 6, none⟩, .int .i64 g)]) (fun _ => trivial) rfl (by first | exact then_put rfl | (intro c d v a w h; cases d <;> exact h)) (by kernel_rfl) ?_
        simp only [List.length_cons, List.length_nil, Nat.reduceAdd, List.drop_succ_cons, List.drop_zero]
        iterate 2 (apply wpOrd_quiet rfl hS rfl; (intro w' hw'; obtain ⟨q0, q1, q2, q3, q4, q5, q6, q7, q8, q9, q10, q11, q12, q13, _⟩ := hw'; go_simp; exact rfl); go_simp)
        refine wpOrd_move rfl rfl ?_
        go_simp
        refine ⟨trivial, (callsIn_wide.2 (hcA _)).mono ?_⟩
        rintro en w7 ⟨rfl, hb7⟩
        replace hS := CellsL.keep hb7 hS ⟨l1, l1, l1, l1, l1, l1, l1, l2, l2, l2, l2, l2, l2, l2, trivial⟩
        refine ⟨hS, ?_⟩
        go_simp
        refine wpOrd_move rfl rfl ?_
        go_simp
        refine ⟨trivial, (callsIn_wide.2 (hcB _)).mono ?_⟩
        rintro en w8 ⟨rfl, hb8⟩
        have hs7 := hb7.size
        have m1 : w.heap.size < w7.heap.size := by omega
        have m2 : w2.heap.size < w7.heap.size := by omega
        replace hS := CellsL.keep hb8 hS ⟨m1, m1, m1, m1, m1, m1, m1, m2, m2, m2, m2, m2, m2, m2, trivial⟩
        refine ⟨hS, ?_⟩
        go_simp
        iterate 1 (apply wpOrd_quiet rfl hS rfl; (intro w' hw'; obtain ⟨q0, q1, q2, q3, q4, q5, q6, q7, q8, q9, q10, q11, q12, q13, _⟩ := hw'; go_simp; exact rfl); go_simp)
        refine wpOrd_nil ?_
        clear hS a0 a1 a2 a3 a4 a5 a6 d0 d1 d2 d3 d4 d5 d6
        obtain ⟨m, hm⟩ : ∃ m : Int, (if kb < ka then kb else ka) = m := ⟨_, rfl⟩
        rw [hm]
        have hE : ∀ s, ∃ e, (if m < ((cl N ca s : Nat) : Int) then m else ((cl N ca s : Nat) : Int)) = e ∧ (if m < ((cl N cb s : Nat) : Int) then m else ((cl N cb s : Nat) : Int)) = e := fun s => by
          have hmm : m = min (ca : Int) cb := by rw [← hm]; split <;> omega
          have hcm := cap_min N ca cb s
          rw [← hmm] at hcm
          exact ⟨_, rfl, by split <;> split <;> omega⟩
        clear hm hka hkb hcA hcB
        gi_wp2
        have hb08 := hb06.trans ((Below.refl w6.heap.size w6).drew.mono hb06.size)
        have hb68 : Below w6.heap.size w6 w8 := (Below.refl w6.heap.size w6).drew.trans (hb7.trans (hb8.mono hb7.size))
        have hI58 := ((hI5.below (hb6.trans (hb68.mono hb6.size))).more (Nat.le_trans hb6.size hb68.size))
        have hI68 := (hI6.below hb68).more hb68.size
        have hn4 := rows_len ho
        have hl8 := lenF_le ho
        gi_loopw [13] (fun x wr => ∃ i : Nat, x = .int .i64 i ∧ i ≤ rows.length ∧ Below w8.heap.size w8 wr) (fun x _ => rows.length - (intOf x).toNat)
        case atStart => exact ⟨0, rfl, Nat.zero_le _, Below.refl _ _⟩
        case round =>
          obtain ⟨i, rfl, hi, hlow⟩ := hrel
          by_cases hin : i < rows.length
          · have hin' : (i : Int) < (rows.length : Int) := by omega
            have hwi : IntKind.i64.wrap ((i : Int) + 1) = (i : Int) + 1 := by rw [IntKind.wrap_i64]; omega
            obtain ⟨ad5, Ai5, ci5, rfl, hbl5, hc5, hr5⟩ := (hI58.below hlow).at_ hin
            obtain ⟨ad6, Ai6, ci6, rfl, hbl6, hc6, hr6⟩ := (hI68.below hlow).at_ hin
            have h8 := hl8 i
            generalize hli : lenF rows i = li at hc5 hr5 hc6 hr6 h8
            gi_wp2
            have hS : (CellsL [(ad5.add i, .slice Ai5 li ci5), (ad6.add i, .slice Ai6 li ci6)]) (wr.drew) := ⟨hc5, hc6, trivial⟩
            refine wpIn_region_ord [(0, true), (1, true), (2, true), (3, true), (4, true), (5, true), (6, true), (7, true), (8, true), (9, true)] (CellsL [(ad5.add i, .slice Ai5 li ci5), (ad6.add i, .slice Ai6 li ci6)]) (fun _ => trivial) rfl (by first | exact then_put rfl | (intro c d v a w h; cases d <;> exact h)) (by kernel_rfl) ?_
            simp only [List.length_cons, List.length_nil, Nat.reduceAdd, List.drop_succ_cons, List.drop_zero]
            iterate 10 (apply wpOrd_quiet rfl hS rfl; (intro w' hw'; obtain ⟨q0, q1, _⟩ := hw'; go_simp; exact rfl); go_simp)
            refine wpOrd_nil ?_
            clear hS
            gi_wp2
            have hc5d : wr.drew.cell? (ad5.add i) = some (.slice Ai5 li ci5) := hc5
            have hc6d : wr.drew.cell? (ad6.add i) = some (.slice Ai6 li ci6) := hc6
            have hr5d := hr5.drew
            have hr6d := hr6.drew
            have hlow' : Below w8.heap.size w8 wr.drew := hlow.drew
            clear hc5 hc6 hr5 hr6 hlow
            generalize wr.drew = wo at hc5d hc6d hr5d hr6d hlow' ⊢
            have hos := hlow'.size
            gi_loopw [14] (fun x wt => ∃ k : Nat, x = .int .i64 k ∧ k ≤ li ∧ Below wo.heap.size wo wt) (fun x _ => li - (intOf x).toNat)
            case atStart => exact ⟨0, rfl, Nat.zero_le _, Below.refl _ _⟩
            case round =>
              obtain ⟨k, rfl, hkl, hlow2⟩ := hrel
              have hd5 := (hlow2.cell (p := ad5.add i) (by rw [block_of_add]; omega)).trans hc5d
              have hd6 := (hlow2.cell (p := ad6.add i) (by rw [block_of_add]; omega)).trans hc6d
              by_cases hkn : k < li
              · have hkn' : (k : Int) < (li : Int) := by omega
                have hwk' : IntKind.i64.wrap ((k : Int) + 1) = (k : Int) + 1 := by rw [IntKind.wrap_i64]; omega
                obtain ⟨a5, u5, rfl, hba5, hu5, he5⟩ := ((hr5d.more hos).below hlow2).at_ hkn
                obtain ⟨a6, u6, rfl, hba6, hu6, he6⟩ := ((hr6d.more hos).below hlow2).at_ hkn
                rw [intRow_get hkn] at hu5 hu6
                injection hu5 with hu5
                injection hu6 with hu6
                subst hu5; subst hu6
                obtain ⟨ee, hx, hy⟩ := hE (i, k)
                generalize ((cl N ca (i, k) : Nat) : Int) = x at he5 hx
                generalize ((cl N cb (i, k) : Nat) : Int) = y at he6 hy
                gi_wp2
                have hS : (CellsL [(ad5.add i, .slice (some a5) li ci5), (ad6.add i, .slice (some a6) li ci6), (a5.add k, .int .i64 x), (a6.add k, .int .i64 y)]) (wr.drew) := ⟨hd5, hd6, he5, he6, trivial⟩
                refine wpIn_region_ord [(0, true), (1, true), (2, true), (3, true), (4, true), (5, true), (6, true), (7, true), (8, true), (9, true), (10, true), (11, true), (12, true), (13, true), (14, true), (15, true), (16, true), (17, true)] (CellsL [(ad5.add i, .slice (some a5) li ci5), (ad6.add i, .slice (some a6) li ci6), (a5.add k, .int .i64 x), (a6.add k, .int .i64 y)]) (fun _ => trivial) rfl (by first | exact then_put rfl | (intro c d v a w h; cases d <;> exact h)) (by kernel_rfl) ?_
                simp only [List.length_cons, List.length_nil, Nat.reduceAdd, List.drop_succ_cons, List.drop_zero]
                iterate 18 (apply wpOrd_quiet rfl hS rfl; (intro w' hw'; obtain ⟨q0, q1, q2, q3, _⟩ := hw'; go_simp; exact rfl); go_simp)
                refine wpOrd_nil ?_
                clear hS
                gi_wp2
                go_roundw
                case rel => exact ⟨k + 1, by go_num, by omega, hlow2.drew⟩
                case measure => simp [intOf]; omega
              · obtain rfl : k = li := by omega
                gi_wp2
                go_roundw
                case rel => exact ⟨i + 1, by go_num, by omega, hlow'.trans (hlow2.mono hos)⟩
                case measure => simp [intOf]; omega
          · obtain rfl : i = rows.length := by omega
            have hb6r : Below w6.heap.size w6 wr := hb68.trans (hlow.mono hb68.size)
            have hlkc := fun w => linked_any a b c d e f g ⟨0, 9, 1⟩ ⟨0, 9, 1⟩ w
            have hlkv := lk_nine hk
            unfold cfgv at hlkc
            clear hI58 hI68 hE
            by_cases h9 : c ≤ 9
            · rw [decide_eq_true h9] at hlkv
              rw [hlkv] at hlkc
              gi_wp2
              have n2 := (hb6r.block _ (lt_of_block n1)).trans n1
              obtain ⟨a0, a1, a2, a3, a4, a5, a6⟩ := box7 (show wr.drew.heap[w.heap.size]? = _ from n2)
              have l1 : w.heap.size < wr.drew.heap.size := lt_of_block n2
              have hS : (CellsL [(⟨w.heap.size, 0, none⟩, .int .i64 a), (⟨w.heap.size, 1, none⟩, .int .i64 b), (⟨w.heap.size, 2, none⟩, .int .i64 c), (⟨w.heap.size, 3, none⟩, .int .i64 d), (⟨w.heap.size, 4, none⟩, .int .i64 e), (⟨w.heap.size, 5, none⟩, .int .i64 f), (⟨w.heap.size, 6, none⟩, .int .i64 g)]) (wr.drew) := ⟨a0, a1, a2, a3, a4, a5, a6, trivial⟩
              refine wpIn_region_ord [(0, true), (1, true), (2, true), (4, true), (5, true), (6, true), (3, false), (7, true), (8, true), (9, false), (10, true)] (CellsL [(⟨w.heap.size, 0, none⟩, .int .i64 a), (⟨w.heap.size, 1, none⟩, .int .i64 b), (⟨w.heap.size, 2, none⟩, .int .i64 c), (⟨w.heap.size, 3, none⟩, .int .i64 d), (⟨w.heap.size, 4, none⟩, .int .i64 e), (⟨w.heap.size, 5, none⟩, .int .i64 f), (⟨w.heap.size, 6, none⟩, .int .i64 g)]) (fun _ => trivial) rfl (by first | exact then_put rfl | (intro c d v a w h; cases d <;> exact h)) (by kernel_rfl) ?_
              simp only [List.length_cons, List.length_nil, Nat.reduceAdd, List.drop_succ_cons, List.drop_zero]
              iterate 6 (apply wpOrd_quiet rfl hS rfl; (intro w' hw'; obtain ⟨q0, q1, q2, q3, q4, q5, q6, _⟩ := hw'; go_simp; exact rfl); go_simp)
              refine wpOrd_move rfl rfl ?_
              go_simp
              refine ⟨trivial, (callsIn_wide.2 (hlkc _)).mono ?_⟩
              rintro en w9 ⟨rfl, hb9⟩
              replace hS := CellsL.keep hb9 hS ⟨l1, l1, l1, l1, l1, l1, l1, trivial⟩
              refine ⟨hS, ?_⟩
              go_simp
              iterate 2 (apply wpOrd_quiet rfl hS rfl; (intro w' hw'; obtain ⟨q0, q1, q2, q3, q4, q5, q6, _⟩ := hw'; go_simp; exact rfl); go_simp)
              refine wpOrd_move rfl rfl ?_
              go_simp
              refine ⟨trivial, (callsIn_wide.2 (hwk _)).mono ?_⟩
              rintro en w10 ⟨rfl, hb10⟩
              have m1 : w.heap.size < w9.heap.size := Nat.lt_of_lt_of_le l1 hb9.size
              replace hS := CellsL.keep hb10 hS ⟨m1, m1, m1, m1, m1, m1, m1, trivial⟩
              refine ⟨hS, ?_⟩
              go_simp
              iterate 1 (apply wpOrd_quiet rfl hS rfl; (intro w' hw'; obtain ⟨q0, q1, q2, q3, q4, q5, q6, _⟩ := hw'; go_simp; exact rfl); go_simp)
              refine wpOrd_nil ?_
              gi_wp2
              go_ret
              exact ⟨rfl, hb06.trans ((hb6r.drew.trans (hb9.trans (hb10.mono hb9.size) |>.mono hb6r.size)).mono hb06.size)⟩
            · rw [decide_eq_false h9] at hlkv
              rw [hlkv] at hlkc
              have q9 : decide (c ≤ 9) = false := decide_eq_false h9
              have q9' : 9 < c := by omega
              gi_wp2
              have n2 := (hb6r.block _ (lt_of_block n1)).trans n1
              obtain ⟨a0, a1, a2, a3, a4, a5, a6⟩ := box7 (show wr.drew.heap[w.heap.size]? = _ from n2)
              have l1 : w.heap.size < wr.drew.heap.size := lt_of_block n2
              have hS : (CellsL [(⟨w.heap.size, 0, none⟩, .int .i64 a), (⟨w.heap.size, 1, none⟩, .int .i64 b), (⟨w.heap.size, 2, none⟩, .int .i64 c), (⟨w.heap.size, 3, none⟩, .int .i64 d), (⟨w.heap.size, 4, none⟩, .int .i64 e), (⟨w.heap.size, 5, none⟩, .int .i64 f), (⟨w.heap.size, 6, none⟩, .int .i64 g)]) (wr.drew) := ⟨a0, a1, a2, a3, a4, a5, a6, trivial⟩
              refine wpIn_region_ord [(0, true), (1, true), (2, true), (4, true), (5, true), (6, true), (3, false), (7, true), (8, true), (9, false), (10, true)] (CellsL [(⟨w.heap.size, 0, none⟩, .int .i64 a), (⟨w.heap.size, 1, none⟩, .int .i64 b), (⟨w.heap.size, 2, none⟩, .int .i64 c), (⟨w.heap.size, 3, none⟩, .int .i64 d), (⟨w.heap.size, 4, none⟩, .int .i64 e), (⟨w.heap.size, 5, none⟩, .int .i64 f), (⟨w.heap.size, 6, none⟩, .int .i64 g)]) (fun _ => trivial) rfl (by first | exact then_put rfl | (intro c d v a w h; cases d <;> exact h)) (by kernel_rfl) ?_
              simp only [List.length_cons, List.length_nil, Nat.reduceAdd, List.drop_succ_cons, List.drop_zero]
              iterate 6 (apply wpOrd_quiet rfl hS rfl; (intro w' hw'; obtain ⟨q0, q1, q2, q3, q4, q5, q6, _⟩ := hw'; go_simp; exact rfl); go_simp)
              refine wpOrd_move rfl rfl ?_
              go_simp
              refine ⟨trivial, (callsIn_wide.2 (hlkc _)).mono ?_⟩
              rintro en w9 ⟨rfl, hb9⟩
              replace hS := CellsL.keep hb9 hS ⟨l1, l1, l1, l1, l1, l1, l1, trivial⟩
              refine ⟨hS, ?_⟩
              go_simp
              iterate 2 (apply wpOrd_quiet rfl hS rfl; (intro w' hw'; obtain ⟨q0, q1, q2, q3, q4, q5, q6, _⟩ := hw'; go_simp; exact rfl); go_simp)
              refine wpOrd_move rfl rfl ?_
              go_simp
              refine ⟨trivial, (callsIn_wide.2 (hwk _)).mono ?_⟩
              rintro en w10 ⟨rfl, hb10⟩
              have m1 : w.heap.size < w9.heap.size := Nat.lt_of_lt_of_le l1 hb9.size
              replace hS := CellsL.keep hb10 hS ⟨m1, m1, m1, m1, m1, m1, m1, trivial⟩
              refine ⟨hS, ?_⟩
              go_simp
              iterate 1 (apply wpOrd_quiet rfl hS rfl; (intro w' hw'; obtain ⟨q0, q1, q2, q3, q4, q5, q6, _⟩ := hw'; go_simp; exact rfl); go_simp)
              refine wpOrd_nil ?_
              gi_wp2
              go_ret
              exact ⟨rfl, hb06.trans ((hb6r.drew.trans (hb9.trans (hb10.mono hb9.size) |>.mono hb6r.size)).mono hb06.size)⟩
      · have he2 : (if checkF a b c d e f g = 0 then 2 else 20 : Int) = 2 := if_pos hk
        have he3 : (if checkF v' b c d e f g = 0 then 2 else 20 : Int) = 2 := if_pos hk2
        have hf1 := fbuild_no a b c d e f g X Z W D rows A cap y4 hr4 hl (fun h => ho h.2)
        rw [he2] at hf1
        unfold cfgv at hf1
        refine ⟨trivial, (callsIn_wide.2 hf1).mono ?_⟩
        rintro en w5 ⟨rfl, hb5⟩
        have hb05 := hb04.trans (hb5.mono hb04.size)
        have v0 := (hb5.block _ (lt_of_block ky4)).trans ky4
        have v1 := (hb5.block _ (lt_of_block u1)).trans u1
        have v2 := (hb5.block _ (lt_of_block u0)).trans u0
        obtain ⟨a0, a1, a2, a3, a4, a5, a6⟩ := box7 v0
        obtain ⟨g0, g1, g2, g3, g4⟩ := box5 v1
        gi_wp2
        have hf2 := fbuild_no v' b c d e f g X Z W D rows A cap w5 ((hr.below hb05).more hb05.size) hl (fun h => ho h.2)
        rw [he3] at hf2
        unfold cfgv at hf2
        refine ⟨trivial, (callsIn_wide.2 hf2).mono ?_⟩
        rintro en w6 ⟨rfl, hb6⟩
        clear a0 a1 a2 a3 a4 a5 a6 g0 g1 g2 g3 g4 hf1 hf2
        have hb06 := hb05.trans (hb6.mono hb05.size)
        have n0 := (hb6.block _ (lt_of_block v0)).trans v0
        have n1 := (hb6.block _ (lt_of_block v2)).trans v2
        obtain ⟨ka, hka⟩ : ∃ ka : Int, capF a b c d e f g = ka := ⟨_, rfl⟩
        obtain ⟨kb, hkb⟩ : ∃ kb : Int, capF v' b c d e f g = kb := ⟨_, rfl⟩
        have hcA := fun w => hcap a b c d e f g w
        have hcB := fun w => hcap v' b c d e f g w
        rw [hka] at hcA
        rw [hkb] at hcB
        clear hcap he2 he3
        gi_wp2
        obtain ⟨a0, a1, a2, a3, a4, a5, a6⟩ := box7 (show w6.drew.heap[w.heap.size]? = _ from n1)
        obtain ⟨d0, d1, d2, d3, d4, d5, d6⟩ := box7 (show w6.drew.heap[w2.heap.size]? = _ from n0)
        have l1 : w.heap.size < w6.drew.heap.size := lt_of_block n1
        have l2 : w2.heap.size < w6.drew.heap.size := lt_of_block n0
        have hS : (CellsL [(⟨w.heap.size, 0, none⟩, .int .i64 a), (⟨w.heap.size, 1, none⟩, .int .i64 b), (⟨w.heap.size, 2, none⟩, .int .i64 c), (⟨w.heap.size, 3, none⟩, .int .i64 d), (⟨w.heap.size, 4, none⟩, .int .i64 e), (⟨w.heap.size, 5, none⟩, .int .i64 f), (⟨w.heap.size, 6, none⟩, .int .i64 g), (⟨w2.heap.size, 0, none⟩, .int .i64 v'), (⟨w2.heap.size, 1, none⟩, .int .i64 b), (⟨w2.heap.size, 2, none⟩, .int .i64 c), (⟨w2.heap.size, 3, none⟩, .int .i64 d), (⟨w2.heap.size, 4, none⟩, .int .i64 e), (⟨w2.heap.size, 5, none⟩, .int .i64 f), (⟨w2.heap.size, 6, none⟩, .int .i64 g)]) (w6.drew) := ⟨a0, a1, a2, a3, a4, a5, a6, d0, d1, d2, d3, d4, d5, d6, trivial⟩
        refine wpIn_region_ord [(0, true), (2, true), (1, false), (3, false), (4, true)] (CellsL [(⟨w.heap.size, 0, none⟩, .int .i64 a), (⟨w.heap.size, 1, none⟩, .int .i64 b), (⟨w.heap.size, 2, none⟩, .int .i64 c), (⟨w.heap.size, 3, none⟩, .int .i64 d), (⟨w.heap.size, 4, none⟩, .int .i64 e), (⟨w.heap.size, 5, none⟩, .int .i64 f), (⟨w.heap.size, 6, none⟩, .int .i64 g), (⟨w2.heap.size, 0, none⟩, .int .i64 v'), (⟨w2.heap.size, 1, none⟩, .int .i64 b), (⟨w2.heap.size, 2, none⟩, .int .i64 c), (⟨w2.heap.size, 3, none⟩, .int .i64 d), (⟨w2.heap.size, 4, none⟩, .int .i64 e), (⟨w2.heap.size, 5, none⟩, .int .i64 f), (⟨w2.heap.size, 6, none⟩, .int .i64 g)]) (fun _ => trivial) rfl (by first | exact then_put rfl | (intro c d v a w h; cases d <;> exact h)) (by kernel_rfl) ?_
        simp only [List.length_cons, List.length_nil, Nat.reduceAdd, List.drop_succ_cons, List.drop_zero]
        iterate 2 (apply wpOrd_quiet rfl hS rfl; (intro w' hw'; obtain ⟨q0, q1, q2, q3, q4, q5, q6, q7, q8, q9, q10, q11, q12, q13, _⟩ := hw'; go_simp; exact rfl); go_simp)
        refine wpOrd_move rfl rfl ?_
        go_simp
        refine ⟨trivial, (callsIn_wide.2 (hcA _)).mono ?_⟩
        rintro en w7 ⟨rfl, hb7⟩
        replace hS := CellsL.keep hb7 hS ⟨l1, l1, l1, l1, l1, l1, l1, l2, l2, l2, l2, l2, l2, l2, trivial⟩
        refine ⟨hS, ?_⟩
        go_simp
        refine wpOrd_move rfl rfl ?_
        go_simp
        refine ⟨trivial, (callsIn_wide.2 (hcB _)).mono ?_⟩
        rintro en w8 ⟨rfl, hb8⟩
        have hs7 := hb7.size
        have m1 : w.heap.size < w7.heap.size := by omega
        have m2 : w2.heap.size < w7.heap.size := by omega
        replace hS := CellsL.keep hb8 hS ⟨m1, m1, m1, m1, m1, m1, m1, m2, m2, m2, m2, m2, m2, m2, trivial⟩
        refine ⟨hS, ?_⟩
        go_simp
        iterate 1 (apply wpOrd_quiet rfl hS rfl; (intro w' hw'; obtain ⟨q0, q1, q2, q3, q4, q5, q6, q7, q8, q9, q10, q11, q12, q13, _⟩ := hw'; go_simp; exact rfl); go_simp)
        refine wpOrd_nil ?_
        clear hS a0 a1 a2 a3 a4 a5 a6 d0 d1 d2 d3 d4 d5 d6
        obtain ⟨m, hm⟩ : ∃ m : Int, (if kb < ka then kb else ka) = m := ⟨_, rfl⟩
        rw [hm]
        clear hm hka hkb hcA hcB
        gi_wp2
        have hb68 : Below w6.heap.size w6 w8 := (Below.refl w6.heap.size w6).drew.trans (hb7.trans (hb8.mono hb7.size))
        gi_loopw [13] (fun x wr => x = .int .i64 0 ∧ Below w8.heap.size w8 wr) (fun _ _ => 0)
        case atStart => exact ⟨rfl, Below.refl _ _⟩
        case round =>
          obtain ⟨rfl, hlow⟩ := hrel
          gi_wp2
          have hb6r : Below w6.heap.size w6 wr := hb68.trans (hlow.mono hb68.size)
          have hlkc := fun w => linked_any a b c d e f g ⟨0, 9, 1⟩ ⟨0, 9, 1⟩ w
          have hlkv := lk_nine hk
          unfold cfgv at hlkc
          by_cases h9 : c ≤ 9
          · rw [decide_eq_true h9] at hlkv
            rw [hlkv] at hlkc
            gi_wp2
            have n2 := (hb6r.block _ (lt_of_block n1)).trans n1
            obtain ⟨a0, a1, a2, a3, a4, a5, a6⟩ := box7 (show wr.drew.heap[w.heap.size]? = _ from n2)
            have l1 : w.heap.size < wr.drew.heap.size := lt_of_block n2
            have hS : (CellsL [(⟨w.heap.size, 0, none⟩, .int .i64 a), (⟨w.heap.size, 1, none⟩, .int .i64 b), (⟨w.heap.size, 2, none⟩, .int .i64 c), (⟨w.heap.size, 3, none⟩, .int .i64 d), (⟨w.heap.size, 4, none⟩, .int .i64 e), (⟨w.heap.size, 5, none⟩, .int .i64 f), (⟨w.heap.size, 6, none⟩, .int .i64 g)]) (wr.drew) := ⟨a0, a1, a2, a3, a4, a5, a6, trivial⟩
            refine wpIn_region_ord [(0, true), (1, true), (2, true), (4, true), (5, true), (6, true), (3, false), (7, true), (8, true), (9, false), (10, true)] (CellsL [(⟨w.heap.size, 0, none⟩, .int .i64 a), (⟨w.heap.size, 1, none⟩, .int .i64 b), (⟨w.heap.size, 2, none⟩, .int .i64 c), (⟨w.heap.size, 3, none⟩, .int .i64 d), (⟨w.heap.size, 4, none⟩, .int .i64 e), (⟨w.heap.size, 5, none⟩, .int .i64 f), (⟨w.heap.size, 6, none⟩, .int .i64 g)]) (fun _ => trivial) rfl (by first | exact then_put rfl | (intro c d v a w h; cases d <;> exact h)) (by kernel_rfl) ?_
            simp only [List.length_cons, List.length_nil, Nat.reduceAdd, List.drop_succ_cons, List.drop_zero]
            iterate 6 (apply wpOrd_quiet rfl hS rfl; (intro w' hw'; obtain ⟨q0, q1, q2, q3, q4, q5, q6, _⟩ := hw'; go_simp; exact rfl); go_simp)
            refine wpOrd_move rfl rfl ?_
            go_simp
            refine ⟨trivial, (callsIn_wide.2 (hlkc _)).mono ?_⟩
            rintro en w9 ⟨rfl, hb9⟩
            replace hS := CellsL.keep hb9 hS ⟨l1, l1, l1, l1, l1, l1, l1, trivial⟩
            refine ⟨hS, ?_⟩
            go_simp
            iterate 2 (apply wpOrd_quiet rfl hS rfl; (intro w' hw'; obtain ⟨q0, q1, q2, q3, q4, q5, q6, _⟩ := hw'; go_simp; exact rfl); go_simp)
            refine wpOrd_move rfl rfl ?_
            go_simp
            refine ⟨trivial, (callsIn_wide.2 (hwk _)).mono ?_⟩
            rintro en w10 ⟨rfl, hb10⟩
            have m1 : w.heap.size < w9.heap.size := Nat.lt_of_lt_of_le l1 hb9.size
            replace hS := CellsL.keep hb10 hS ⟨m1, m1, m1, m1, m1, m1, m1, trivial⟩
            refine ⟨hS, ?_⟩
            go_simp
            iterate 1 (apply wpOrd_quiet rfl hS rfl; (intro w' hw'; obtain ⟨q0, q1, q2, q3, q4, q5, q6, _⟩ := hw'; go_simp; exact rfl); go_simp)
            refine wpOrd_nil ?_
            gi_wp2
            go_ret
            exact ⟨rfl, hb06.trans ((hb6r.drew.trans (hb9.trans (hb10.mono hb9.size) |>.mono hb6r.size)).mono hb06.size)⟩
          · rw [decide_eq_false h9] at hlkv
            rw [hlkv] at hlkc
            have q9 : decide (c ≤ 9) = false := decide_eq_false h9
            have q9' : 9 < c := by omega
            gi_wp2
            have n2 := (hb6r.block _ (lt_of_block n1)).trans n1
            obtain ⟨a0, a1, a2, a3, a4, a5, a6⟩ := box7 (show wr.drew.heap[w.heap.size]? = _ from n2)
            have l1 : w.heap.size < wr.drew.heap.size := lt_of_block n2
            have hS : (CellsL [(⟨w.heap.size, 0, none⟩, .int .i64 a), (⟨w.heap.size, 1, none⟩, .int .i64 b), (⟨w.heap.size, 2, none⟩, .int .i64 c), (⟨w.heap.size, 3, none⟩, .int .i64 d), (⟨w.heap.size, 4, none⟩, .int .i64 e), (⟨w.heap.size, 5, none⟩, .int .i64 f), (⟨w.heap.size, 6, none⟩, .int .i64 g)]) (wr.drew) := ⟨a0, a1, a2, a3, a4, a5, a6, trivial⟩
            refine wpIn_region_ord [(0, true), (1, true), (2, true), (4, true), (5, true), (6, true), (3, false), (7, true), (8, true), (9, false), (10, true)] (CellsL [(⟨w.heap.size, 0, none⟩, .int .i64 a), (⟨w.heap.size, 1, none⟩, .int .i64 b), (⟨w.heap.size, 2, none⟩, .int .i64 c), (⟨w.heap.size, 3, none⟩, .int .i64 d), (⟨w.heap.size, 4, none⟩, .int .i64 e), (⟨w.heap.size, 5, none⟩, .int .i64 f), (⟨w.heap.size, 6, none⟩, .int .i64 g)]) (fun _ => trivial) rfl (by first | exact then_put rfl | (intro c d v a w h; cases d <;> exact h)) (by kernel_rfl) ?_
            simp only [List.length_cons, List.length_nil, Nat.reduceAdd, List.drop_succ_cons, List.drop_zero]
            iterate 6 (apply wpOrd_quiet rfl hS rfl; (intro w' hw'; obtain ⟨q0, q1, q2, q3, q4, q5, q6, _⟩ := hw'; go_simp; exact rfl); go_simp)
            refine wpOrd_move rfl rfl ?_
            go_simp
            refine ⟨trivial, (callsIn_wide.2 (hlkc _)).mono ?_⟩
            rintro en w9 ⟨rfl, hb9⟩
            replace hS := CellsL.keep hb9 hS ⟨l1, l1, l1, l1, l1, l1, l1, trivial⟩
            refine ⟨hS, ?_⟩
            go_simp
            iterate 2 (apply wpOrd_quiet rfl hS rfl; (intro w' hw'; obtain ⟨q0, q1, q2, q3, q4, q5, q6, _⟩ := hw'; go_simp; exact rfl); go_simp)
            refine wpOrd_move rfl rfl ?_
            go_simp
            refine ⟨trivial, (callsIn_wide.2 (hwk _)).mono ?_⟩
            rintro en w10 ⟨rfl, hb10⟩
            have m1 : w.heap.size < w9.heap.size := Nat.lt_of_lt_of_le l1 hb9.size
            replace hS := CellsL.keep hb10 hS ⟨m1, m1, m1, m1, m1, m1, m1, trivial⟩
            refine ⟨hS, ?_⟩
            go_simp
            iterate 1 (apply wpOrd_quiet rfl hS rfl; (intro w' hw'; obtain ⟨q0, q1, q2, q3, q4, q5, q6, _⟩ := hw'; go_simp; exact rfl); go_simp)
            refine wpOrd_nil ?_
            gi_wp2
            go_ret
            exact ⟨rfl, hb06.trans ((hb6r.drew.trans (hb9.trans (hb10.mono hb9.size) |>.mono hb6r.size)).mono hb06.size)⟩
    · have hk' : (checkF a b c d e f g != 0) = true := by simpa using hk
      generalize checkF a b c d e f g = er at hk hk' ⊢
      gi_wp2
      refine ⟨trivial, (callsIn_wide.2 (hwk _)).mono ?_⟩
      rintro en w3 ⟨rfl, hb3⟩
      gi_wp2
      go_ret
      exact ⟨rfl, hb02.trans (hb3.mono hb02.size)⟩
theorem fieldCap_calls (a b c d e f g X Z W D clear : Int) (rows : List (List V3)) (A : Option Addr) (cap : Nat) (w : World) (hr : RowsAt w w.heap.size A rows) (hl : lensOk rows) :
    Calls Try.prog 6 #[.agg #[.int .i64 a, .int .i64 b, .int .i64 c, .int .i64 d, .int .i64 e, .int .i64 f, .int .i64 g], .agg #[.int .i64 X, .int .i64 Z, .int .i64 W, .int .i64 D, .slice A rows.length cap], .int .i64 clear] w fun en w' => en = .returned (.bool true) ∧ Below w.heap.size w w' :=
  fcap_any a b c d e f g X Z W D clear rows A cap w hr hl
end Go.Proofs.Ytcdfojfafnecdaa
