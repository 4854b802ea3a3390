/- footpathlaw05.SoupOthers by a walk: it is true. No conditions but that the rows lie where they are said to lie. -/
import Derived.Test.YtpbpbijjkmjjjaaVa
import Derived.Laws.StructEq
import Derived.ChangeKeysEq
import Derived.Sort.CutIn
set_option linter.unusedSimpArgs false
set_option linter.unusedVariables false
namespace Go.Proofs.Ytpbpbijjkmjjjaa
open Go Go.RowKit Go.Sx
attribute [local go_sem] Oper.semAt_some
theorem ins_ok {W D : Int} {r : List T10} {t : T10} {k : Nat} (h : chk (oneF T10.id (triMay W D)) T10.id 0 r = true) (h1 : oneF T10.id (triMay W D) t = true) (h2 : ¬ ∃ x ∈ r, x.id = t.id) (h3 : PlaceAt r t.id k) : chk (oneF T10.id (triMay W D)) T10.id 0 (insAt r k t) = true := by
  refine insAt_chk h h3.1 h1 ?_ (fun m hm hk => h3.2.1 m hm hk) (fun m hm hk => ?_)
  · simp only [oneF, Bool.and_eq_true, decide_eq_true_eq] at h1
    omega
  · have a := h3.2.2 m hm hk
    have b : r[m].id ≠ t.id := fun e => h2 ⟨r[m], List.getElem_mem hm, e⟩
    omega
/-- What is found of an id in a rising row. -/
theorem found_in {W D : Int} {l : List T10} (h : chk (oneF T10.id (triMay W D)) T10.id 0 l = true) {x : T10} (hx : x ∈ l) {en : Ending}
    (hf : ((∀ y ∈ l, y.id ≠ x.id) ∧ ∃ t : T10, en = .returned (.tuple #[t.v, .bool false])) ∨ ∃ (k : Nat) (hk : k < l.length), l[k].id = x.id ∧ (∀ m (hm : m < l.length), m < k → l[m].id ≠ x.id) ∧ en = .returned (.tuple #[l[k].v, .bool true])) : en = .returned (.tuple #[x.v, .bool true]) := by
  rcases hf with ⟨hn, _⟩ | ⟨k, hk, e, _, rfl⟩
  · exact absurd rfl (hn x hx)
  · obtain ⟨j, hj, ej⟩ := List.mem_iff_getElem.1 hx
    have : k = j := chk_uniq h hk hj (by rw [e, ej])
    subst this
    rw [ej]
theorem infoV : (Try.prog.info? 30).map (fun i => (i.zero, i.size, i.bytes)) = some (some (.agg #[.int .i64 0, .int .i64 0, .int .i64 0]), 3, 24) := by kernel_rfl
set_option maxRecDepth 100000 in
theorem neq_tri (a b c d e f g h i j : Int) (w : World) : (binOp .neq 33 (.agg #[.int .i64 a, .int .i64 b, .int .i64 c, .int .i64 d, .int .i64 e, .int .i64 f, .int .i64 g, .int .i64 h, .int .i64 i, .int .i64 j]) (.agg #[.int .i64 a, .int .i64 b, .int .i64 c, .int .i64 d, .int .i64 e, .int .i64 f, .int .i64 g, .int .i64 h, .int .i64 i, .int .i64 j])).run Try.prog w = .ok (.bool false) w := by
  obtain ⟨i0, hi, _, hz, _⟩ := info_parts infoV
  have hcell : Try.prog.cellsOf 30 = 3 := by kernel_rfl
  have hr : List.range 3 = [0, 1, 2] := rfl
  have harr : (Op.equalIn 9999 31 (.agg #[.int .i64 b, .int .i64 c, .int .i64 d, .int .i64 e, .int .i64 f, .int .i64 g, .int .i64 h, .int .i64 i, .int .i64 j]) (.agg #[.int .i64 b, .int .i64 c, .int .i64 d, .int .i64 e, .int .i64 f, .int .i64 g, .int .i64 h, .int .i64 i, .int .i64 j])).run Try.prog w = .ok true w := by
    rw [show (9999 : Nat) = 9998 + 1 from rfl, run_equalIn_array w 9998 (t := 31) (e := 30) (n := 3) (i := i0) _ _ (by kernel_rfl) hi, hcell, hr]
    simp only [Op.eqItems]
    go_simp
  go_simp
set_option maxHeartbeats 8000000 in
set_option maxRecDepth 100000 in
theorem others_any (a b c d e f g : Int) (s : Soup) (t : T10) (i kind : Int) (A1 A2 A3 : Option Addr) (c1 c2 c3 : Nat) (w : World) (hs : SoupAt w w.heap.size A1 A2 A3 s) :
    Calls Try.prog 3 #[cfgv a b c d e f g, soupv A1 A2 A3 c1 c2 c3 s, t.v, .int .i64 i, .int .i64 kind] w fun en w' => en = .returned (.bool true) ∧ Below w.heap.size w w' := by
  obtain ⟨u1, eu1, bu1, ku1⟩ := alloc_step w (.cells #[.int .i64 a, .int .i64 b, .int .i64 c, .int .i64 d, .int .i64 e, .int .i64 f, .int .i64 g] 23)
  obtain ⟨u2, eu2, bu2, ku2⟩ := alloc_step u1 (.cells #[.slice A1 s.ts.length c1, .slice A2 s.bs.length c2, .slice A3 s.hs.length c3] 28)
  obtain ⟨u3, eu3, bu3, ku3⟩ := alloc_step u2 (.cells #[.int .i64 t.id, .int .i64 t.x0, .int .i64 t.y0, .int .i64 t.z0, .int .i64 t.x1, .int .i64 t.y1, .int .i64 t.z1, .int .i64 t.x2, .int .i64 t.y2, .int .i64 t.z2] 33)
  have hb2 := bu1.trans (bu2.mono bu1.size)
  have hb3 := hb2.trans (bu3.mono hb2.size)
  have b23 := bu2.trans (bu3.mono bu2.size)
  have k1 := (b23.block _ (lt_of_block ku1)).trans ku1
  have k2 := (bu3.block _ (lt_of_block ku2)).trans ku2
  obtain ⟨s0, s1, s2⟩ := box3 k2
  have hgr := fun w => great_any s A1 A2 A3 c1 c2 c3 w
  have hwk := fun w => wakes_any w
  obtain ⟨iT, hiT, hzT0, hzT1, hzT2⟩ := info_parts infoSoup
  obtain ⟨iR, hiR, hzR0, hzR1, hzR2⟩ := info_parts infoTri
  unfold soupv at hgr
  unfold cfgv soupv T10.v
  refine (callsIn_wide (n := 6)).1 ?_
  refine callsIn_of_wp Try.func3 rfl trivial ?_
  simp only [Try.ntmps3, List.size_toArray, List.length_cons, List.length_nil, Nat.reduceAdd, Nat.reduceSub, Array.replicate_succ, Array.replicate_zero, List.push_toArray, List.append_toArray, List.nil_append, List.cons_append]
  gi_wp2
  refine ⟨trivial, (callsIn_wide.2 (hgr _)).mono ?_⟩
  rintro en w4 ⟨rfl, hb4⟩
  have hbw4 := hb3.trans (hb4.mono hb3.size)
  clear s0 s1 s2 hgr
  have m1 := (hb4.block _ (lt_of_block k1)).trans k1
  have m2 := (hb4.block _ (lt_of_block k2)).trans k2
  have m3 := (hb4.block _ (lt_of_block ku3)).trans ku3
  cases hg : greatB s with
  | true =>
    gi_wp2
    refine ⟨trivial, (callsIn_wide.2 (hwk _)).mono ?_⟩
    rintro en w5 ⟨rfl, hb5⟩
    gi_wp2
    go_ret
    exact ⟨rfl, hbw4.trans (hb5.mono hbw4.size)⟩
  | false =>
    have hln := greatB_no hg
    have hl3 := greatB_no3 hg
    replace hg := Lib.hid hg
    obtain ⟨q0, q1, q2, q3, q4, q5, q6⟩ := box7 m1
    obtain ⟨s0, s1, s2⟩ := box3 m2
    obtain ⟨p0, p1, p2, p3, p4, p5, p6, p7, p8, p9⟩ := box10 m3
    have hs4 := (hs.below hbw4).more hbw4.size
    have had := addS_any a b c d e f g s t A1 A2 A3 c1 c2 c3 w4 hs4 hln
    unfold cfgv T10.v at had
    rw [show soupv A1 A2 A3 c1 c2 c3 s = .agg #[.slice A1 s.ts.length c1, .slice A2 s.bs.length c2, .slice A3 s.hs.length c3] from rfl] at had
    gi_wp2
    refine ⟨trivial, (callsIn_wide.2 had).mono ?_⟩
    rintro en w5 ⟨hout, hb5⟩
    have hbw5 := hbw4.trans (hb5.mono hbw4.size)
    clear q0 q1 q2 q3 q4 q5 q6 s0 s1 s2 p0 p1 p2 p3 p4 p5 p6 p7 p8 p9 had
    have n2 := (hb5.block _ (lt_of_block m2)).trans m2
    have n3 := (hb5.block _ (lt_of_block m3)).trans m3
    -- whatever came of it: the row's new soup, or none
    obtain ⟨x1, x2, x3, er, rfl, hx⟩ : ∃ x1 x2 x3 er, en = .returned (.tuple #[.agg #[x1, x2, x3], .int .i64 er]) ∧ (er ≠ 0 ∧ x1 = .slice none 0 0 ∧ x2 = .slice none 0 0 ∧ x3 = .slice none 0 0 ∨ er = 0 ∧ ∃ k B1 B2 B3 d1 d2 d3, chk (oneF T10.id (triMay f g)) T10.id 0 (insAt s.ts k t) = true ∧ (insAt s.ts k t).length = s.ts.length + 1 ∧ x1 = .slice B1 (s.ts.length + 1) d1 ∧ x2 = .slice B2 s.bs.length d2 ∧ x3 = .slice B3 s.hs.length d3 ∧ SoupAt w5 w5.heap.size B1 B2 B3 { s with ts := insAt s.ts k t }) := by
      rcases hout with ⟨h0, rfl⟩ | ⟨h0, ⟨er, hne, _, rfl⟩ | ⟨l', B1, B2, B3, d1, d2, d3, ⟨r1, r2, r3, k, hk, rfl⟩, rfl, hs5⟩⟩
      · exact ⟨_, _, _, _, rfl, .inl ⟨h0, rfl, rfl, rfl⟩⟩
      · exact ⟨_, _, _, _, rfl, .inl ⟨hne, rfl, rfl, rfl⟩⟩
      · have hlen : (insAt s.ts k t).length = s.ts.length + 1 := insAt_len hk
        refine ⟨_, _, _, _, rfl, .inr ⟨rfl, k, B1, B2, B3, d1, d2, d3, ins_ok (rows_t (soupC_zero h0).2).2 r1 r2 hk, hlen, ?_, rfl, rfl, hs5⟩⟩
        show Value.slice B1 (insAt s.ts k t).length d1 = _
        rw [hlen]
    obtain ⟨u6, eu6, bu6, ku6⟩ := alloc_step w5 (.cells #[.slice none 0 0, .slice none 0 0, .slice none 0 0] 28)
    obtain ⟨h1c, h2c, h3c⟩ : x1.oneCell' = true ∧ x2.oneCell' = true ∧ x3.oneCell' = true := by
      rcases hx with ⟨_, rfl, rfl, rfl⟩ | ⟨_, k, B1, B2, B3, d1, d2, d3, _, _, rfl, rfl, rfl, _⟩ <;> exact ⟨rfl, rfl, rfl⟩
    replace hx := Lib.hid hx
    clear hout
    gi_upto_if 32 with (refine wpListIn_plain rfl fun K' hK' => ?_; refine wpIn_store_boxg (.tmp 11) (.tmp 29) rfl hiT rfl rfl [x1, x2, x3] rfl hzT1.symm (by simp [h1c, h2c, h3c]) ku6 rfl ?_; intro w6 hk6 hg6; refine hK' _ _ ?_)
    have hb56 : Below w5.heap.size w5 w6 := below_own bu6 bu6.size hg6 (Nat.le_refl _)
    gi_cut [] from 400 (fun wc => Below w5.heap.size w5 wc)
    case first =>
      rcases hx.out with ⟨hne, _⟩ | ⟨rfl, k, B1, B2, B3, d1, d2, d3, hck, hlen, rfl, rfl, rfl, hs5⟩
      · have hne' : (er == 0) = false := by simpa using hne
        clear hx hne
        gi_wp2
        gi_meet
        case rel => exact hb56
      · have hs6 := ((hs5.below bu6).more bu6.size).apart ku6 hg6 |>.more hg6.size
        have o2 := (hg6.block _ (Nat.lt_of_lt_of_le (lt_of_block n2) bu6.size) (by have := lt_of_block n2; intro e; injection e with e; omega)).trans ((bu6.block _ (lt_of_block n2)).trans n2)
        have o3 := (hg6.block _ (Nat.lt_of_lt_of_le (lt_of_block n3) bu6.size) (by have := lt_of_block n3; intro e; injection e with e; omega)).trans ((bu6.block _ (lt_of_block n3)).trans n3)
        clear hx
        have hS : Soup.lens { s with ts := insAt s.ts k t } := ⟨by rw [hlen]; omega, hln.2.1, hln.2.2⟩
        have htri := fun (x : T10) (W : World) (h : Below w6.heap.size w6 W) (hm : x ∈ insAt s.ts k t) => (stri_any { s with ts := insAt s.ts k t } x.id B1 B2 B3 d1 d2 d3 W ((hs6.below h).more h.size) hS).mono (fun en w' hp => (⟨found_in hck hm hp.1, hp.2⟩ : en = .returned (.tuple #[x.v, .bool true]) ∧ Below W.heap.size W w'))
        have hsv : soupv B1 B2 B3 d1 d2 d3 { s with ts := insAt s.ts k t } = .agg #[.slice B1 (s.ts.length + 1) d1, .slice B2 s.bs.length d2, .slice B3 s.hs.length d3] := by unfold soupv; simp only [hlen]
        simp only [hsv] at htri
        obtain ⟨s0, s1, s2⟩ := box3 o2
        obtain ⟨p0, p1, p2, p3, p4, p5, p6, p7, p8, p9⟩ := box10 o3
        obtain ⟨y0, y1, y2⟩ := box3 hk6
        have ht0 := htri t w6 (Below.refl _ _) (insAt_mem.2 (.inl rfl))
        unfold T10.v at ht0
        have hw1 : IntKind.i64.wrap ((s.ts.length : Int) + 1) = ((s.ts.length + 1 : Nat) : Int) := by rw [IntKind.wrap_i64]; omega
        have hnq := fun w => neq_tri t.id t.x0 t.y0 t.z0 t.x1 t.y1 t.z1 t.x2 t.y2 t.z2 w
        gi_wp2
        refine ⟨trivial, (callsIn_wide.2 ht0).mono ?_⟩
        rintro en w7 ⟨rfl, hb7⟩
        obtain ⟨u8, eu8, bu8, ku8⟩ := alloc_step w7 (.cells #[.int .i64 t.id, .int .i64 t.x0, .int .i64 t.y0, .int .i64 t.z0, .int .i64 t.x1, .int .i64 t.y1, .int .i64 t.z1, .int .i64 t.x2, .int .i64 t.y2, .int .i64 t.z2] 33)
        have hb68 := hb7.trans (bu8.mono hb7.size)
        have q2 := (hb68.block _ (lt_of_block o2)).trans o2
        have q3 := (hb68.block _ (lt_of_block o3)).trans o3
        have q6 := (hb68.block _ (lt_of_block hk6)).trans hk6
        clear s0 s1 s2 p0 p1 p2 p3 p4 p5 p6 p7 p8 p9 y0 y1 y2 ht0
        obtain ⟨s0, s1, s2⟩ := box3 q2
        obtain ⟨p0, p1, p2, p3, p4, p5, p6, p7, p8, p9⟩ := box10 q3
        obtain ⟨y0, y1, y2⟩ := box3 q6
        obtain ⟨r0, r1, r2, r3, r4, r5, r6, r7, r8, r9⟩ := box10 ku8
        gi_wp2
        clear hnq s0 s1 s2 p0 p1 p2 p3 p4 p5 p6 p7 p8 p9 y0 y1 y2 r0 r1 r2 r3 r4 r5 r6 r7 r8 r9
        have hb58 := hb56.trans (hb68.mono hb56.size)
        have hbw8 := hbw5.trans (hb58.mono hbw5.size)
        gi_loopw [78] (fun x wr => ∃ j : Nat, x = .int .i64 j ∧ j ≤ s.ts.length ∧ Below u8.heap.size u8 wr) (fun x _ => s.ts.length - (intOf x).toNat)
        case atStart => exact ⟨0, rfl, Nat.zero_le _, Below.refl _ _⟩
        case round =>
          obtain ⟨j, rfl, hj, hlow⟩ := hrel
          have hbwr := hbw8.trans (hlow.mono hbw8.size)
          have hb6r := hb68.trans (hlow.mono hb68.size)
          by_cases hjn : j < s.ts.length
          · have hjn' : (j : Int) < (s.ts.length : Int) := by omega
            have hwj : IntKind.i64.wrap ((j : Int) + 1) = (j : Int) + 1 := by rw [IntKind.wrap_i64]; omega
            obtain ⟨ad, rfl, hba, e0, e1, e2, e3, e4, e5, e6, e7, e8, e9⟩ := T10.at_ (hs.t.below hbwr) rfl hjn
            generalize hPa : ad.add (j * 10) = Pa at hba e0 e1 e2 e3 e4 e5 e6 e7 e8 e9
            obtain ⟨o, ho⟩ : ∃ o, o = s.ts[j] := ⟨_, rfl⟩
            rw [← ho] at e0 e1 e2 e3 e4 e5 e6 e7 e8 e9
            have hom : o ∈ insAt s.ts k t := insAt_mem.2 (.inr (by rw [ho]; exact List.getElem_mem hjn))
            clear ho
            obtain ⟨id, x0, y0, z0, x1, y1, z1, x2, y2, z2⟩ := o
            simp only at e0 e1 e2 e3 e4 e5 e6 e7 e8 e9
            obtain ⟨v1, ev1, bv1, kv1⟩ := alloc_step wr (.cells #[.int .i64 id, .int .i64 x0, .int .i64 y0, .int .i64 z0, .int .i64 x1, .int .i64 y1, .int .i64 z1, .int .i64 x2, .int .i64 y2, .int .i64 z2] 33)
            have hb6v := hb6r.trans (bv1.mono hb6r.size)
            have q7 := (hb6v.block _ (lt_of_block hk6)).trans hk6
            obtain ⟨y0', y1', y2'⟩ := box3 q7
            obtain ⟨r0, r1, r2, r3, r4, r5, r6, r7, r8, r9⟩ := box10 kv1
            have ht0 := htri ⟨id, x0, y0, z0, x1, y1, z1, x2, y2, z2⟩ v1 hb6v hom
            unfold T10.v at ht0
            have hnq := fun w => neq_tri id x0 y0 z0 x1 y1 z1 x2 y2 z2 w
            gi_wp2
            refine ⟨trivial, (callsIn_wide.2 ht0).mono ?_⟩
            rintro en w9 ⟨rfl, hb9⟩
            clear r0 r1 r2 r3 r4 r5 r6 r7 r8 r9 y0' y1' y2' e0 e1 e2 e3 e4 e5 e6 e7 e8 e9 ht0
            obtain ⟨v2, ev2, bv2, kv2⟩ := alloc_step w9 (.cells #[.int .i64 id, .int .i64 x0, .int .i64 y0, .int .i64 z0, .int .i64 x1, .int .i64 y1, .int .i64 z1, .int .i64 x2, .int .i64 y2, .int .i64 z2] 33)
            have hb9v := hb9.trans (bv2.mono hb9.size)
            have q8 := (hb9v.block _ (lt_of_block kv1)).trans kv1
            obtain ⟨r0, r1, r2, r3, r4, r5, r6, r7, r8, r9⟩ := box10 q8
            obtain ⟨t0, t1, t2, t3, t4, t5, t6, t7, t8, t9⟩ := box10 kv2
            gi_wp2
            go_roundw
            case rel => exact ⟨j + 1, by go_num, by omega, hlow.trans (bv1.trans (hb9v.mono bv1.size) |>.mono hlow.size)⟩
            case measure => simp [intOf]; omega
          · obtain rfl : j = s.ts.length := by omega
            gi_wp2
            gi_meet
            case rel => exact hb58.trans (hlow.mono hb58.size)
    case rest =>
      have hbwc := hbw5.trans (hcut.mono hbw5.size)
      have kb := (hcut.block _ (lt_of_block n2)).trans n2
      have hdr := sdrop_any s kind i A1 A2 A3 c1 c2 c3 wc ((hs.below hbwc).more hbwc.size) hln
      rw [show soupv A1 A2 A3 c1 c2 c3 s = .agg #[.slice A1 s.ts.length c1, .slice A2 s.bs.length c2, .slice A3 s.hs.length c3] from rfl] at hdr
      clear hx
      obtain ⟨L1, hL1⟩ : ∃ L1, s.ts.length = L1 := ⟨_, rfl⟩
      obtain ⟨L2, hL2⟩ : ∃ L2, s.bs.length = L2 := ⟨_, rfl⟩
      obtain ⟨L3, hL3⟩ : ∃ L3, s.hs.length = L3 := ⟨_, rfl⟩
      have hdr2 : Calls Try.prog 9 #[.agg #[.slice A1 s.ts.length c1, .slice A2 s.bs.length c2, .slice A3 s.hs.length c3], .int .i64 kind, .int .i64 i] wc fun en w' =>
          ((∃ er, er ≠ 0 ∧ en = .returned (.tuple #[.agg #[.slice none 0 0, .slice none 0 0, .slice none 0 0], .int .i64 er])) ∨ ∃ m1 m2 m3 B1 B2 B3 d1 d2 d3, m1 + m2 + m3 + 1 = L1 + L2 + L3 ∧ en = .returned (.tuple #[.agg #[.slice B1 m1 d1, .slice B2 m2 d2, .slice B3 m3 d3], .int .i64 0])) ∧ Below wc.heap.size wc w' := by
        refine hdr.mono ?_
        rintro en w' ⟨h, hb⟩
        refine ⟨?_, hb⟩
        rcases h with ⟨er, hne, _, rfl⟩ | ⟨_, l', B1, B2, B3, d1, d2, d3, ⟨k, hk, _, _, rfl⟩, rfl, _⟩ | ⟨_, l', B1, B2, B3, d1, d2, d3, ⟨k, hk, _, _, rfl⟩, rfl, _⟩ | ⟨_, l', B1, B2, B3, d1, d2, d3, ⟨k, hk, _, _, rfl⟩, rfl, _⟩
        · exact .inl ⟨er, hne, rfl⟩
        · exact .inr ⟨s.ts.length - 1, s.bs.length, s.hs.length, B1, B2, B3, d1, d2, d3, by omega, by show Ending.returned (.tuple #[.agg #[.slice B1 (s.ts.take k ++ s.ts.drop (k + 1)).length d1, .slice B2 s.bs.length d2, .slice B3 s.hs.length d3], .int .i64 0]) = _; rw [drop_len hk]⟩
        · exact .inr ⟨s.ts.length, s.bs.length - 1, s.hs.length, B1, B2, B3, d1, d2, d3, by omega, by show Ending.returned (.tuple #[.agg #[.slice B1 s.ts.length d1, .slice B2 (s.bs.take k ++ s.bs.drop (k + 1)).length d2, .slice B3 s.hs.length d3], .int .i64 0]) = _; rw [drop_len hk]⟩
        · exact .inr ⟨s.ts.length, s.bs.length, s.hs.length - 1, B1, B2, B3, d1, d2, d3, by omega, by show Ending.returned (.tuple #[.agg #[.slice B1 s.ts.length d1, .slice B2 s.bs.length d2, .slice B3 (s.hs.take k ++ s.hs.drop (k + 1)).length d3], .int .i64 0]) = _; rw [drop_len hk]⟩
      clear hdr
      rw [hL1, hL2, hL3] at hdr2 kb hl3
      obtain ⟨s0, s1, s2⟩ := box3 kb
      clear hL1 hL2 hL3
      gi_wp2
      refine ⟨trivial, (callsIn_wide.2 hdr2).mono ?_⟩
      rintro en w9 ⟨hout, hb9⟩
      have hbw9 := hbwc.trans (hb9.mono hbwc.size)
      have kb9 := (hb9.block _ (lt_of_block kb)).trans kb
      clear s0 s1 s2 hdr2
      obtain ⟨s0, s1, s2⟩ := box3 kb9
      have ls := lt_of_block kb9
      rcases hout with ⟨e2, hne, rfl⟩ | ⟨m1, m2, m3, B1, B2, B3, d1, d2, d3, hm, rfl⟩
      · have hne' : (e2 != 0) = true := by simpa using hne
        clear hne
        obtain ⟨v1, ev1, bv1, kv1⟩ := alloc_step w9 (.cells #[.slice none 0 0, .slice none 0 0, .slice none 0 0] 28)
        gi_wp2_with (refine wpListIn_plain rfl fun K' hK' => ?_; refine wpIn_store_boxg (.tmp 19) (.tmp 102) rfl hiT rfl rfl [.slice none 0 0, .slice none 0 0, .slice none 0 0] rfl hzT1.symm (by simp [Value.oneCell']) kv1 rfl ?_; intro w11 hk11 hg11; obtain ⟨y0, y1, y2⟩ := box3 hk11; refine hK' _ _ ?_)
        have hb11 : Below w.heap.size w w11 := below_own (hbw9.trans (bv1.mono hbw9.size)) (Nat.le_trans hbw9.size bv1.size) hg11 hbw9.size
        refine ⟨trivial, (callsIn_wide.2 (hwk _)).mono ?_⟩
        rintro en w10 ⟨rfl, hb10⟩
        gi_wp2
        go_ret
        exact ⟨rfl, hb11.trans (hb10.mono hb11.size)⟩
      · obtain ⟨v1, ev1, bv1, kv1⟩ := alloc_step w9 (.cells #[.slice B1 m1 d1, .slice B2 m2 d2, .slice B3 m3 d3] 28)
        obtain ⟨y0, y1, y2⟩ := box3 kv1
        have t0 := (bv1.cell (p := ⟨u1.heap.size, 0, none⟩) ls).trans s0
        have t1 := (bv1.cell (p := ⟨u1.heap.size, 1, none⟩) ls).trans s1
        have t2 := (bv1.cell (p := ⟨u1.heap.size, 2, none⟩) ls).trans s2
        have hA : IntKind.i64.wrap ((m1 : Int) + m2) = (m1 : Int) + m2 := by rw [IntKind.wrap_i64]; omega
        have hB : IntKind.i64.wrap ((m1 : Int) + m2 + m3) = (m1 : Int) + m2 + m3 := by rw [IntKind.wrap_i64]; omega
        have hC : IntKind.i64.wrap ((L1 : Int) + L2) = (L1 : Int) + L2 := by rw [IntKind.wrap_i64]; omega
        have hD : IntKind.i64.wrap ((L1 : Int) + L2 + L3) = (L1 : Int) + L2 + L3 := by rw [IntKind.wrap_i64]; omega
        have hE : IntKind.i64.wrap ((L1 : Int) + L2 + L3 - 1) = (L1 : Int) + L2 + L3 - 1 := by rw [IntKind.wrap_i64]; omega
        have hq : ((m1 : Int) + m2 + m3 == (L1 : Int) + L2 + L3 - 1) = true := by simp; omega
        clear hm
        gi_wp2
        refine ⟨trivial, (callsIn_wide.2 (hwk _)).mono ?_⟩
        rintro en w10 ⟨rfl, hb10⟩
        gi_wp2
        go_ret
        exact ⟨rfl, (hbw9.trans (bv1.mono hbw9.size)).trans (hb10.mono (hbw9.trans (bv1.mono hbw9.size)).size)⟩
theorem soupOthers_calls (a b c d e f g : Int) (s : Soup) (t : T10) (i kind : Int) (A1 A2 A3 : Option Addr) (c1 c2 c3 : Nat) (w : World) (hs : SoupAt w w.heap.size A1 A2 A3 s) :
    Calls Try.prog 3 #[.agg #[.int .i64 a, .int .i64 b, .int .i64 c, .int .i64 d, .int .i64 e, .int .i64 f, .int .i64 g], soupv A1 A2 A3 c1 c2 c3 s, .agg #[.int .i64 t.id, .int .i64 t.x0, .int .i64 t.y0, .int .i64 t.z0, .int .i64 t.x1, .int .i64 t.y1, .int .i64 t.z1, .int .i64 t.x2, .int .i64 t.y2, .int .i64 t.z2], .int .i64 i, .int .i64 kind] w fun en w' => en = .returned (.bool true) ∧ Below w.heap.size w w' :=
  others_any a b c d e f g s t i kind A1 A2 A3 c1 c2 c3 w hs
end Go.Proofs.Ytpbpbijjkmjjjaa
