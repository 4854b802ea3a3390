/- Several texts in one: Fv Ha Hc Hf Hi Hg. -/
import Derived.Test.YtcdfojfafnecdaaFp
import Derived.Sort.CutIn
/- footpathref14.Cap, Same of equal rows, Fits of rows that fit; footpathref01.Ints of equal rows: by walks. No conditions but that the rows lie where they are said to lie. -/
namespace Go.Proofs.Ytcdfojfafnecdaa
open Go Go.RowKit Go.Sx Go.Mp
attribute [local go_sem] Oper.semAt_some
set_option maxHeartbeats 1000000 in
set_option maxRecDepth 100000 in
theorem rcap_any (a b c d e f g : Int) (w : World) : Calls Try.prog 14 #[cfgv a b c d e f g] w fun en w' => en = .returned (.int .i64 (capF a b c d e f g)) ∧ Below w.heap.size w w' := by
  have hba : Below w.heap.size w (w.alloc (.cells #[.int .i64 a, .int .i64 b, .int .i64 c, .int .i64 d, .int .i64 e, .int .i64 f, .int .i64 g] 23)) := (Below.refl _ _).alloc (Nat.le_refl _) _
  have hc := rcfg_any a b c d e f g (w.alloc (.cells #[.int .i64 a, .int .i64 b, .int .i64 c, .int .i64 d, .int .i64 e, .int .i64 f, .int .i64 g] 23))
  have hB := World.alloc_heap_new w (.cells #[.int .i64 a, .int .i64 b, .int .i64 c, .int .i64 d, .int .i64 e, .int .i64 f, .int .i64 g] 23)
  unfold cfgv at hc ⊢
  unfold capF
  by_cases hk : checkF a b c d e f g = 0
  · have ha := check_clear hk
    have e1 : IntKind.i64.wrap (a + 3) = a + 3 := by rw [IntKind.wrap_i64]; omega
    rw [if_pos hk]
    rw [hk] at hc
    refine (callsIn_wide (n := 6)).1 ?_
    refine callsIn_of_wp Try.func14 rfl trivial ?_
    simp only [Try.ntmps14, List.size_toArray, List.length_cons, List.length_nil, Nat.reduceAdd, Nat.reduceSub, Array.replicate_succ, Array.replicate_zero, List.push_toArray, List.append_toArray, List.nil_append, List.cons_append]
    gi_wp2_with (refine ⟨trivial, ?_⟩; gi_at_call 19; refine (callsIn_wide.2 hc).mono ?_; rintro en w3 ⟨rfl, hb3⟩; have c0 : w3.cell? ⟨w.heap.size, 0, none⟩ = some (.int .i64 a) := cell_of ((hb3.block _ (lt_of_block hB)).trans hB) rfl)
    go_ret
    exact ⟨rfl, hba.trans (hb3.mono hba.size)⟩
  · have hne : (checkF a b c d e f g != 0) = true := by simpa using hk
    rw [if_neg hk]
    generalize checkF a b c d e f g = er at hc hne hk
    refine (callsIn_wide (n := 6)).1 ?_
    refine callsIn_of_wp Try.func14 rfl trivial ?_
    simp only [Try.ntmps14, List.size_toArray, List.length_cons, List.length_nil, Nat.reduceAdd, Nat.reduceSub, Array.replicate_succ, Array.replicate_zero, List.push_toArray, List.append_toArray, List.nil_append, List.cons_append]
    gi_wp2_with (refine ⟨trivial, ?_⟩; gi_at_call 19; refine (callsIn_wide.2 hc).mono ?_; rintro en w3 ⟨rfl, hb3⟩)
    go_ret
    exact ⟨rfl, hba.trans (hb3.mono hba.size)⟩
set_option maxHeartbeats 1000000 in
set_option maxRecDepth 100000 in
theorem rints_any (q : Nat) (f : Nat → Int) (A B : Option Addr) (ca cb : Nat) (w : World) (hq : q ≤ 100000) (hA : Reads w w.heap.size 1 A q (intRow q f)) (hB : Reads w w.heap.size 1 B q (intRow q f)) :
    Calls Try.prog 23 #[.slice A q ca, .slice B q cb] w fun en w' => en = .returned (.bool true) ∧ Below w.heap.size w w' := by
  refine (callsIn_wide (n := 6)).1 ?_
  refine callsIn_of_wp Try.func23 rfl trivial ?_
  simp only [Try.ntmps23, List.size_toArray, List.length_cons, List.length_nil, Nat.reduceAdd, Nat.reduceSub, Array.replicate_succ, Array.replicate_zero, List.push_toArray, List.append_toArray, List.nil_append, List.cons_append]
  gi_wp2
  gi_loopw [5] (fun x wr => ∃ k : Nat, x = .int .i64 k ∧ k ≤ q ∧ Below w.heap.size w wr) (fun x _ => q - (intOf x).toNat)
  case atStart => exact ⟨0, rfl, Nat.zero_le _, Below.refl _ _⟩
  case round =>
    obtain ⟨k, rfl, hk, hlow⟩ := hrel
    by_cases hkn : k < q
    · have hkn' : (k : Int) < (q : Int) := by omega
      have hwk : IntKind.i64.wrap ((k : Int) + 1) = (k : Int) + 1 := by rw [IntKind.wrap_i64]; omega
      obtain ⟨a, u, rfl, hba, hu, hc⟩ := (hA.below hlow).at_ hkn
      obtain ⟨b, v, rfl, hbb, hv, hd⟩ := (hB.below hlow).at_ hkn
      rw [intRow_get hkn] at hu hv
      injection hu with hu
      injection hv with hv
      subst hu; subst hv
      generalize f k = x at hc hd
      gi_wp2
      have hS : (CellsL [(a.add k, .int .i64 x), (b.add k, .int .i64 x)]) (wr.drew) := ⟨hc, hd, trivial⟩
      refine wpIn_region_ord [(0, true), (1, true), (2, true), (3, true), (4, true), (5, true), (6, true), (7, true)] (CellsL [(a.add k, .int .i64 x), (b.add k, .int .i64 x)]) (fun _ => trivial) rfl (by first | exact then_put rfl | (intro c d v a w h; cases d <;> exact h)) (by kernel_rfl) ?_
      simp only [List.length_cons, List.length_nil, Nat.reduceAdd, List.drop_succ_cons, List.drop_zero]
      iterate 8 (apply wpOrd_quiet rfl hS rfl; (intro w' hw'; obtain ⟨q0, q1, _⟩ := hw'; go_simp; exact rfl); go_simp)
      refine wpOrd_nil ?_
      clear hS
      gi_wp2
      go_roundw
      case rel => exact ⟨k + 1, by go_num, by omega, hlow.drew⟩
      case measure => simp [intOf]; omega
    · obtain rfl : k = q := by omega
      gi_wp2
      go_ret
      exact ⟨rfl, hlow⟩
set_option maxHeartbeats 1000000 in
set_option maxRecDepth 100000 in
theorem rsame_any (n : Nat) (len : Nat → Nat) (f : Nat → Nat → Int) (A B : Option Addr) (ca cb : Nat) (w : World) (hn : n ≤ 4096) (h8 : ∀ i, len i ≤ 8) (hA : IntsAt w w.heap.size A n len f) (hB : IntsAt w w.heap.size B n len f) :
    Calls Try.prog 12 #[.slice A n ca, .slice B n cb] w fun en w' => en = .returned (.bool true) ∧ Below w.heap.size w w' := by
  refine (callsIn_wide (n := 6)).1 ?_
  refine callsIn_of_wp Try.func12 rfl trivial ?_
  simp only [Try.ntmps12, List.size_toArray, List.length_cons, List.length_nil, Nat.reduceAdd, Nat.reduceSub, Array.replicate_succ, Array.replicate_zero, List.push_toArray, List.append_toArray, List.nil_append, List.cons_append]
  gi_wp2
  gi_loopw [5] (fun x wr => ∃ i : Nat, x = .int .i64 i ∧ i ≤ n ∧ Below w.heap.size w wr) (fun x _ => n - (intOf x).toNat)
  case atStart => exact ⟨0, rfl, Nat.zero_le _, Below.refl _ _⟩
  case round =>
    obtain ⟨i, rfl, hi, hlow⟩ := hrel
    by_cases hin : i < n
    · have hin' : (i : Int) < (n : Int) := by omega
      have hwi : IntKind.i64.wrap ((i : Int) + 1) = (i : Int) + 1 := by rw [IntKind.wrap_i64]; omega
      obtain ⟨a, Ai, ci, rfl, hba, hc, hra⟩ := (hA.below hlow).at_ hin
      obtain ⟨b, Bi, di, rfl, hbb, hd, hrb⟩ := (hB.below hlow).at_ hin
      have hl8 := h8 i
      have hs := hlow.size
      have hin1 := rints_any (len i) (f i) Ai Bi ci di wr.drew (by omega) (hra.more hs) (hrb.more hs)
      generalize len i = li at hc hd hra hrb hl8 hin1
      gi_wp2
      have hS : (CellsL [(a.add i, .slice Ai li ci), (b.add i, .slice Bi li di)]) (wr.drew) := ⟨hc, hd, trivial⟩
      refine wpIn_region_ord [(0, true), (1, true), (2, true), (3, true), (4, true), (5, true), (6, true), (7, true), (8, false)] (CellsL [(a.add i, .slice Ai li ci), (b.add i, .slice Bi li di)]) (fun _ => trivial) rfl (by first | exact then_put rfl | (intro c d v a w h; cases d <;> exact h)) (by kernel_rfl) ?_
      simp only [List.length_cons, List.length_nil, Nat.reduceAdd, List.drop_succ_cons, List.drop_zero]
      iterate 8 (apply wpOrd_quiet rfl hS rfl; (intro w' hw'; obtain ⟨q0, q1, _⟩ := hw'; go_simp; exact rfl); go_simp)
      refine wpOrd_move rfl rfl ?_
      go_simp
      refine ⟨trivial, (callsIn_wide.2 hin1).mono ?_⟩
      rintro en w3 ⟨rfl, hb3⟩
      replace hS := CellsL.keep hb3 hS ⟨by rw [block_of_add]; show _ < wr.heap.size; omega, by rw [block_of_add]; show _ < wr.heap.size; omega, trivial⟩
      refine ⟨hS, ?_⟩
      go_simp
      refine wpOrd_nil ?_
      clear hS
      gi_wp2
      go_roundw
      case rel => exact ⟨i + 1, by go_num, by omega, hlow.drew.trans (hb3.mono hs)⟩
      case measure => simp [intOf]; omega
    · obtain rfl : i = n := by omega
      gi_wp2
      go_ret
      exact ⟨rfl, hlow⟩
theorem rsame_nil (w : World) : Calls Try.prog 12 #[.slice none 0 0, .slice none 0 0] w fun en w' => en = .returned (.bool true) ∧ Below w.heap.size w w' :=
  rsame_any 0 (fun _ => 0) (fun _ _ => 0) none none 0 0 w (by omega) (fun _ => by omega) ⟨[], Reads.none_, fun i hi => by omega⟩ ⟨[], Reads.none_, fun i hi => by omega⟩
set_option maxHeartbeats 2000000 in
set_option maxRecDepth 100000 in
theorem rfits_any (X Z W D : Int) (rows : List (List V3)) (A : Option Addr) (cap : Nat) (f : Nat → Nat → Int) (hf : ∀ i k, 0 ≤ f i k) (B : Option Addr) (cb : Nat) (w : World) (hr : RowsAt w w.heap.size A rows) (ho : gridOk X Z W D rows) (hI : IntsAt w w.heap.size B rows.length (lenF rows) f) :
    Calls Try.prog 16 #[gridv X Z W D A rows.length cap, .slice B rows.length cb] w fun en w' => en = .returned (.bool true) ∧ Below w.heap.size w w' := by
  have hl := lensOk_g ho
  have hn4 := rows_len ho
  have h8 := lenF_le ho
  obtain ⟨u1, eu1, bu1, ku1⟩ := alloc_step w (.cells #[.int .i64 X, .int .i64 Z, .int .i64 W, .int .i64 D, .slice A rows.length cap] 26)
  have hch := rcheck_any X Z W D rows A cap u1 ((hr.below bu1).more bu1.size) hl
  obtain ⟨g0, g1, g2, g3, g4⟩ := box5 ku1
  unfold gridv at hch ⊢
  refine (callsIn_wide (n := 6)).1 ?_
  refine callsIn_of_wp Try.func16 rfl trivial ?_
  simp only [Try.ntmps16, List.size_toArray, List.length_cons, List.length_nil, Nat.reduceAdd, Nat.reduceSub, Array.replicate_succ, Array.replicate_zero, List.push_toArray, List.append_toArray, List.nil_append, List.cons_append]
  gi_wp2
  refine ⟨trivial, (callsIn_wide.2 hch).mono ?_⟩
  rintro en w2 ⟨⟨er, rfl, hei⟩, hb2⟩
  obtain rfl : er = 0 := hei.2 ho
  clear hei hch g0 g1 g2 g3 g4
  have k1 := (hb2.block _ (lt_of_block ku1)).trans ku1
  obtain ⟨g0, g1, g2, g3, g4⟩ := box5 k1
  have hb02 := bu1.trans (hb2.mono bu1.size)
  have hr2 := (hr.below hb02).more hb02.size
  have hI2 := (hI.below hb02).more hb02.size
  gi_wp2
  gi_loopw [5] (fun x wr => ∃ i : Nat, x = .int .i64 i ∧ i ≤ rows.length ∧ Below w2.heap.size w2 wr) (fun x _ => rows.length - (intOf x).toNat)
  case atStart => exact ⟨0, rfl, Nat.zero_le _, Below.refl _ _⟩
  case round =>
    clear g0 g1 g2 g3 g4
    obtain ⟨i, rfl, hi, hlow⟩ := hrel
    obtain ⟨g0, g1, g2, g3, g4⟩ := box5 ((hlow.block _ (lt_of_block k1)).trans k1)
    by_cases hin : i < rows.length
    · have hin' : (i : Int) < (rows.length : Int) := by omega
      have hwi : IntKind.i64.wrap ((i : Int) + 1) = (i : Int) + 1 := by rw [IntKind.wrap_i64]; omega
      obtain ⟨a, Ai, ci, rfl, hba, hc, hra⟩ := (hr2.below hlow).at_ hin
      obtain ⟨b, Bi, di, rfl, hbb, hd, hrb⟩ := (hI2.below hlow).at_ hin
      have hlf : rows[i].length = lenF rows i := by simp [lenF, List.getD, hin]
      rw [hlf] at hc
      have hl8 := h8 i
      generalize lenF rows i = li at hc hd hrb hl8
      have hos := hlow.size
      gi_wp2
      have hS : (CellsL [(b.add i, .slice Bi li di), (⟨w.heap.size, 4, none⟩, .slice (some a) rows.length cap), (a.add i, .slice Ai li ci)]) (wr.drew) := ⟨hd, g4, hc, trivial⟩
      refine wpIn_region_ord [(0, true), (1, true), (2, true), (3, true), (4, true), (5, true), (6, true), (7, true), (8, true), (9, true), (10, true)] (CellsL [(b.add i, .slice Bi li di), (⟨w.heap.size, 4, none⟩, .slice (some a) rows.length cap), (a.add i, .slice Ai li ci)]) (fun _ => trivial) rfl (by first | exact then_put rfl | (intro c d v a w h; cases d <;> exact h)) (by kernel_rfl) ?_
      simp only [List.length_cons, List.length_nil, Nat.reduceAdd, List.drop_succ_cons, List.drop_zero]
      iterate 11 (apply wpOrd_quiet rfl hS rfl; (intro w' hw'; obtain ⟨q0, q1, q2, _⟩ := hw'; go_simp; exact rfl); go_simp)
      refine wpOrd_nil ?_
      clear hS g0 g1 g2 g3 g4
      have hd' : wr.drew.cell? (b.add i) = some (.slice Bi li di) := hd
      have hrb' := hrb.drew
      have hlow' : Below w2.heap.size w2 wr.drew := hlow.drew
      clear hd hrb hlow hc hra
      generalize wr.drew = wo at hd' hrb' hlow' ⊢
      gi_wp2
      gi_loopw [6] (fun x wt => ∃ k : Nat, x = .int .i64 k ∧ k ≤ li ∧ Below wo.heap.size wo wt) (fun x _ => li - (intOf x).toNat)
      case atStart => exact ⟨0, rfl, Nat.zero_le _, Below.refl _ _⟩
      case round =>
        obtain ⟨k, rfl, hkl, hlow2⟩ := hrel
        have hos' := hlow'.size
        have hd2 := (hlow2.cell (p := b.add i) (by rw [block_of_add]; omega)).trans hd'
        by_cases hkn : k < li
        · have hkn' : (k : Int) < (li : Int) := by omega
          have hwk : IntKind.i64.wrap ((k : Int) + 1) = (k : Int) + 1 := by rw [IntKind.wrap_i64]; omega
          obtain ⟨bb, v, rfl, hbbb, hv, he⟩ := ((hrb'.more hos').below hlow2).at_ hkn
          rw [intRow_get hkn] at hv
          injection hv with hv
          subst hv
          have hp := hf i k
          have hp' : ¬ f i k < 0 := by omega
          generalize f i k = x at he hp hp'
          gi_wp2
          go_roundw
          case rel => exact ⟨k + 1, by go_num, by omega, hlow2⟩
          case measure => simp [intOf]; omega
        · obtain rfl : k = li := by omega
          gi_wp2
          go_roundw
          case rel => exact ⟨i + 1, by go_num, by omega, hlow'.trans (hlow2.mono hos')⟩
          case measure => simp [intOf]; omega
    · obtain rfl : i = rows.length := by omega
      gi_wp2
      go_ret
      exact ⟨rfl, hb02.trans (hlow.mono hb02.size)⟩
end Go.Proofs.Ytcdfojfafnecdaa

/- The eight are mutual, and clearances of the eight differ by 1 at most: plain. No conditions. -/
namespace Go.Proofs.Ytcdfojfafnecdaa
open Go Go.RowKit Go.Sx Go.Mp
section
variable {X Z D : Int} {W : Nat} {rows : List (List V3)} {lk : V3 → V3 → Bool}
theorem step_back (ho : gridOk X Z W D rows) (hs : ∀ a b, lk a b = lk b a)
    (hu : ∀ (x z : Int) (a : V3) (i j : Nat) (f g : V3), (colOf X Z W D rows x z)[i]? = some f → (colOf X Z W D rows x z)[j]? = some g → lk a f = true → lk a g = true → i = j)
    {s t : Nat × Nat} {d : Nat} (hc : s.1 < rows.length) (h : stepS W (ttF lk X Z W D rows) s d = some t) : stepS W (ttF lk X Z W D rows) t ((d + 2) % 4) = some s := by
  obtain ⟨c, k⟩ := s
  unfold stepS at h
  cases hd : stepD d with
  | none => rw [hd] at h; cases h
  | some p =>
    obtain ⟨dx, dz⟩ := p
    rw [hd] at h
    cases ht : ttF lk X Z W D rows c k d with
    | none => simp only [ht] at h; cases h
    | some m =>
      simp only [ht] at h
      injection h with h
      subst h
      have ht' : toF lk (colOf X Z W D rows) (X + (c : Int) % W) (Z + (c : Int) / W) k d = some m := ht
      have hb := toF_back hs hu hd ht'
      obtain ⟨_, a, f, h1, h2, _⟩ := toF_some lk (colOf X Z W D rows) hd ht'
      obtain ⟨g1, g2, g3, g4, g5, g6, g7⟩ := colOf_spot ho hc h2
      have hW : (0 : Int) < W := by omega
      obtain ⟨c', hc'⟩ : ∃ c' : Nat, (c : Int) + dz * W + dx = c' := ⟨((c : Int) + dz * W + dx).toNat, by omega⟩
      have e1 := Int.mul_ediv_add_emod (c : Int) W
      have ec : (c' : Int) = ((c : Int) % W + dx) + (W : Int) * ((c : Int) / W + dz) := by rw [← hc', Int.mul_add, Int.mul_comm (W : Int) dz]; omega
      have em : (c' : Int) % W = (c : Int) % W + dx := by rw [ec, Int.add_mul_emod_self_left, Int.emod_eq_of_lt g4 g5]
      have ed : (c' : Int) / W = (c : Int) / W + dz := by rw [ec, Int.add_mul_ediv_left _ _ (by omega), Int.ediv_eq_zero_of_lt g4 g5]; omega
      have hdd : (((d + 2) % 4 : Nat) : Int) = ((d : Int) + 2) % 4 := by omega
      have hopp := (stepD_opp hd).1
      unfold stepS
      rw [hdd, hopp, hc', Int.toNat_natCast]
      have hb2 : ttF lk X Z W D rows c' m ((d + 2) % 4) = some k := by
        unfold ttF
        rw [hdd, em, ed, ← Int.add_assoc, ← Int.add_assoc, hb, Int.toNat_natCast]
      simp only [hb2]
      rw [show (c' : Int) + -dz * W + -dx = (c : Int) by rw [← hc', Int.neg_mul]; omega, Int.toNat_natCast]
theorem eightD_some {tt : Nat → Nat → Nat → Option Nat} {s : Nat × Nat} {d : Nat} {m : List (Nat × Nat)} (h : eightD W tt s d = some m) :
    ∃ a b x, stepS W tt s d = some a ∧ stepS W tt s ((d + 1) % 4) = some b ∧ stepS W tt a ((d + 1) % 4) = some x ∧ stepS W tt b d = some x ∧ m = [a, x] := by
  unfold eightD at h
  cases hA : stepS W tt s d with
  | none => rw [hA] at h; cases h
  | some a =>
    cases hB : stepS W tt s ((d + 1) % 4) with
    | none => rw [hA, hB] at h; cases h
    | some b =>
      rw [hA, hB] at h
      simp only at h
      cases hX : stepS W tt a ((d + 1) % 4) with
      | none => rw [hX] at h; cases h
      | some x =>
        cases hY : stepS W tt b d with
        | none => rw [hX, hY] at h; cases h
        | some y =>
          rw [hX, hY] at h
          simp only at h
          split at h
          · rename_i e
            injection h with h
            exact ⟨a, b, x, rfl, rfl, hX, by rw [hY, e], h.symm⟩
          · cases h
theorem eightN_part {tt : Nat → Nat → Nat → Option Nat} {s : Nat × Nat} : ∀ {q : Nat} {l : List (Nat × Nat)}, eightN W tt s q = some l → (∀ d, d < q → ∃ m, eightD W tt s d = some m ∧ ∀ t ∈ m, t ∈ l) ∧ (∀ t ∈ l, ∃ d m, d < q ∧ eightD W tt s d = some m ∧ t ∈ m)
  | 0, l, h => by injection h with h; subst h; exact ⟨fun d hd => by omega, fun t ht => by cases ht⟩
  | q + 1, l, h => by
    rw [eightN] at h
    cases h1 : eightN W tt s q with
    | none => rw [h1] at h; cases h
    | some l1 =>
      cases h2 : eightD W tt s q with
      | none => rw [h1, h2] at h; cases h
      | some m =>
        rw [h1, h2] at h
        injection h with h
        subst h
        obtain ⟨i1, i2⟩ := eightN_part h1
        refine ⟨fun d hd => ?_, fun t ht => ?_⟩
        · by_cases hq : d = q
          · subst hq; exact ⟨m, h2, fun t ht => List.mem_append_right _ ht⟩
          · obtain ⟨m', h3, h4⟩ := i1 d (by omega)
            exact ⟨m', h3, fun t ht => List.mem_append_left _ (h4 t ht)⟩
        · rcases List.mem_append.1 ht with ht | ht
          · obtain ⟨d, m', h3, h4, h5⟩ := i2 t ht
            exact ⟨d, m', by omega, h4, h5⟩
          · exact ⟨q, m, by omega, h2, ht⟩
theorem eight_mutual (ho : gridOk X Z W D rows) (hs : ∀ a b, lk a b = lk b a)
    (hu : ∀ (x z : Int) (a : V3) (i j : Nat) (f g : V3), (colOf X Z W D rows x z)[i]? = some f → (colOf X Z W D rows x z)[j]? = some g → lk a f = true → lk a g = true → i = j)
    {s t : Nat × Nat} (hc : InG rows.length (lenF rows) s) {l l' : List (Nat × Nat)} (h : eightF W (ttF lk X Z W D rows) s = some l) (ht : t ∈ l) (h' : eightF W (ttF lk X Z W D rows) t = some l') : s ∈ l' := by
  have hin := tt_inside lk ho rfl
  obtain ⟨d, m, hd, hm, htm⟩ := (eightN_part h).2 t ht
  obtain ⟨a, b, x, ha, hb, hx, hy, rfl⟩ := eightD_some hm
  have ha1 := stepS_in hin hc ha
  have hb1 := stepS_in hin hc hb
  have e2 : (d + 2) % 4 < 4 := Nat.mod_lt _ (by omega)
  obtain ⟨m', hm', hl'⟩ := (eightN_part h').1 ((d + 2) % 4) e2
  obtain ⟨a', b', x', ha', hb', hx', hy', rfl⟩ := eightD_some hm'
  have htm : t = a ∨ t = x := by simpa using htm
  rcases htm with rfl | rfl
  · rw [step_back ho hs hu hc.1 ha] at ha'
    injection ha' with ha'
    subst ha'
    exact hl' _ (by simp)
  · have k1 := step_back ho hs hu hb1.1 hy
    rw [k1] at ha'
    injection ha' with ha'
    subst ha'
    have k2 := step_back ho hs hu hc.1 hb
    rw [show ((d + 1) % 4 + 2) % 4 = ((d + 2) % 4 + 1) % 4 by omega] at k2
    rw [k2] at hx'
    injection hx' with hx'
    subst hx'
    exact hl' _ (by simp)
end
section
variable {N : Nat × Nat → Option (List (Nat × Nat))} {s : Nat × Nat}
theorem cl_pos {c : Nat} (hc : 0 < c) : decide (0 < cl N c s) = (N s).isSome := by
  have h := lt_cl (N := N) (s := s) (c := c) (m := 0)
  cases hN : N s with
  | none =>
    have hk : kn N 0 s = true := kn_none hN
    refine decide_eq_false fun h1 => ?_
    have := (h.1 h1).2
    rw [hk] at this
    cases this
  | some l =>
    have hk : kn N 0 s = false := by rw [kn, hN]; rfl
    exact decide_eq_true (h.2 ⟨hc, hk⟩)
theorem cl_step {l : List (Nat × Nat)} {t : Nat × Nat} (hN : N s = some l) (ht : t ∈ l) (c : Nat) : cl N c s ≤ cl N c t + 1 := by
  rcases Nat.lt_or_ge (cl N c t + 1) (cl N c s) with h | h
  · exfalso
    obtain ⟨h1, h2⟩ := lt_cl.1 h
    have hk : kn N (cl N c t) t = true := by
      cases hk : kn N (cl N c t) t with
      | true => rfl
      | false =>
        have := (lt_cl (N := N) (s := t) (c := c) (m := cl N c t)).2 ⟨by omega, hk⟩
        omega
    rw [kn_some hN, List.any_eq_true.2 ⟨t, ht, hk⟩, Bool.or_true] at h2
    cases h2
  · exact h
theorem cl_near {l : List (Nat × Nat)} {t : Nat × Nat} (hN : N s = some l) (ht : t ∈ l) (hb : ∀ l', N t = some l' → s ∈ l') (c : Nat) : cl N c s ≤ cl N c t + 1 ∧ cl N c t ≤ cl N c s + 1 := by
  refine ⟨cl_step hN ht c, ?_⟩
  cases hT : N t with
  | none =>
    cases c with
    | zero => simp [cl]
    | succ c =>
      have := cl_pos (N := N) (s := t) (c := c + 1) (by omega)
      rw [hT] at this
      have := of_decide_eq_false this
      omega
  | some l' => exact cl_step hT (hb l' hT) c
end
end Go.Proofs.Ytcdfojfafnecdaa

/- Maps of grids upon grids keep the eight: plain. No conditions. -/
namespace Go.Proofs.Ytcdfojfafnecdaa
open Go Go.RowKit Go.Sx Go.Mp
/-- Two directions, one beside the other. -/
def Adj (d e : Nat) : Prop := d < 4 ∧ e < 4 ∧ (e = (d + 1) % 4 ∨ d = (e + 1) % 4)
/-- A quarter of the eight. -/
def Quad (W : Nat) (tt : Nat → Nat → Nat → Option Nat) (s : Nat × Nat) (d e : Nat) (a b x : Nat × Nat) : Prop :=
  stepS W tt s d = some a ∧ stepS W tt s e = some b ∧ stepS W tt a e = some x ∧ stepS W tt b d = some x
theorem Quad.swap {W : Nat} {tt : Nat → Nat → Nat → Option Nat} {s a b x : Nat × Nat} {d e : Nat} (h : Quad W tt s d e a b x) : Quad W tt s e d b a x := ⟨h.2.1, h.1, h.2.2.2, h.2.2.1⟩
theorem eightD_of {W : Nat} {tt : Nat → Nat → Nat → Option Nat} {s a b x : Nat × Nat} {d : Nat} (h : Quad W tt s d ((d + 1) % 4) a b x) : eightD W tt s d = some [a, x] := by
  obtain ⟨h1, h2, h3, h4⟩ := h
  unfold eightD
  rw [h1, h2]
  simp only
  rw [h3, h4]
  simp
theorem eightN_of {W : Nat} {tt : Nat → Nat → Nat → Option Nat} {s : Nat × Nat} : ∀ {q : Nat}, (∀ d, d < q → ∃ m, eightD W tt s d = some m) → ∃ l, eightN W tt s q = some l
  | 0, _ => ⟨_, rfl⟩
  | q + 1, h => by
    obtain ⟨l, hl⟩ := eightN_of (q := q) (fun d hd => h d (by omega))
    obtain ⟨m, hm⟩ := h q (by omega)
    exact ⟨l ++ m, by rw [eightN, hl, hm]⟩
theorem eight_of {W : Nat} {tt : Nat → Nat → Nat → Option Nat} {s : Nat × Nat} (h : ∀ d e, Adj d e → ∃ a b x, Quad W tt s d e a b x) : ∃ l, eightF W tt s = some l :=
  eightN_of fun d hd => by
    obtain ⟨a, b, x, hq⟩ := h d ((d + 1) % 4) ⟨hd, Nat.mod_lt _ (by omega), .inl rfl⟩
    exact ⟨_, eightD_of hq⟩
theorem eight_quad {W : Nat} {tt : Nat → Nat → Nat → Option Nat} {s : Nat × Nat} {l : List (Nat × Nat)} (h : eightF W tt s = some l) :
    (∀ d e, Adj d e → ∃ a b x, Quad W tt s d e a b x ∧ a ∈ l ∧ b ∈ l ∧ x ∈ l) ∧ (∀ t ∈ l, ∃ d e a b x, Adj d e ∧ Quad W tt s d e a b x ∧ (t = a ∨ t = x)) := by
  obtain ⟨h1, h2⟩ := eightN_part h
  have key : ∀ d, d < 4 → ∃ a b x, Quad W tt s d ((d + 1) % 4) a b x ∧ a ∈ l ∧ b ∈ l ∧ x ∈ l := fun d hd => by
    obtain ⟨m, hm, hml⟩ := h1 d hd
    obtain ⟨a, b, x, ha, hb, hx, hy, rfl⟩ := eightD_some hm
    obtain ⟨m', hm', hml'⟩ := h1 ((d + 1) % 4) (Nat.mod_lt _ (by omega))
    obtain ⟨a', b', x', ha', hb', hx', hy', rfl⟩ := eightD_some hm'
    rw [hb] at ha'
    injection ha' with ha'
    subst ha'
    exact ⟨a, b, x, ⟨ha, hb, hx, hy⟩, hml _ (by simp), hml' _ (by simp), hml _ (by simp)⟩
  refine ⟨fun d e ⟨hd, he, hde⟩ => ?_, fun t ht => ?_⟩
  · rcases hde with rfl | rfl
    · exact key d hd
    · obtain ⟨a, b, x, hq, i1, i2, i3⟩ := key e he
      exact ⟨b, a, x, hq.swap, i2, i1, i3⟩
  · obtain ⟨d, m, hd, hm, htm⟩ := h2 t ht
    obtain ⟨a, b, x, ha, hb, hx, hy, rfl⟩ := eightD_some hm
    exact ⟨d, _, a, b, x, ⟨hd, Nat.mod_lt _ (by omega), .inl rfl⟩, ⟨ha, hb, hx, hy⟩, by simpa using htm⟩
/-- A map of a grid's columns upon another's; it keeps floors and neighbours; s turns directions. -/
def GMap (W : Nat) (D : Int) (rows : List (List V3)) (W' : Nat) (D' : Int) (rows' : List (List V3)) (tx tz : Int → Int → Int) (σ : Nat → Nat) : Prop :=
  (∀ x z : Int, 0 ≤ x → x < (W' : Int) → 0 ≤ z → z < D' → 0 ≤ tx x z ∧ tx x z < (W : Int) ∧ 0 ≤ tz x z ∧ tz x z < D ∧ rows'.getD (z * W' + x).toNat [] = rows.getD (tz x z * W + tx x z).toNat []) ∧
  (∀ d, d < 4 → σ d < 4 ∧ σ (σ d) = d) ∧ (∀ d e, Adj d e → Adj (σ d) (σ e)) ∧
  (∀ (d : Nat) dx dz, d < 4 → stepD d = some (dx, dz) → ∃ ex ez, stepD (σ d) = some (ex, ez) ∧ ∀ x z, tx (x + dx) (z + dz) = tx x z + ex ∧ tz (x + dx) (z + dz) = tz x z + ez)
/-- The place that a place comes of. -/
def psi (W W' : Nat) (tx tz : Int → Int → Int) (s : Nat × Nat) : Nat × Nat :=
  ((tz ((s.1 : Int) % W') ((s.1 : Int) / W') * W + tx ((s.1 : Int) % W') ((s.1 : Int) / W')).toNat, s.2)
section
variable {X Z D X' Z' D' : Int} {W W' : Nat} {rows rows' : List (List V3)} {lk : V3 → V3 → Bool} {tx tz : Int → Int → Int} {σ : Nat → Nat}
theorem col_in {x z : Int} (h1 : 0 ≤ x) (h2 : x < W) (h3 : 0 ≤ z) (h4 : z < D) : colOf X Z W D rows (X + x) (Z + z) = rows.getD (z * W + x).toNat [] := by
  unfold colOf
  rw [if_neg (by omega), show (Z + z - Z) * (W : Int) + (X + x) - X = z * W + x by rw [show Z + z - Z = z by omega]; omega]
theorem place_in {x z : Int} (h1 : 0 ≤ x) (h2 : x < W) (h3 : 0 ≤ z) (h4 : z < D) : 0 ≤ z * W + x ∧ z * W + x < W * D ∧ (z * W + x) % W = x ∧ (z * W + x) / W = z := by
  have h := index_ok (X := 0) (Z := 0) (W := (W : Int)) (D := D) (x := x) (z := z) (by omega) h1 (by omega) h3 (by omega)
  simp only [Int.sub_zero] at h
  have e : z * W + x = x + W * z := by rw [Int.mul_comm]; omega
  refine ⟨by omega, h.2, ?_, ?_⟩
  · rw [e, Int.add_mul_emod_self_left, Int.emod_eq_of_lt h1 h2]
  · rw [e, Int.add_mul_ediv_left _ _ (by omega), Int.ediv_eq_zero_of_lt h1 h2, Int.zero_add]
theorem spot_in (ho : gridOk X Z W D rows) {i : Nat} (hi : i < rows.length) : 0 ≤ (i : Int) % W ∧ (i : Int) % W < W ∧ 0 ≤ (i : Int) / W ∧ (i : Int) / W < D ∧ (i : Int) / W * W + (i : Int) % W = i := by
  obtain ⟨hW, h1, _, h3, _⟩ := spot_bd ho hi
  obtain ⟨_, _, _, _, _, _, _, _, o9, _⟩ := ho
  refine ⟨h1, Int.emod_lt_of_pos _ hW, h3, Int.ediv_lt_of_lt_mul hW (by rw [Int.mul_comm]; omega), ?_⟩
  have := Int.mul_ediv_add_emod (i : Int) W
  rw [Int.mul_comm]
  omega
theorem psi_in (hm : GMap W D rows W' D' rows' tx tz σ) (ho : gridOk X Z W D rows) (ho' : gridOk X' Z' W' D' rows') {i : Nat} (hi : i < rows'.length) (k : Nat) :
    ((psi W W' tx tz (i, k)).1 : Int) = tz ((i : Int) % W') ((i : Int) / W') * W + tx ((i : Int) % W') ((i : Int) / W') ∧ (psi W W' tx tz (i, k)).1 < rows.length ∧
      ((psi W W' tx tz (i, k)).1 : Int) % W = tx ((i : Int) % W') ((i : Int) / W') ∧ ((psi W W' tx tz (i, k)).1 : Int) / W = tz ((i : Int) % W') ((i : Int) / W') ∧ rows'.getD i [] = rows.getD (psi W W' tx tz (i, k)).1 [] := by
  obtain ⟨h1, h2, h3, h4, h5⟩ := spot_in ho' hi
  obtain ⟨g1, g2, g3, g4, g5⟩ := hm.1 _ _ h1 h2 h3 h4
  obtain ⟨p1, p2, p3, p4⟩ := place_in g1 g2 g3 g4
  rw [h5, Int.toNat_natCast] at g5
  have e : ((psi W W' tx tz (i, k)).1 : Int) = tz ((i : Int) % W') ((i : Int) / W') * W + tx ((i : Int) % W') ((i : Int) / W') := by
    show (((tz ((i : Int) % W') ((i : Int) / W') * W + tx ((i : Int) % W') ((i : Int) / W')).toNat : Nat) : Int) = _
    omega
  refine ⟨e, by have := ho.2.2.2.2.2.2.2.2.1; omega, by rw [e]; exact p3, by rw [e]; exact p4, g5⟩
/-- A step of a place whose next column lies within. -/
theorem step_map (hm : GMap W D rows W' D' rows' tx tz σ) (ho : gridOk X Z W D rows) (ho' : gridOk X' Z' W' D' rows') {i k d : Nat} (hi : i < rows'.length) (hd4 : d < 4) {dx dz : Int} (hd : stepD d = some (dx, dz))
    (h1 : 0 ≤ (i : Int) % W' + dx) (h2 : (i : Int) % W' + dx < W') (h3 : 0 ≤ (i : Int) / W' + dz) (h4 : (i : Int) / W' + dz < D') :
    stepS W (ttF lk X Z W D rows) (psi W W' tx tz (i, k)) (σ d) = (stepS W' (ttF lk X' Z' W' D' rows') (i, k) d).map (psi W W' tx tz) := by
  obtain ⟨e1, e2, e3, e4, e5⟩ := psi_in hm ho ho' hi k
  obtain ⟨s1, s2, s3, s4, s5⟩ := spot_in ho' hi
  obtain ⟨ex, ez, he, hst⟩ := hm.2.2.2 d dx dz hd4 hd
  obtain ⟨t1, t2⟩ := hst ((i : Int) % W') ((i : Int) / W')
  obtain ⟨g1, g2, g3, g4, g5⟩ := hm.1 _ _ h1 h2 h3 h4
  obtain ⟨u1, u2, u3, u4, _⟩ := hm.1 _ _ s1 s2 s3 s4
  obtain ⟨p1, p2, p3, p4⟩ := place_in h1 h2 h3 h4
  have hlen := ho.2.2.2.2.2.2.2.2.1
  have hlen' := ho'.2.2.2.2.2.2.2.2.1
  have hc1 : colOf X Z W D rows (X + tx ((i : Int) % W') ((i : Int) / W')) (Z + tz ((i : Int) % W') ((i : Int) / W')) = colOf X' Z' W' D' rows' (X' + (i : Int) % W') (Z' + (i : Int) / W') := by
    rw [col_in u1 u2 u3 u4, col_in s1 s2 s3 s4, ← (hm.1 _ _ s1 s2 s3 s4).2.2.2.2]
  have hc2 : colOf X Z W D rows (X + tx ((i : Int) % W') ((i : Int) / W') + ex) (Z + tz ((i : Int) % W') ((i : Int) / W') + ez) = colOf X' Z' W' D' rows' (X' + (i : Int) % W' + dx) (Z' + (i : Int) / W' + dz) := by
    rw [Int.add_assoc X, Int.add_assoc Z, ← t1, ← t2, Int.add_assoc X', Int.add_assoc Z', col_in g1 g2 g3 g4, col_in h1 h2 h3 h4, g5]
  have ht : ttF lk X Z W D rows (psi W W' tx tz (i, k)).1 k (σ d) = ttF lk X' Z' W' D' rows' i k d := by
    unfold ttF
    rw [e3, e4]
    unfold toF
    rw [he, hd]
    simp only
    rw [hc1, hc2]
  unfold stepS
  rw [he, hd]
  have e6 : (psi W W' tx tz (i, k)).2 = k := rfl
  rw [e6, ht]
  simp only
  cases ttF lk X' Z' W' D' rows' i k d with
  | none => rfl
  | some m =>
    simp only [Option.map_some]
    congr 1
    have q : (((i : Int) + dz * W' + dx).toNat : Int) = ((i : Int) / W' + dz) * W' + ((i : Int) % W' + dx) := by
      have : (i : Int) + dz * W' + dx = ((i : Int) / W' + dz) * W' + ((i : Int) % W' + dx) := by rw [Int.add_mul]; omega
      omega
    unfold psi
    simp only
    rw [q, p3, p4, t1, t2]
    congr 2
    have e1' : (((tz ((i : Int) % W') ((i : Int) / W') * W + tx ((i : Int) % W') ((i : Int) / W')).toNat : Nat) : Int) = tz ((i : Int) % W') ((i : Int) / W') * W + tx ((i : Int) % W') ((i : Int) / W') := e1
    rw [e1', Int.add_mul]
    omega
/-- A step leads into the grid. -/
theorem step_col (ho' : gridOk X' Z' W' D' rows') {i k d : Nat} (hi : i < rows'.length) {dx dz : Int} (hd : stepD d = some (dx, dz)) {t : Nat × Nat} (h : stepS W' (ttF lk X' Z' W' D' rows') (i, k) d = some t) :
    0 ≤ (i : Int) % W' + dx ∧ (i : Int) % W' + dx < W' ∧ 0 ≤ (i : Int) / W' + dz ∧ (i : Int) / W' + dz < D' ∧ (t.1 : Int) % W' = (i : Int) % W' + dx ∧ (t.1 : Int) / W' = (i : Int) / W' + dz := by
  unfold stepS at h
  rw [hd] at h
  cases ht : ttF lk X' Z' W' D' rows' i k d with
  | none => simp only [ht] at h; cases h
  | some m =>
    simp only [ht] at h
    injection h with h
    subst h
    have ht' : toF lk (colOf X' Z' W' D' rows') (X' + (i : Int) % W') (Z' + (i : Int) / W') k d = some m := ht
    obtain ⟨_, a, f, _, h2, _⟩ := toF_some lk (colOf X' Z' W' D' rows') hd ht'
    obtain ⟨_, _, _, g4, g5, g6, g7⟩ := colOf_spot ho' hi h2
    obtain ⟨p1, p2, p3, p4⟩ := place_in g4 g5 g6 g7
    obtain ⟨_, _, _, _, s5⟩ := spot_in ho' hi
    have q : (((i : Int) + dz * W' + dx).toNat : Int) = ((i : Int) / W' + dz) * W' + ((i : Int) % W' + dx) := by
      have : (i : Int) + dz * W' + dx = ((i : Int) / W' + dz) * W' + ((i : Int) % W' + dx) := by rw [Int.add_mul]; omega
      omega
    refine ⟨g4, g5, g6, g7, ?_, ?_⟩
    · rw [q, p3]
    · rw [q, p4]
theorem step_fwd (hm : GMap W D rows W' D' rows' tx tz σ) (ho : gridOk X Z W D rows) (ho' : gridOk X' Z' W' D' rows') {s t : Nat × Nat} {d : Nat} (hi : s.1 < rows'.length) (hd4 : d < 4)
    (h : stepS W' (ttF lk X' Z' W' D' rows') s d = some t) : stepS W (ttF lk X Z W D rows) (psi W W' tx tz s) (σ d) = some (psi W W' tx tz t) := by
  obtain ⟨dx, dz, hd⟩ := stepD_some hd4
  obtain ⟨h1, h2, h3, h4, _⟩ := step_col ho' hi hd h
  have := step_map (lk := lk) hm ho ho' (k := s.2) hi hd4 hd h1 h2 h3 h4
  rw [show (s.1, s.2) = s from rfl, h] at this
  exact this
theorem quad_fwd (hm : GMap W D rows W' D' rows' tx tz σ) (ho : gridOk X Z W D rows) (ho' : gridOk X' Z' W' D' rows') {s a b x : Nat × Nat} {d e : Nat} (hs : InG rows'.length (lenF rows') s) (hd : d < 4) (he : e < 4)
    (h : Quad W' (ttF lk X' Z' W' D' rows') s d e a b x) : Quad W (ttF lk X Z W D rows) (psi W W' tx tz s) (σ d) (σ e) (psi W W' tx tz a) (psi W W' tx tz b) (psi W W' tx tz x) := by
  have hin := tt_inside lk ho' rfl
  obtain ⟨h1, h2, h3, h4⟩ := h
  exact ⟨step_fwd hm ho ho' hs.1 hd h1, step_fwd hm ho ho' hs.1 he h2, step_fwd hm ho ho' (stepS_in hin hs h1).1 he h3, step_fwd hm ho ho' (stepS_in hin hs h2).1 hd h4⟩
theorem eight_fwd (hm : GMap W D rows W' D' rows' tx tz σ) (ho : gridOk X Z W D rows) (ho' : gridOk X' Z' W' D' rows') {s : Nat × Nat} (hs : InG rows'.length (lenF rows') s) {l' : List (Nat × Nat)}
    (h : eightF W' (ttF lk X' Z' W' D' rows') s = some l') : ∃ l, eightF W (ttF lk X Z W D rows) (psi W W' tx tz s) = some l ∧ (∀ t ∈ l', psi W W' tx tz t ∈ l) ∧ ∀ t ∈ l, ∃ t' ∈ l', psi W W' tx tz t' = t := by
  obtain ⟨h1, h2⟩ := eight_quad h
  have hall : ∀ d e, Adj d e → ∃ a b x, Quad W (ttF lk X Z W D rows) (psi W W' tx tz s) d e (psi W W' tx tz a) (psi W W' tx tz b) (psi W W' tx tz x) ∧ a ∈ l' ∧ b ∈ l' ∧ x ∈ l' := fun d e hde => by
    have hde' := hm.2.2.1 d e hde
    obtain ⟨a, b, x, hq, i⟩ := h1 _ _ hde'
    have := quad_fwd hm ho ho' hs hde'.1 hde'.2.1 hq
    rw [(hm.2.1 d hde.1).2, (hm.2.1 e hde.2.1).2] at this
    exact ⟨a, b, x, this, i⟩
  obtain ⟨l, hl⟩ := eight_of (fun d e hde => by obtain ⟨a, b, x, hq, _⟩ := hall d e hde; exact ⟨_, _, _, hq⟩)
  obtain ⟨g1, g2⟩ := eight_quad hl
  refine ⟨l, hl, fun t ht => ?_, fun t ht => ?_⟩
  · obtain ⟨d, e, a, b, x, hde, hq, hta⟩ := h2 t ht
    have hq' := quad_fwd hm ho ho' hs hde.1 hde.2.1 hq
    obtain ⟨a1, b1, x1, hq1, i1, i2, i3⟩ := g1 _ _ (hm.2.2.1 d e hde)
    have ea : a1 = psi W W' tx tz a := by have := hq1.1; rw [hq'.1] at this; injection this with this; exact this.symm
    have eb : x1 = psi W W' tx tz x := by have := hq1.2.2.1; rw [ea, hq'.2.2.1] at this; injection this with this; exact this.symm
    rcases hta with rfl | rfl
    · rw [← ea]; exact i1
    · rw [← eb]; exact i3
  · obtain ⟨d, e, a, b, x, hde, hq, hta⟩ := g2 t ht
    obtain ⟨a1, b1, x1, hq1, i1, i2, i3⟩ := hall d e hde
    have ea : psi W W' tx tz a1 = a := by have := hq1.1; rw [hq.1] at this; injection this with this; exact this.symm
    have eb : psi W W' tx tz x1 = x := by have := hq1.2.2.1; rw [ea, hq.2.2.1] at this; injection this with this; exact this.symm
    rcases hta with rfl | rfl
    · exact ⟨a1, i1, ea⟩
    · exact ⟨x1, i3, eb⟩
end
section
variable {N N' : Nat × Nat → Option (List (Nat × Nat))} {G : Nat × Nat → Prop} {ψ : Nat × Nat → Nat × Nat}
/-- What maps the eight, leaves no clearance that is greater. -/
theorem kn_fwd (hG : ∀ s l, G s → N' s = some l → ∀ t ∈ l, G t) (hf : ∀ s l', G s → N' s = some l' → ∃ l, N (ψ s) = some l ∧ (∀ t ∈ l', ψ t ∈ l) ∧ ∀ t ∈ l, ∃ t' ∈ l', ψ t' = t) :
    ∀ (n : Nat) (s : Nat × Nat), G s → kn N n (ψ s) = true → kn N' n s = true
  | 0, s, hs, h => by
    cases hN : N' s with
    | none => exact kn_none hN
    | some l' =>
      obtain ⟨l, hl, _⟩ := hf s l' hs hN
      rw [kn, hl] at h
      cases h
  | n + 1, s, hs, h => by
    cases hN : N' s with
    | none => exact kn_none hN
    | some l' =>
      obtain ⟨l, hl, _, h3⟩ := hf s l' hs hN
      rw [kn_some hl, Bool.or_eq_true] at h
      rw [kn_some hN, Bool.or_eq_true]
      rcases h with h | h
      · exact .inl (kn_fwd hG hf n s hs h)
      · obtain ⟨t, ht, hk⟩ := List.any_eq_true.1 h
        obtain ⟨t', ht', rfl⟩ := h3 t ht
        exact .inr (List.any_eq_true.2 ⟨t', ht', kn_fwd hG hf n t' (hG s l' hs hN t' ht') hk⟩)
/-- And none that is less, as far as no floor that lacks its eight has them behind. -/
theorem kn_back (P : Nat → Nat × Nat → Prop) (hG : ∀ s l, G s → N' s = some l → ∀ t ∈ l, G t) (hf : ∀ s l', G s → N' s = some l' → ∃ l, N (ψ s) = some l ∧ (∀ t ∈ l', ψ t ∈ l) ∧ ∀ t ∈ l, ∃ t' ∈ l', ψ t' = t)
    (h0 : ∀ n s, G s → P (n + 1) s → N' s = none → N (ψ s) = none) (h1 : ∀ n s l', G s → P (n + 1) s → N' s = some l' → ∀ t ∈ l', P n t) (h2 : ∀ n s, P (n + 1) s → P n s) :
    ∀ (n : Nat) (s : Nat × Nat), G s → P (n + 1) s → kn N' n s = true → kn N n (ψ s) = true
  | 0, s, hs, hp, h => by
    cases hN : N' s with
    | none => exact kn_none (h0 0 s hs hp hN)
    | some l' => rw [kn, hN] at h; cases h
  | n + 1, s, hs, hp, h => by
    cases hN : N' s with
    | none => exact kn_none (h0 _ s hs hp hN)
    | some l' =>
      obtain ⟨l, hl, h3, _⟩ := hf s l' hs hN
      rw [kn_some hN, Bool.or_eq_true] at h
      rw [kn_some hl, Bool.or_eq_true]
      rcases h with h | h
      · exact .inl (kn_back P hG hf h0 h1 h2 n s hs (h2 _ _ hp) h)
      · obtain ⟨t, ht, hk⟩ := List.any_eq_true.1 h
        exact .inr (List.any_eq_true.2 ⟨ψ t, h3 t ht, kn_back P hG hf h0 h1 h2 n t (hG s l' hs hN t ht) (h1 _ s l' hs hp hN t ht) hk⟩)
theorem cl_fwd {s : Nat × Nat} {c : Nat} (h : ∀ n, n < c → kn N n (ψ s) = true → kn N' n s = true) : cl N' c s ≤ cl N c (ψ s) := by
  rcases Nat.lt_or_ge (cl N c (ψ s)) (cl N' c s) with h1 | h1
  · exfalso
    obtain ⟨h2, h3⟩ := lt_cl.1 h1
    cases hk : kn N (cl N c (ψ s)) (ψ s) with
    | true => rw [h _ h2 hk] at h3; cases h3
    | false =>
      have := (lt_cl (N := N) (s := ψ s) (c := c) (m := cl N c (ψ s))).2 ⟨h2, hk⟩
      omega
  · exact h1
end
end Go.Proofs.Ytcdfojfafnecdaa

/- A part of a grid: its clearances are no greater, and the same as far as the cap reaches: plain. No conditions. -/
namespace Go.Proofs.Ytcdfojfafnecdaa
open Go Go.RowKit Go.Sx Go.Mp
def pTx (x0 : Nat) (x _z : Int) : Int := x + x0
def pTz (z0 : Nat) (_x z : Int) : Int := z + z0
def pPhi (x0 z0 W W' i : Nat) : Nat := (psi W W' (pTx x0) (pTz z0) (i, 0)).1
/-- The columns of a part. -/
def pRows (x0 z0 W W' D' : Nat) (rows : List (List V3)) : List (List V3) := (List.range (W' * D')).map fun i => rows.getD (pPhi x0 z0 W W' i) []
theorem pRows_length (x0 z0 W W' D' : Nat) (rows : List (List V3)) : (pRows x0 z0 W W' D' rows).length = W' * D' := by simp [pRows]
theorem pRows_get {x0 z0 W W' D' : Nat} {rows : List (List V3)} {i : Nat} (hi : i < W' * D') : (pRows x0 z0 W W' D' rows).getD i [] = rows.getD (pPhi x0 z0 W W' i) [] := by
  simp [pRows, List.getD_eq_getElem?_getD, hi]
theorem pPhi_at {x0 z0 W W' p q : Nat} (hq : q < W') : pPhi x0 z0 W W' (p * W' + q) = (z0 + p) * W + (x0 + q) := by
  have e1 : (((p * W' + q : Nat) : Int)) % (W' : Int) = q := by
    have : (p * W' + q) % W' = q := by rw [Nat.mul_comm, Nat.mul_add_mod]; exact Nat.mod_eq_of_lt hq
    omega
  have e2 : (((p * W' + q : Nat) : Int)) / (W' : Int) = p := by
    have : (p * W' + q) / W' = p := by rw [Nat.mul_comm, Nat.mul_add_div (by omega), Nat.div_eq_of_lt hq]; rfl
    omega
  unfold pPhi psi pTx pTz
  simp only
  rw [e1, e2]
  have : (((p : Int) + z0) * W + ((q : Int) + x0)) = (((z0 + p) * W + (x0 + q) : Nat) : Int) := by
    simp only [Int.natCast_add, Int.natCast_mul]
    rw [Int.add_comm (p : Int), Int.add_comm (q : Int)]
  rw [this, Int.toNat_natCast]
/-- Each side is the grid's own, or j columns away. -/
def farP (x0 z0 W D W' D' : Nat) (j : Nat) (s : Nat × Nat) : Prop :=
  (x0 = 0 ∨ (j : Int) ≤ (s.1 : Int) % W') ∧ (x0 + W' = W ∨ (j : Int) ≤ W' - 1 - (s.1 : Int) % W') ∧ (z0 = 0 ∨ (j : Int) ≤ (s.1 : Int) / W') ∧ (z0 + D' = D ∨ (j : Int) ≤ D' - 1 - (s.1 : Int) / W')
theorem adj_sum {d e : Nat} (h : Adj d e) {dx dz ex ez : Int} (hd : stepD d = some (dx, dz)) (he : stepD e = some (ex, ez)) : -1 ≤ dx ∧ dx ≤ 1 ∧ -1 ≤ dz ∧ dz ≤ 1 ∧ -1 ≤ dx + ex ∧ dx + ex ≤ 1 ∧ -1 ≤ dz + ez ∧ dz + ez ≤ 1 := by
  obtain ⟨h1, h2, h3⟩ := h
  have hd' : d = 0 ∨ d = 1 ∨ d = 2 ∨ d = 3 := by omega
  have he' : e = 0 ∨ e = 1 ∨ e = 2 ∨ e = 3 := by omega
  rcases hd' with rfl | rfl | rfl | rfl <;> rcases he' with rfl | rfl | rfl | rfl <;> first
    | omega
    | (have e1 := Option.some.inj hd; have e2 := Option.some.inj he; injection e1 with a1 a2; injection e2 with b1 b2; subst a1; subst a2; subst b1; subst b2; decide)
section
variable {X Z X' Z' : Int} {W D W' D' x0 z0 : Nat} {rows : List (List V3)} {lk : V3 → V3 → Bool}
theorem part_map (hx : x0 + W' ≤ W) (hz : z0 + D' ≤ D) : GMap W D rows W' D' (pRows x0 z0 W W' D' rows) (pTx x0) (pTz z0) id := by
  refine ⟨fun x z h1 h2 h3 h4 => ?_, fun d hd => ⟨hd, rfl⟩, fun d e h => h, fun d dx dz _ h => ⟨dx, dz, h, fun x z => ?_⟩⟩
  · obtain ⟨p1, p2, p3, p4⟩ := place_in h1 h2 h3 h4
    have hi : (z * (W' : Int) + x).toNat < W' * D' := by
      have : (((W' * D' : Nat)) : Int) = (W' : Int) * D' := by simp
      omega
    refine ⟨?_, ?_, ?_, ?_, ?_⟩
    · show 0 ≤ x + x0; omega
    · show x + x0 < W; omega
    · show 0 ≤ z + z0; omega
    · show z + z0 < D; omega
    · rw [pRows_get hi]
      congr 1
      unfold pPhi psi
      simp only
      rw [Int.toNat_of_nonneg p1, p3, p4]
  · unfold pTx pTz
    omega
theorem part_ok (ho : gridOk X Z W D rows) (hx : x0 + W' ≤ W) (hz : z0 + D' ≤ D) (h1 : X + x0 ≤ 64) (h2 : Z + z0 ≤ 64) : gridOk (X + x0) (Z + z0) W' D' (pRows x0 z0 W W' D' rows) := by
  obtain ⟨_, _, _, _, o5, o6, o7, o8, o9, o10⟩ := ho
  refine ⟨by omega, by omega, by omega, by omega, by omega, by omega, by omega, by omega, ?_, fun r hr => ?_⟩
  · rw [pRows_length]; simp
  · obtain ⟨i, _, rfl⟩ := List.mem_map.1 hr
    rw [List.getD_eq_getElem?_getD]
    cases h : rows[pPhi x0 z0 W W' i]? with
    | none => exact ⟨by simp, by simp⟩
    | some r => exact o10 r (List.mem_of_getElem? h)
theorem psi_inj (ho' : gridOk X' Z' W' D' (pRows x0 z0 W W' D' rows)) {s t : Nat × Nat} (hs : s.1 < (pRows x0 z0 W W' D' rows).length) (ht : t.1 < (pRows x0 z0 W W' D' rows).length) (h1 : (s.1 : Int) % W' = (t.1 : Int) % W') (h2 : (s.1 : Int) / W' = (t.1 : Int) / W') (h3 : s.2 = t.2) : s = t := by
  obtain ⟨_, _, _, _, e1⟩ := spot_in ho' hs
  obtain ⟨_, _, _, _, e2⟩ := spot_in ho' ht
  rw [h1, h2, e2] at e1
  obtain ⟨s1, s2⟩ := s
  obtain ⟨t1, t2⟩ := t
  simp only at e1 h3
  rw [h3, show s1 = t1 by omega]
theorem part_facts (ho : gridOk X Z W D rows) (hx : x0 + W' ≤ W) (hz : z0 + D' ≤ D) (ho' : gridOk X' Z' W' D' (pRows x0 z0 W W' D' rows)) {s : Nat × Nat} (hs : InG (pRows x0 z0 W W' D' rows).length (lenF (pRows x0 z0 W W' D' rows)) s) (c : Nat) :
    cl (eightF W' (ttF lk X' Z' W' D' (pRows x0 z0 W W' D' rows))) c s ≤ cl (eightF W (ttF lk X Z W D rows)) c (psi W W' (pTx x0) (pTz z0) s) ∧
      (farP x0 z0 W D W' D' c s → cl (eightF W' (ttF lk X' Z' W' D' (pRows x0 z0 W W' D' rows))) c s = cl (eightF W (ttF lk X Z W D rows)) c (psi W W' (pTx x0) (pTz z0) s)) := by
  have hm := part_map (rows := rows) hx hz
  have hin' := tt_inside lk ho' rfl
  have hG : ∀ s l, InG (pRows x0 z0 W W' D' rows).length (lenF (pRows x0 z0 W W' D' rows)) s → eightF W' (ttF lk X' Z' W' D' (pRows x0 z0 W W' D' rows)) s = some l → ∀ t ∈ l, InG (pRows x0 z0 W W' D' rows).length (lenF (pRows x0 z0 W W' D' rows)) t := fun s l hs hN t ht => eight_in hin' hs hN t ht
  have hf := fun s l' hs hN => eight_fwd (lk := lk) hm ho ho' (s := s) (l' := l') hs hN
  have hle : cl (eightF W' (ttF lk X' Z' W' D' (pRows x0 z0 W W' D' rows))) c s ≤ cl (eightF W (ttF lk X Z W D rows)) c (psi W W' (pTx x0) (pTz z0) s) := cl_fwd (ψ := psi W W' (pTx x0) (pTz z0)) (fun n _ h => kn_fwd hG hf n s hs h)
  refine ⟨hle, fun hfar => ?_⟩
  rcases Nat.lt_or_ge (cl (eightF W' (ttF lk X' Z' W' D' (pRows x0 z0 W W' D' rows))) c s) (cl (eightF W (ttF lk X Z W D rows)) c (psi W W' (pTx x0) (pTz z0) s)) with hlt | hge
  · exfalso
    obtain ⟨g1, g2⟩ := lt_cl.1 hlt
    have hk : kn (eightF W' (ttF lk X' Z' W' D' (pRows x0 z0 W W' D' rows))) (cl (eightF W' (ttF lk X' Z' W' D' (pRows x0 z0 W W' D' rows))) c s) s = true := by
      cases hk : kn (eightF W' (ttF lk X' Z' W' D' (pRows x0 z0 W W' D' rows))) (cl (eightF W' (ttF lk X' Z' W' D' (pRows x0 z0 W W' D' rows))) c s) s with
      | true => rfl
      | false =>
        have := (lt_cl (N := eightF W' (ttF lk X' Z' W' D' (pRows x0 z0 W W' D' rows))) (s := s) (c := c) (m := cl (eightF W' (ttF lk X' Z' W' D' (pRows x0 z0 W W' D' rows))) c s)).2 ⟨g1, hk⟩
        omega
    have hb := kn_back (ψ := psi W W' (pTx x0) (pTz z0)) (farP x0 z0 W D W' D') hG hf ?_ ?_ ?_ _ s hs ?_ hk
    · rw [hb] at g2; cases g2
    · intro n s hs hp hN
      cases h : eightF W (ttF lk X Z W D rows) (psi W W' (pTx x0) (pTz z0) s) with
      | none => rfl
      | some l =>
        exfalso
        obtain ⟨q1, _⟩ := eight_quad h
        obtain ⟨i, k⟩ := s
        obtain ⟨e1, e2, e3, e4, e5⟩ := psi_in hm ho ho' (i := i) hs.1 k
        obtain ⟨r1, r2, r3, r4, r5⟩ := spot_in ho' (i := i) hs.1
        obtain ⟨f1, f2, f3, f4⟩ := hp
        simp only at f1 f2 f3 f4 r1 r2 r3 r4
        have hstep : ∀ {t A : Nat × Nat} {d : Nat} {dx dz : Int}, InG (pRows x0 z0 W W' D' rows).length (lenF (pRows x0 z0 W W' D' rows)) t → d < 4 → stepD d = some (dx, dz) → -1 ≤ (t.1 : Int) % W' - (i : Int) % W' + dx → (t.1 : Int) % W' - (i : Int) % W' + dx ≤ 1 → -1 ≤ (t.1 : Int) / W' - (i : Int) / W' + dz → (t.1 : Int) / W' - (i : Int) / W' + dz ≤ 1 →
            stepS W (ttF lk X Z W D rows) (psi W W' (pTx x0) (pTz z0) t) d = some A → ∃ a, stepS W' (ttF lk X' Z' W' D' (pRows x0 z0 W W' D' rows)) t d = some a ∧ psi W W' (pTx x0) (pTz z0) a = A := fun {t A d dx dz} ht hd hdd b1 b2 b3 b4 hst => by
          obtain ⟨i', k'⟩ := t
          obtain ⟨e1', e2', e3', e4', e5'⟩ := psi_in hm ho ho' (i := i') ht.1 k'
          obtain ⟨c1, c2, c3, c4, _⟩ := step_col (lk := lk) ho (i := (psi W W' (pTx x0) (pTz z0) (i', k')).1) (k := k') e2' hdd (t := A) hst
          rw [e3'] at c1 c2
          rw [e4'] at c3 c4
          simp only at b1 b2 b3 b4
          have u1 : pTx x0 ((i' : Int) % W') ((i' : Int) / W') = (i' : Int) % W' + x0 := rfl
          have u2 : pTz z0 ((i' : Int) % W') ((i' : Int) / W') = (i' : Int) / W' + z0 := rfl
          rw [u1] at c1 c2
          rw [u2] at c3 c4
          have hmap := step_map (lk := lk) hm ho ho' (i := i') (k := k') ht.1 hd hdd (by omega) (by omega) (by omega) (by omega)
          rw [show id d = d from rfl, hst] at hmap
          cases h2 : stepS W' (ttF lk X' Z' W' D' (pRows x0 z0 W W' D' rows)) (i', k') d with
          | none => rw [h2] at hmap; cases hmap
          | some a =>
            rw [h2] at hmap
            injection hmap with hmap
            exact ⟨a, rfl, hmap.symm⟩
        obtain ⟨l', hl'⟩ := eight_of (W := W') (tt := ttF lk X' Z' W' D' (pRows x0 z0 W W' D' rows)) (s := (i, k)) (fun d e hde => by
          obtain ⟨A, B, C, ⟨hA, hB, hC, hC2⟩, _⟩ := q1 d e hde
          obtain ⟨dx, dz, hd⟩ := stepD_some hde.1
          obtain ⟨ex, ez, he⟩ := stepD_some hde.2.1
          have hsum := adj_sum hde hd he
          have hsum2 := adj_sum (d := e) (e := d) ⟨hde.2.1, hde.1, hde.2.2.symm⟩ he hd
          obtain ⟨a, ha, haA⟩ := hstep hs hde.1 hd (by simp only; omega) (by simp only; omega) (by simp only; omega) (by simp only; omega) hA
          obtain ⟨b, hb, hbB⟩ := hstep hs hde.2.1 he (by simp only; omega) (by simp only; omega) (by simp only; omega) (by simp only; omega) hB
          obtain ⟨_, _, _, _, a1, a2⟩ := step_col ho' (i := i) (k := k) hs.1 hd ha
          obtain ⟨_, _, _, _, b1, b2⟩ := step_col ho' (i := i) (k := k) hs.1 he hb
          have haG := stepS_in hin' hs ha
          have hbG := stepS_in hin' hs hb
          obtain ⟨x, hx1, hx2⟩ := hstep haG hde.2.1 he (by omega) (by omega) (by omega) (by omega) (by rw [haA]; exact hC)
          obtain ⟨y, hy1, hy2⟩ := hstep hbG hde.1 hd (by omega) (by omega) (by omega) (by omega) (by rw [hbB]; exact hC2)
          obtain ⟨_, _, _, _, x1, x2⟩ := step_col ho' haG.1 he (k := a.2) hx1
          obtain ⟨_, _, _, _, y1, y2⟩ := step_col ho' hbG.1 hd (k := b.2) hy1
          have hxG := stepS_in hin' haG hx1
          have hyG := stepS_in hin' hbG hy1
          have hxy : x = y := psi_inj ho' hxG.1 hyG.1 (by omega) (by omega) (by
            have : (psi W W' (pTx x0) (pTz z0) x).2 = (psi W W' (pTx x0) (pTz z0) y).2 := by rw [hx2, hy2]
            exact this)
          exact ⟨a, b, x, ha, hb, hx1, by rw [hxy]; exact hy1⟩)
        rw [hN] at hl'
        cases hl'
    · intro n s l' hs hp hN t ht
      obtain ⟨_, q2⟩ := eight_quad hN
      obtain ⟨d, e, a, b, x, hde, ⟨ha, hb, hx1, hy1⟩, hta⟩ := q2 t ht
      obtain ⟨dx, dz, hd⟩ := stepD_some hde.1
      obtain ⟨ex, ez, he⟩ := stepD_some hde.2.1
      have hsum := adj_sum hde hd he
      obtain ⟨i, k⟩ := s
      obtain ⟨_, _, _, _, a1, a2⟩ := step_col ho' (i := i) (k := k) hs.1 hd ha
      have haG := stepS_in hin' hs ha
      obtain ⟨_, _, _, _, x1, x2⟩ := step_col ho' haG.1 he (k := a.2) hx1
      obtain ⟨f1, f2, f3, f4⟩ := hp
      simp only at f1 f2 f3 f4
      have hxt : ∃ mx mz : Int, -1 ≤ mx ∧ mx ≤ 1 ∧ -1 ≤ mz ∧ mz ≤ 1 ∧ (t.1 : Int) % W' = (i : Int) % W' + mx ∧ (t.1 : Int) / W' = (i : Int) / W' + mz := by
        rcases hta with rfl | rfl
        · exact ⟨dx, dz, by omega, by omega, by omega, by omega, a1, a2⟩
        · exact ⟨dx + ex, dz + ez, by omega, by omega, by omega, by omega, by omega, by omega⟩
      obtain ⟨mx, mz, i1, i2, i3, i4, i5, i6⟩ := hxt
      unfold farP
      rw [i5, i6]
      omega
    · intro n s hp
      unfold farP at hp ⊢
      omega
    · unfold farP at hfar ⊢
      omega
  · omega
end
end Go.Proofs.Ytcdfojfafnecdaa

/- Laws to write a box and to keep a row. No conditions but those named. -/
namespace Go.Proofs.Ytcdfojfafnecdaa
open Go Go.RowKit Go.Sx Go.Mp
attribute [local go_sem] Oper.semAt_some
theorem wpIn_store_box {P : Program} {n : Nat} {o : Oper} {a : Act} {w : World} {K : Act → World → Prop} {Q : Exit → Act → World → Prop} {t : TypeId} (x y : Operand) (ho : o.op = .store t x y) {inf : TypeInfo} (hi : P.info? t = some inf) {g : Nat} {T : TypeId} {cur : Array Value} (hx : a.eval x = .pointer (some ⟨g, 0, none⟩)) {v : Value} (hy : a.eval y = v)
    (cs : List Value) (hc : v.cells.toList = cs) (hl : cs.length = inf.size) (h1 : ∀ u ∈ cs, u.oneCell' = true) (hg : w.heap[g]? = some (.cells cur T (0, 0))) (hfit : cur.size = cs.length)
    (h : ∀ w', w'.heap[g]? = some (.cells cs.toArray T (0, 0)) → Below g w w' → K (a.put o.dst undef) w') : o.wpIn Fence.wide n P a w K Q := by
  refine wpIn_store_block x y ho hi hx hy cs hc hl h1 hg (by omega) (h _ ?_ ?_)
  · have e : (cur.toList.take 0 ++ cs ++ cur.toList.drop (0 + cs.length)).toArray = cs.toArray := by
      rw [List.drop_eq_nil_of_le (by simp [hfit])]
      simp
    rw [e]
    exact setRow_heap _ _ _ _ _ _ hg
  · exact ⟨rfl, rfl, rfl, by simp [World.setRow], fun k hk => setRow_other w g k _ (by omega)⟩
theorem own_set {w : World} {b k e s n : Nat} {v u : Value} {xs : List Value} (h : w.ownsRow (b + 1) e s v n xs) : (w.setCell ⟨b, k, none⟩ u).ownsRow (b + 1) e s v n xs := by
  refine h.kept (row := some b) ⟨rfl, rfl, rfl, by simp [World.setCell], fun j hj hne => ?_⟩ ?_
  · unfold World.setCell
    simp only [Array.getElem?_modify]
    rw [if_neg (fun e => hne (by rw [e]))]
  · cases hv : v.ownBlock with
    | none => exact .inl rfl
    | some j => exact .inr (fun e => by have := (h.lt j hv).1; injection e with e; omega)
/-- The columns' heads of the grid that is turned about. -/
theorem infoCol : (Try.prog.info? 40).map (fun i => (i.zero, i.size, i.bytes)) = some (some (.slice none 0 0), 1, 24) := by kernel_rfl
theorem infoGrid : (Try.prog.info? 26).map (fun i => (i.zero, i.size, i.bytes)) = some (some (.agg #[.int .i64 0, .int .i64 0, .int .i64 0, .int .i64 0, .slice none 0 0]), 5, 56) := by kernel_rfl
end Go.Proofs.Ytcdfojfafnecdaa

/- footpathlaw14.cut and FieldParts by walks. No conditions but that the grid lies where it is said to lie. -/
namespace Go.Proofs.Ytcdfojfafnecdaa
open Go Go.RowKit Go.Sx Go.Mp
attribute [local go_sem] Oper.semAt_some
theorem cut_bd (x : Int) {n : Nat} (hn : 0 < n) : ∃ A : Nat, (x.tmod n + n).tmod n = A ∧ A < n ∧ -(n : Int) < x.tmod n ∧ x.tmod n < n := by
  have h1 := Int.lt_tmod_of_pos x (by omega : (0 : Int) < n)
  have h2 := Int.tmod_lt_of_pos x (by omega : (0 : Int) < n)
  have e : (x.tmod n + n).tmod n = (x.tmod n + n) % n := Int.tmod_eq_emod_of_nonneg (by omega)
  have h3 := Int.emod_nonneg (x.tmod n + n) (by omega : (n : Int) ≠ 0)
  have h4 := Int.emod_lt_of_pos (x.tmod n + n) (by omega : (0 : Int) < n)
  exact ⟨((x.tmod n + n) % n).toNat, by rw [e]; omega, by omega, h1, h2⟩
set_option maxHeartbeats 1000000 in
set_option maxRecDepth 100000 in
theorem cut_any (a b : Int) (n : Nat) (hn : 0 < n) (h64 : n ≤ 64) (w : World) :
    Calls Try.prog 20 #[.int .i64 a, .int .i64 b, .int .i64 n] w fun en w' => (∃ lo hi : Nat, en = .returned (.tuple #[.int .i64 lo, .int .i64 hi]) ∧ lo < hi ∧ hi ≤ n) ∧ Below w.heap.size w w' := by
  obtain ⟨A, hA, hAn, a1, a2⟩ := cut_bd a hn
  obtain ⟨B, hB, hBn, b1, b2⟩ := cut_bd b hn
  have hn0 : n ≠ 0 := by omega
  have e1 : IntKind.i64.wrap (a.tmod n) = a.tmod n := by rw [IntKind.wrap_i64]; omega
  have e2 : IntKind.i64.wrap (a.tmod n + n) = a.tmod n + n := by rw [IntKind.wrap_i64]; omega
  have e3 : IntKind.i64.wrap ((a.tmod n + n).tmod n) = (A : Int) := by rw [hA, IntKind.wrap_i64]; omega
  have f1 : IntKind.i64.wrap (b.tmod n) = b.tmod n := by rw [IntKind.wrap_i64]; omega
  have f2 : IntKind.i64.wrap (b.tmod n + n) = b.tmod n + n := by rw [IntKind.wrap_i64]; omega
  have f3 : IntKind.i64.wrap ((b.tmod n + n).tmod n) = (B : Int) := by rw [hB, IntKind.wrap_i64]; omega
  have wA : IntKind.i64.wrap ((A : Int) + 1) = (A : Int) + 1 := by rw [IntKind.wrap_i64]; omega
  have wB : IntKind.i64.wrap ((B : Int) + 1) = (B : Int) + 1 := by rw [IntKind.wrap_i64]; omega
  clear a1 a2 b1 b2
  rcases Nat.lt_trichotomy A B with h | h | h
  · have h1 : (A : Int) < B := by omega
    have h2 : ¬ (B : Int) < A := by omega
    refine (callsIn_wide (n := 6)).1 ?_
    refine callsIn_of_wp Try.func20 rfl trivial ?_
    simp only [Try.ntmps20, List.size_toArray, List.length_cons, List.length_nil, Nat.reduceAdd, Nat.reduceSub, Array.replicate_succ, Array.replicate_zero, List.push_toArray, List.append_toArray, List.nil_append, List.cons_append]
    gi_wp2
    go_ret2
    exact ⟨⟨A, B + 1, rfl, by omega, by omega⟩, Below.refl _ _⟩
  · subst h
    refine (callsIn_wide (n := 6)).1 ?_
    refine callsIn_of_wp Try.func20 rfl trivial ?_
    simp only [Try.ntmps20, List.size_toArray, List.length_cons, List.length_nil, Nat.reduceAdd, Nat.reduceSub, Array.replicate_succ, Array.replicate_zero, List.push_toArray, List.append_toArray, List.nil_append, List.cons_append]
    gi_wp2
    go_ret2
    exact ⟨⟨A, A + 1, rfl, by omega, by omega⟩, Below.refl _ _⟩
  · have h1 : (B : Int) < A := by omega
    have h2 : ¬ (A : Int) < B := by omega
    refine (callsIn_wide (n := 6)).1 ?_
    refine callsIn_of_wp Try.func20 rfl trivial ?_
    simp only [Try.ntmps20, List.size_toArray, List.length_cons, List.length_nil, Nat.reduceAdd, Nat.reduceSub, Array.replicate_succ, Array.replicate_zero, List.push_toArray, List.append_toArray, List.nil_append, List.cons_append]
    gi_wp2
    go_ret2
    exact ⟨⟨B, A + 1, rfl, by omega, by omega⟩, Below.refl _ _⟩
/-- The columns' heads of a part. -/
def pHeads (x0 z0 W W' : Nat) (HD : List Value) (m : Nat) : List Value := (List.range m).map fun j => HD.getD (pPhi x0 z0 W W' j) undef
theorem pHeads_succ (x0 z0 W W' : Nat) (HD : List Value) (m : Nat) : pHeads x0 z0 W W' HD (m + 1) = pHeads x0 z0 W W' HD m ++ [HD.getD (pPhi x0 z0 W W' m) undef] := by
  unfold pHeads
  rw [List.range_succ, List.map_append]
  rfl
theorem part_rows {w : World} {Am : Option Addr} {n base capm x0 z0 W W' D' : Nat} {T : TypeId} {rows : List (List V3)} {HD : List Value} (hn : n = W' * D') (hown : w.ownsRow base T 1 (.slice Am n capm) n (pHeads x0 z0 W W' HD n)) (hphi : ∀ i, i < n → pPhi x0 z0 W W' i < rows.length)
    (hHD : ∀ (i : Nat) (r : List V3), rows[i]? = some r → ∃ (Ai : Option Addr) (ci : Nat), HD[i]? = some (Value.slice Ai r.length ci) ∧ Reads w w.heap.size 3 Ai r.length (vcs r)) : RowsAt w w.heap.size Am (pRows x0 z0 W W' D' rows) := by
  refine ⟨pHeads x0 z0 W W' HD n, by rw [pRows_length, ← hn]; exact Reads.of_own hown, fun i r hr => ?_⟩
  have hi : i < n := by
    have := (List.getElem?_eq_some_iff.1 hr).1
    rw [pRows_length] at this
    omega
  have hp := hphi i hi
  have e : r = rows[pPhi x0 z0 W W' i] := by
    have h1 := pRows_get (x0 := x0) (z0 := z0) (W := W) (W' := W') (D' := D') (rows := rows) (i := i) (by omega)
    rw [List.getD_eq_getElem?_getD, hr, List.getD_eq_getElem?_getD, List.getElem?_eq_getElem hp] at h1
    exact h1
  obtain ⟨Ai, ci, h2, h3⟩ := hHD (pPhi x0 z0 W W' i) rows[pPhi x0 z0 W W' i] (List.getElem?_eq_getElem hp)
  rw [← e] at h2 h3
  refine ⟨Ai, ci, ?_, h3⟩
  unfold pHeads
  rw [List.getElem?_map, List.getElem?_range hi]
  simp [List.getD_eq_getElem?_getD, h2]
theorem part_lens {X Z W D : Int} {rows : List (List V3)} (ho : gridOk X Z W D rows) {x0 z0 W' V D' : Nat} (h : W' * D' ≤ 4096) : lensOk (pRows x0 z0 V W' D' rows) := by
  refine ⟨by rw [pRows_length]; omega, fun r hr => ?_⟩
  obtain ⟨i, _, rfl⟩ := List.mem_map.1 hr
  rw [List.getD_eq_getElem?_getD]
  cases h : rows[pPhi x0 z0 V W' i]? with
  | none => simp
  | some r => exact (lensOk_g ho).2 r (List.mem_of_getElem? h)
theorem far_of {x0 x1 z0 z1 xx zz W D cp : Nat} (h1 : ((x0 : Int) == 0) = true ∨ decide ((cp : Int) ≤ (xx : Int) - x0) = true) (h2 : ((x1 : Int) == (W : Int)) = true ∨ decide ((cp : Int) ≤ (x1 : Int) - 1 - xx) = true)
    (h3 : ((z0 : Int) == 0) = true ∨ decide ((cp : Int) ≤ (zz : Int) - z0) = true) (h4 : ((z1 : Int) == (D : Int)) = true ∨ decide ((cp : Int) ≤ (z1 : Int) - 1 - zz) = true) :
    (x0 = 0 ∨ (cp : Int) ≤ xx - x0) ∧ (x1 = W ∨ (cp : Int) ≤ x1 - 1 - xx) ∧ (z0 = 0 ∨ (cp : Int) ≤ zz - z0) ∧ (z1 = D ∨ (cp : Int) ≤ z1 - 1 - zz) := by
  simp only [beq_iff_eq, decide_eq_true_eq] at h1 h2 h3 h4
  omega
set_option maxHeartbeats 8000000 in
set_option maxRecDepth 100000 in
theorem fparts_any (a b c d e f g X Z W D left low right high : Int) (rows : List (List V3)) (A : Option Addr) (cap : Nat) (w : World) (hr : RowsAt w w.heap.size A rows) (hl : lensOk rows) :
    Calls Try.prog 5 #[cfgv a b c d e f g, gridv X Z W D A rows.length cap, .int .i64 left, .int .i64 low, .int .i64 right, .int .i64 high] w fun en w' => en = .returned (.bool true) ∧ Below w.heap.size w w' := by
  obtain ⟨u1, eu1, bu1, ku1⟩ := alloc_step w (.cells #[.int .i64 a, .int .i64 b, .int .i64 c, .int .i64 d, .int .i64 e, .int .i64 f, .int .i64 g] 23)
  obtain ⟨u2, eu2, bu2, ku2⟩ := alloc_step u1 (.cells #[.int .i64 X, .int .i64 Z, .int .i64 W, .int .i64 D, .slice A rows.length cap] 26)
  have hba : Below w.heap.size w u2 := bu1.trans (bu2.mono bu1.size)
  have hB0 := (bu2.block _ (lt_of_block ku1)).trans ku1
  have hgr := great14_any X Z W D rows A cap u2 ((hr.below hba).more hba.size) hl
  have hwk := fun w => wakes14_any w
  have hck := fun w => rcfg_any a b c d e f g w
  have hcA := fun w => cap_any a b c d e f g w
  unfold gridv at hgr
  unfold cfgv at hck hcA
  obtain ⟨g0, g1, g2, g3, g4⟩ := box5 ku2
  unfold cfgv gridv
  refine (callsIn_wide (n := 6)).1 ?_
  refine callsIn_of_wp Try.func5 rfl trivial ?_
  simp only [Try.ntmps5, List.size_toArray, List.length_cons, List.length_nil, Nat.reduceAdd, Nat.reduceSub, Array.replicate_succ, Array.replicate_zero, List.push_toArray, List.append_toArray, List.nil_append, List.cons_append]
  gi_wp2
  refine ⟨trivial, (callsIn_wide.2 hgr).mono ?_⟩
  rintro en w1 ⟨⟨bg, rfl⟩, hb1⟩
  clear g0 g1 g2 g3 g4 hgr
  have p0 := (hb1.block _ (lt_of_block hB0)).trans hB0
  have p1 := (hb1.block _ (lt_of_block ku2)).trans ku2
  have hb01 := hba.trans (hb1.mono hba.size)
  cases bg with
  | true =>
    gi_wp2_with (refine wpListIn_off rfl ?_)
    refine ⟨trivial, (callsIn_wide.2 (hwk _)).mono ?_⟩
    rintro en w2 ⟨rfl, hb2⟩
    gi_wp2
    go_ret
    exact ⟨rfl, hb01.trans (hb2.mono hb01.size)⟩
  | false =>
    obtain ⟨g0, g1, g2, g3, g4⟩ := box5 p1
    have hch := rcheck_any X Z W D rows A cap w1 ((hr.below hb01).more hb01.size) hl
    unfold gridv at hch
    gi_wp2
    refine ⟨trivial, (callsIn_wide.2 hch).mono ?_⟩
    rintro en w2 ⟨⟨er, rfl, hei⟩, hb2⟩
    clear hch g0 g1 g2 g3 g4
    have hb02 := hb01.trans (hb2.mono hb01.size)
    have m0 := (hb2.block _ (lt_of_block p0)).trans p0
    have m1 := (hb2.block _ (lt_of_block p1)).trans p1
    by_cases ho : gridOk X Z W D rows
    · obtain rfl : er = 0 := hei.2 ho
      clear hei
      obtain ⟨q0, q1, q2, q3, q4, q5, q6⟩ := box7 m0
      gi_wp2
      refine ⟨trivial, (callsIn_wide.2 (hck _)).mono ?_⟩
      rintro en w3 ⟨rfl, hb3⟩
      clear q0 q1 q2 q3 q4 q5 q6
      have hb03 := hb02.trans (hb3.mono hb02.size)
      have k0 := (hb3.block _ (lt_of_block m0)).trans m0
      have k1 := (hb3.block _ (lt_of_block m1)).trans m1
      by_cases hk : checkF a b c d e f g = 0
      · rw [hk]
        obtain ⟨Wn, rfl⟩ : ∃ Wn : Nat, W = Wn := ⟨W.toNat, by have := ho.2.2.2.2.1; omega⟩
        obtain ⟨Dn, rfl⟩ : ∃ Dn : Nat, D = Dn := ⟨D.toNat, by have := ho.2.2.2.2.2.2.1; omega⟩
        obtain ⟨g0, g1, g2, g3, g4⟩ := box5 k1
        by_cases hW1 : (Wn : Int) < 1
        · gi_wp2
          refine ⟨trivial, (callsIn_wide.2 (hwk _)).mono ?_⟩
          rintro en w4 ⟨rfl, hb4⟩
          gi_wp2
          go_ret
          exact ⟨rfl, hb03.trans (hb4.mono hb03.size)⟩
        · by_cases hD1 : (Dn : Int) < 1
          · gi_wp2
            refine ⟨trivial, (callsIn_wide.2 (hwk _)).mono ?_⟩
            rintro en w4 ⟨rfl, hb4⟩
            gi_wp2
            go_ret
            exact ⟨rfl, hb03.trans (hb4.mono hb03.size)⟩
          · have hW64 : Wn ≤ 64 := by have := ho.2.2.2.2.2.1; omega
            have hD64 : Dn ≤ 64 := by have := ho.2.2.2.2.2.2.2.1; omega
            have hcx := fun w => cut_any left right Wn (by omega) hW64 w
            have hcz := fun w => cut_any low high Dn (by omega) hD64 w
            gi_wp2
            refine ⟨trivial, (callsIn_wide.2 (hcx _)).mono ?_⟩
            rintro en w4 ⟨⟨x0, x1, rfl, hx01, hx1⟩, hb4⟩
            clear g0 g1 g2 g3 g4 hcx
            have hb04 := hb03.trans (hb4.mono hb03.size)
            have n0 := (hb4.block _ (lt_of_block k0)).trans k0
            have n1 := (hb4.block _ (lt_of_block k1)).trans k1
            obtain ⟨g0, g1, g2, g3, g4⟩ := box5 n1
            gi_wp2
            refine ⟨trivial, (callsIn_wide.2 (hcz _)).mono ?_⟩
            rintro en w5 ⟨⟨z0, z1, rfl, hz01, hz1⟩, hb5⟩
            clear g0 g1 g2 g3 g4 hcz
            have hb05 := hb04.trans (hb5.mono hb04.size)
            have r0 := (hb5.block _ (lt_of_block n0)).trans n0
            have r1 := (hb5.block _ (lt_of_block n1)).trans n1
            obtain ⟨g0, g1, g2, g3, g4⟩ := box5 r1
            obtain ⟨Wp, hWp⟩ : ∃ Wp, x0 + Wp = x1 := ⟨x1 - x0, by omega⟩
            obtain ⟨Dp, hDp⟩ : ∃ Dp, z0 + Dp = z1 := ⟨z1 - z0, by omega⟩
            have hXZ : -64 ≤ X ∧ X ≤ 64 ∧ -64 ≤ Z ∧ Z ≤ 64 := ⟨ho.1, ho.2.1, ho.2.2.1, ho.2.2.2.1⟩
            have e1 : IntKind.i64.wrap (X + x0) = X + x0 := by rw [IntKind.wrap_i64]; omega
            have e2 : IntKind.i64.wrap (Z + z0) = Z + z0 := by rw [IntKind.wrap_i64]; omega
            have e3 : IntKind.i64.wrap ((x1 : Int) - x0) = Wp := by rw [IntKind.wrap_i64]; omega
            have e4 : IntKind.i64.wrap ((z1 : Int) - z0) = Dp := by rw [IntKind.wrap_i64]; omega
            replace hWp := Lib.hid hWp
            replace hDp := Lib.hid hDp
            obtain ⟨u3, eu3, bu3, ku3⟩ := alloc_step w5 (.cells #[.int .i64 0, .int .i64 0, .int .i64 0, .int .i64 0, .slice none 0 0] 26)
            obtain ⟨iG, hiG, hzG0, hzG1, hzG2⟩ := info_parts infoGrid
            obtain ⟨HD, hHD1, hHD2⟩ := id hr
            gi_wp2_with (refine wpListIn_plain rfl fun K' hK' => ?_; refine wpIn_store_box (.tmp 17) (.tmp 84) rfl hiG rfl rfl [.int .i64 (X + x0), .int .i64 (Z + z0), .int .i64 Wp, .int .i64 Dp, .slice none 0 0] rfl hzG1.symm (by simp [Value.oneCell']) ku3 rfl ?_; intro w6 hkm hbs; refine hK' _ _ ?_)
            have hb56 : Below w5.heap.size w5 w6 := bu3.trans hbs
            clear g0 g1 g2 g3 g4
            have hWn0 : 0 < Wn := by omega
            have hWDle : Wp * Dp ≤ 4096 := Nat.mul_le_mul (show Wp ≤ 64 by have := hWp.out; omega) (show Dp ≤ 64 by have := hDp.out; omega)
            have hrl : rows.length = Wn * Dn := by
              have h1 := ho.2.2.2.2.2.2.2.2.1
              have h2 : ((Wn * Dn : Nat) : Int) = (Wn : Int) * Dn := by simp
              omega
            have hphi : ∀ zi xi, zi < z1 → xi < x1 → zi * Wn + xi < rows.length ∧ zi * Wn ≤ 4096 := fun zi xi h1 h2 => by
              have h3 : (zi + 1) * Wn ≤ Dn * Wn := Nat.mul_le_mul_right _ (by omega)
              have h4 : Dn * Wn ≤ 64 * 64 := Nat.mul_le_mul hD64 hW64
              rw [Nat.add_mul] at h3
              rw [hrl, Nat.mul_comm Wn Dn]
              omega
            replace hrl := Lib.hid hrl
            clear hW1 hD1 e1 e2 e3 e4 hzG0 hzG1 hzG2 ku3 eu3 bu3 hbs
            gi_loopw [18] (fun x wr => ∃ (zi m : Nat) (v : Value), x = .int .i64 zi ∧ z0 ≤ zi ∧ zi ≤ z1 ∧ (zi - z0) * Wp = m ∧ wr.heap[w5.heap.size]? = some (.cells #[.int .i64 (X + x0), .int .i64 (Z + z0), .int .i64 Wp, .int .i64 Dp, v] 26 (0, 0)) ∧ wr.ownsRow (w5.heap.size + 1) 40 1 v m (pHeads x0 z0 Wn Wp HD m) ∧ Below w5.heap.size w5 wr) (fun x _ => z1 - (intOf x).toNat)
            case atStart => exact ⟨z0, 0, _, rfl, Nat.le_refl _, by omega, by simp, hkm, World.ownsRow_nil _ _ _ _, hb56⟩
            case round =>
              clear hkm hb56
              obtain ⟨zi, m, v, rfl, hz0, hzi, hm, hkm, hown, hlow⟩ := hrel
              by_cases hzn : zi < z1
              · have hzn' : (zi : Int) < (z1 : Int) := by omega
                have hwz : IntKind.i64.wrap ((zi : Int) + 1) = (zi : Int) + 1 := by rw [IntKind.wrap_i64]; omega
                gi_wp2
                gi_loopw [19] (fun x wt => ∃ (xi n : Nat) (v : Value), x = .int .i64 xi ∧ x0 ≤ xi ∧ xi ≤ x1 ∧ m + (xi - x0) = n ∧ wt.heap[w5.heap.size]? = some (.cells #[.int .i64 (X + x0), .int .i64 (Z + z0), .int .i64 Wp, .int .i64 Dp, v] 26 (0, 0)) ∧ wt.ownsRow (w5.heap.size + 1) 40 1 v n (pHeads x0 z0 Wn Wp HD n) ∧ Below w5.heap.size w5 wt) (fun x _ => x1 - (intOf x).toNat)
                case atStart => exact ⟨x0, m, v, rfl, Nat.le_refl _, by omega, by omega, hkm, hown, hlow⟩
                case round =>
                  clear hkm hown hlow
                  obtain ⟨xi, n, v, rfl, hx0, hxi, hn, hkm, hown, hlow⟩ := hrel
                  have hlowW := hb05.trans (hlow.mono hb05.size)
                  have hsz := lt_of_block hkm
                  by_cases hxn : xi < x1
                  · as_aux_lemma =>
                    have hxn' : (xi : Int) < (x1 : Int) := by omega
                    have hwx : IntKind.i64.wrap ((xi : Int) + 1) = (xi : Int) + 1 := by rw [IntKind.wrap_i64]; omega
                    have hix : pPhi x0 z0 Wn Wp n = zi * Wn + xi := by
                      rw [← hn, ← hm, pPhi_at (by have := hWp.out; omega), show z0 + (zi - z0) = zi by omega, show x0 + (xi - x0) = xi by omega]
                    obtain ⟨hph, hzW⟩ := hphi zi xi hzn hxn
                    obtain ⟨ix, hixe⟩ : ∃ ix, zi * Wn + xi = ix := ⟨_, rfl⟩
                    have hn4 : n ≤ 4096 := by
                      have h1 : (zi - z0 + 1) * Wp ≤ Dp * Wp := Nat.mul_le_mul_right _ (by have := hDp.out; omega)
                      rw [Nat.add_mul] at h1
                      rw [Nat.mul_comm] at hWDle
                      have := hWp.out
                      omega
                    have hcast : ((zi * Wn : Nat) : Int) = (zi : Int) * Wn := by simp
                    have em1 : IntKind.i64.wrap ((zi : Int) * Wn) = (zi : Int) * Wn := by rw [IntKind.wrap_i64, ← hcast]; omega
                    have em2 : IntKind.i64.wrap ((zi : Int) * Wn + xi) = (ix : Int) := by rw [IntKind.wrap_i64, ← hcast]; omega
                    rw [hixe] at hix hph
                    clear hcast hzW
                    have hixI : (ix : Int) < (rows.length : Int) := by omega
                    obtain ⟨ad, u, rfl, hbl, hu, hcu⟩ := (hHD1.below hlowW).at_ hph
                    have hHg : HD.getD (pPhi x0 z0 Wn Wp n) undef = u := by rw [hix, List.getD_eq_getElem?_getD, hu]; rfl
                    obtain ⟨Ai, ci, hu2, _⟩ := hHD2 ix _ (List.getElem?_eq_getElem hph)
                    obtain rfl : u = .slice Ai rows[ix].length ci := by rw [hu] at hu2; injection hu2
                    generalize rows[ix].length = lu at hcu hHg
                    replace hixe := Lib.hid hixe
                    obtain ⟨g0, g1, g2, g3, g4⟩ := box5 ((hlow.block _ (lt_of_block r1)).trans r1)
                    obtain ⟨n0, n1, n2, n3, n4⟩ := box5 hkm
                    obtain ⟨i0, hii, hz0', hz1', hz2'⟩ := info_parts infoCol
                    have lg : u1.heap.size < w5.heap.size := lt_of_block r1
                    gi_wp2
                    have hS : (CellsL [(⟨u1.heap.size, 2, none⟩, .int .i64 Wn), (⟨u1.heap.size, 4, none⟩, .slice (some ad) rows.length cap), (⟨w5.heap.size, 4, none⟩, v), (ad.add ix, .slice Ai lu ci)]) (wr.drew) := ⟨g2, g4, n4, hcu, trivial⟩
                    refine wpIn_region_ord [(0, true), (1, true), (2, true), (3, true), (4, true), (5, true), (6, true), (7, true), (8, true), (9, true), (10, true), (11, true), (12, false), (13, false), (14, true)] (CellsL [(⟨u1.heap.size, 2, none⟩, .int .i64 Wn), (⟨u1.heap.size, 4, none⟩, .slice (some ad) rows.length cap), (⟨w5.heap.size, 4, none⟩, v), (ad.add ix, .slice Ai lu ci)]) (fun _ => trivial) rfl (by first | exact then_put rfl | (intro c d v a w h; cases d <;> exact h)) (by kernel_rfl) ?_
                    simp only [List.length_cons, List.length_nil, Nat.reduceAdd, List.drop_succ_cons, List.drop_zero]
                    iterate 12 (apply wpOrd_quiet rfl hS rfl; (intro w' hw'; obtain ⟨q0, q1, q2, q3, _⟩ := hw'; go_simp; exact rfl); go_simp)
                    refine wpOrd_move rfl rfl ?_
                    go_simp
                    have hS3 := hS
                    have lg2 : u1.heap.size < wr.drew.heap.size := by show _ < wr.heap.size; omega
                    have la2 : ad.block < wr.drew.heap.size := by show _ < wr.heap.size; have := hb05.size; omega
                    replace hS := CellsL.keep ((Below.refl wr.drew.heap.size wr.drew).alloc (Nat.le_refl _) (.cells #[.slice Ai lu ci] 40)) hS ⟨lg2, lg2, hsz, by rw [block_of_add]; exact la2, trivial⟩
                    refine ⟨hS, ?_⟩
                    go_simp
                    refine wpOrd_move rfl rfl ?_
                    refine wpIn_append_at (.tmp 98) (.tmp 109) 24 rfl (w5.heap.size + 1) 40 i0 _ 1 24 Try.underlying24 hii hz0' hz1' hz2' (by decide) (by decide) _ n (pHeads x0 z0 Wn Wp HD n) rfl (hown.drew.alloc _) ⟨wr.drew.heap.size, 0, none⟩ 1 1 [.slice Ai lu ci] rfl rfl (cell_one_new _ _ _) (by simp [Value.oneCell']) (by unfold maxLen; omega) (by omega) (by simp; omega) ?_
                    intro v8 w8 hown8 hg8 hloc8
                    have hkeep : ∀ j, j < wr.heap.size → j ≤ w5.heap.size → w8.heap[j]? = wr.drew.heap[j]? := fun j hj hj2 => (hg8.block j (by simp; omega) (fun e => by have := (hown.lt j e.symm).1; omega)).trans (Below.heap_alloc _ _ _ hj)
                    have hkm8 := (hkeep _ hsz (Nat.le_refl _)).trans (show wr.drew.heap[w5.heap.size]? = _ from hkm)
                    have hB8 := hkeep u1.heap.size lg2 (by omega)
                    have hA8 := hkeep ad.block la2 (by have := hb05.size; omega)
                    have hM8 := hkeep w5.heap.size hsz (Nat.le_refl _)
                    replace hS : CellsL [(⟨u1.heap.size, 2, none⟩, .int .i64 Wn), (⟨u1.heap.size, 4, none⟩, .slice (some ad) rows.length cap), (⟨w5.heap.size, 4, none⟩, v), (ad.add ix, .slice Ai lu ci)] w8 :=
                      ⟨(World.cell?_of_block hB8).trans hS3.1, (World.cell?_of_block hB8).trans hS3.2.1, (World.cell?_of_block hM8).trans hS3.2.2.1, (World.cell?_of_block (by rw [block_of_add]; exact hA8)).trans hS3.2.2.2.1, trivial⟩
                    refine ⟨hS, ?_⟩
                    go_simp
                    iterate 1 (apply wpOrd_quiet rfl hS rfl; (intro w' hw'; obtain ⟨q0, q1, q2, q3, _⟩ := hw'; go_simp; exact rfl); go_simp)
                    refine wpOrd_nil ?_
                    obtain ⟨A8, c8, rfl⟩ := own_rowS hown8
                    clear hS hS3 g0 g1 g2 g3 g4 n0 n1 n2 n3 n4 hB8 hA8 hM8
                    have hl8 : Below w5.heap.size w5 w8 := (hlow.drew.alloc (by show _ ≤ wr.heap.size; omega) _).grown hg8 (by simp; omega) (fun q e => by have := (hown.lt q e).1; omega)
                    have z8 : w8.frozen? ⟨w5.heap.size, 4, none⟩ = false := not_frozen hkm8
                    have z9 : w8.cell? ⟨w5.heap.size, 4, none⟩ = some v := cell_of hkm8 rfl
                    have hO9 := set_block (k := 4) hkm8 (.slice A8 (n + 1) c8)
                    have hown9 := own_set (k := 4) (u := .slice A8 (n + 1) c8) hown8
                    have hl9 := hl8.setCell (p := ⟨w5.heap.size, 4, none⟩) (Nat.le_refl _) (.slice A8 (n + 1) c8)
                    gi_wp2
                    go_roundw
                    case rel => exact ⟨xi + 1, n + 1, _, by go_num, by omega, by omega, by omega, hO9, by rw [pHeads_succ, hHg]; exact hown9, hl9⟩
                    case measure => simp [intOf]; omega
                  · obtain rfl : x1 = xi := by omega
                    gi_wp2
                    go_roundw
                    case rel => exact ⟨zi + 1, n, v, by go_num, by omega, by omega, by
                      rw [← hn, ← hm, show zi + 1 - z0 = zi - z0 + 1 by omega, Nat.add_mul]
                      have := hWp.out
                      omega, hkm, hown, hlow⟩
                    case measure => simp [intOf]; omega
              · obtain rfl : z1 = zi := by omega
                obtain ⟨Am, capm, rfl⟩ := own_rowS hown
                have hmn : m = Wp * Dp := by rw [← hm, Nat.mul_comm Wp]; congr 1; have := hDp.out; omega
                replace hmn := Lib.hid hmn
                have hplen : (pRows x0 z0 Wn Wp Dp rows).length = m := by rw [pRows_length, hmn.out]
                replace hplen := Lib.hid hplen
                clear hm hz0 hzi hzn
                have hxW : x0 + Wp ≤ Wn := by have := hWp.out; omega
                have hzD : z0 + Dp ≤ Dn := by have := hDp.out; omega
                have hpp : ∀ i, i < m → ∃ xx zz : Nat, x0 + i % Wp = xx ∧ z0 + i / Wp = zz ∧ x0 ≤ xx ∧ xx < x1 ∧ z0 ≤ zz ∧ zz < z1 ∧ pPhi x0 z0 Wn Wp i = zz * Wn + xx ∧ zz * Wn + xx < rows.length ∧ zz * Wn ≤ 4096 := fun i hi => by
                  rw [hmn.out] at hi
                  have hWp0 : 0 < Wp := by
                    rcases Nat.eq_zero_or_pos Wp with h | h
                    · rw [h, Nat.zero_mul] at hi; omega
                    · exact h
                  have h1 := Nat.mod_lt i hWp0
                  have h2 : i / Wp < Dp := Nat.div_lt_of_lt_mul hi
                  have h3 := hWp.out
                  have h4 := hDp.out
                  obtain ⟨h5, h6⟩ := hphi (z0 + i / Wp) (x0 + i % Wp) (by omega) (by omega)
                  refine ⟨_, _, rfl, rfl, Nat.le_add_right _ _, by omega, Nat.le_add_right _ _, by omega, ?_, h5, h6⟩
                  have h7 : i / Wp * Wp + i % Wp = i := by rw [Nat.mul_comm]; exact Nat.div_add_mod i Wp
                  have := pPhi_at (x0 := x0) (z0 := z0) (W := Wn) (W' := Wp) (p := i / Wp) h1
                  rwa [h7] at this
                have hlowW := hb05.trans (hlow.mono hb05.size)
                have hM : RowsAt wr wr.heap.size Am (pRows x0 z0 Wn Wp Dp rows) := part_rows hmn.out hown (fun i hi => by obtain ⟨xx, zz, _, _, _, _, _, _, h7, h8, _⟩ := hpp i hi; rw [h7]; exact h8) (fun i r h => by
                  obtain ⟨Ai, ci, h1, h2⟩ := hHD2 i r h
                  exact ⟨Ai, ci, h1, (h2.below hlowW).more hlowW.size⟩)
                have k0' := (hlow.block _ (lt_of_block r0)).trans r0
                have k1' := (hlow.block _ (lt_of_block r1)).trans r1
                have hm4 : m ≤ 4096 := by rw [hmn.out]; exact hWDle
                have hlp := part_lens (W' := Wp) (V := Wn) (D' := Dp) (x0 := x0) (z0 := z0) ho hWDle
                clear hown hHD1 hHD2 hphi hWDle
                obtain ⟨q0, q1, q2, q3, q4, q5, q6⟩ := box7 k0'
                obtain ⟨g0, g1, g2, g3, g4⟩ := box5 k1'
                have hf1 := fbuild_ok a b c d e f g X Z Wn Dn rows A cap wr ((hr.below hlowW).more hlowW.size) hl hk ho
                have hclr := check_clear hk
                obtain ⟨cp, hcp⟩ : ∃ cp : Nat, a + 3 = cp := ⟨(a + 3).toNat, by omega⟩
                have hcapv : capF a b c d e f g = cp := by unfold capF; rw [if_pos hk, hcp]
                rw [hcapv] at hcA
                rw [Int.toNat_natCast, hcp, Int.toNat_natCast] at hf1
                obtain ⟨fg, hfg⟩ : ∃ fg : Nat → Nat → Int, (fun i k => ((cl (eightF Wn (ttF (lkF a b c d e f g) X Z Wn Dn rows)) cp (i, k) : Nat) : Int)) = fg := ⟨_, rfl⟩
                have hfg0 : ∀ i k, 0 ≤ fg i k := fun i k => by rw [← hfg]; exact Int.natCast_nonneg _
                rw [hfg] at hf1
                unfold cfgv at hf1
                gi_wp2
                refine ⟨trivial, (callsIn_wide.2 hf1).mono ?_⟩
                rintro en w7 ⟨A7, c7, rfl, hI7, hb7⟩
                clear q0 q1 q2 q3 q4 q5 q6 g0 g1 g2 g3 g4 hf1
                have v0 := (hb7.block _ (lt_of_block k0')).trans k0'
                have v1 := (hb7.block _ (lt_of_block k1')).trans k1'
                have vm := (hb7.block _ (lt_of_block hkm)).trans hkm
                obtain ⟨q0, q1, q2, q3, q4, q5, q6⟩ := box7 v0
                obtain ⟨n0', n1', n2', n3', n4'⟩ := box5 vm
                have hb07 := hlowW.trans (hb7.mono hlowW.size)
                have hM7 := (hM.below hb7).more hb7.size
                by_cases hop : gridOk (X + x0) (Z + z0) Wp Dp (pRows x0 z0 Wn Wp Dp rows)
                · have hf2 := fbuild_ok a b c d e f g (X + x0) (Z + z0) Wp Dp (pRows x0 z0 Wn Wp Dp rows) Am capm w7 hM7 hlp hk hop
                  rw [Int.toNat_natCast, hcp, Int.toNat_natCast] at hf2
                  obtain ⟨fp, hfp⟩ : ∃ fp : Nat → Nat → Int, (fun i k => ((cl (eightF Wp (ttF (lkF a b c d e f g) (X + x0) (Z + z0) Wp Dp (pRows x0 z0 Wn Wp Dp rows))) cp (i, k) : Nat) : Int)) = fp := ⟨_, rfl⟩
                  have hfp0 : ∀ i k, 0 ≤ fp i k := fun i k => by rw [← hfp]; exact Int.natCast_nonneg _
                  rw [hfp, hplen.out] at hf2
                  have hpl : ∀ i, i < m → lenF (pRows x0 z0 Wn Wp Dp rows) i = lenF rows (pPhi x0 z0 Wn Wp i) := fun i hi => by
                    unfold lenF
                    rw [(psi_in (part_map (rows := rows) hxW hzD) ho hop (by rw [hplen.out]; exact hi) 0).2.2.2.2]
                    rfl
                  have hpf : ∀ i k, i < m → k < lenF (pRows x0 z0 Wn Wp Dp rows) i → fp i k ≤ fg (pPhi x0 z0 Wn Wp i) k ∧ (farP x0 z0 Wn Dn Wp Dp cp (i, k) → fp i k = fg (pPhi x0 z0 Wn Wp i) k) := fun i k h1 h2 => by
                    obtain ⟨t1, t2⟩ := part_facts (lk := lkF a b c d e f g) ho hxW hzD hop (s := (i, k)) ⟨by rw [hplen.out]; exact h1, h2⟩ cp
                    rw [← hfp, ← hfg]
                    exact ⟨Int.ofNat_le.2 t1, fun h => congrArg _ (t2 h)⟩
                  clear hfg hfp
                  unfold cfgv at hf2
                  gi_wp2
                  refine ⟨trivial, (callsIn_wide.2 hf2).mono ?_⟩
                  rintro en w8 ⟨A8, c8, rfl, hI8, hb8⟩
                  clear q0 q1 q2 q3 q4 q5 q6 n0' n1' n2' n3' n4' hf2
                  have hb08 := hb07.trans (hb8.mono hb07.size)
                  have o0 := (hb8.block _ (lt_of_block v0)).trans v0
                  have o1 := (hb8.block _ (lt_of_block v1)).trans v1
                  have om := (hb8.block _ (lt_of_block vm)).trans vm
                  obtain ⟨g0, g1, g2, g3, g4⟩ := box5 o1
                  have hI78 := (hI7.below hb8).more hb8.size
                  have hfit := rfits_any X Z Wn Dn rows A cap fg hfg0 A7 c7 w8 ((hr.below hb08).more hb08.size) ho hI78
                  unfold gridv at hfit
                  gi_wp2
                  refine ⟨trivial, (callsIn_wide.2 hfit).mono ?_⟩
                  rintro en w9 ⟨rfl, hb9⟩
                  clear g0 g1 g2 g3 g4 hfit hI7
                  have hb09 := hb08.trans (hb9.mono hb08.size)
                  have i0' := (hb9.block _ (lt_of_block o0)).trans o0
                  have i1' := (hb9.block _ (lt_of_block o1)).trans o1
                  have im := (hb9.block _ (lt_of_block om)).trans om
                  obtain ⟨n0', n1', n2', n3', n4'⟩ := box5 im
                  have hI89 := (hI8.below hb9).more hb9.size
                  have hM9 := (((hM7.below hb8).more hb8.size).below hb9).more hb9.size
                  have hfit := rfits_any (X + x0) (Z + z0) Wp Dp (pRows x0 z0 Wn Wp Dp rows) Am capm fp hfp0 A8 c8 w9 hM9 hop (by rw [hplen.out]; exact hI89)
                  rw [hplen.out] at hfit
                  unfold gridv at hfit
                  gi_wp2
                  refine ⟨trivial, (callsIn_wide.2 hfit).mono ?_⟩
                  rintro en w10 ⟨rfl, hb10⟩
                  clear n0' n1' n2' n3' n4' hfit hI8
                  have hb010 := hb09.trans (hb10.mono hb09.size)
                  have j0 := (hb10.block _ (lt_of_block i0')).trans i0'
                  have j1 := (hb10.block _ (lt_of_block i1')).trans i1'
                  have jm := (hb10.block _ (lt_of_block im)).trans im
                  obtain ⟨q0, q1, q2, q3, q4, q5, q6⟩ := box7 j0
                  gi_wp2
                  refine ⟨trivial, (callsIn_wide.2 (hcA _)).mono ?_⟩
                  rintro en w11 ⟨rfl, hb11⟩
                  clear q0 q1 q2 q3 q4 q5 q6
                  have hb011 := hb010.trans (hb11.mono hb010.size)
                  have y1 := (hb11.block _ (lt_of_block j1)).trans j1
                  have ym := (hb11.block _ (lt_of_block jm)).trans jm
                  have hb811 := hb9.trans ((hb10.trans (hb11.mono hb10.size)).mono hb9.size)
                  have hIa := (hI78.below hb811).more hb811.size
                  have hb911 := hb10.trans (hb11.mono hb10.size)
                  have hIb := (hI89.below hb911).more hb911.size
                  have l8 := lenF_le ho
                  clear hI78 hI89 hM9 hM7 hM hclr hcp hcapv hfg0 hfp0
                  gi_wp2
                  gi_loopw [25] (fun x wr => ∃ i : Nat, x = .int .i64 i ∧ i ≤ m ∧ Below w11.heap.size w11 wr) (fun x _ => m - (intOf x).toNat)
                  case atStart => exact ⟨0, rfl, Nat.zero_le _, Below.refl _ _⟩
                  case round =>
                    obtain ⟨i, rfl, hi, hlow2⟩ := hrel
                    by_cases hin : i < m
                    · have hin' : (i : Int) < (m : Int) := by omega
                      have hwi : IntKind.i64.wrap ((i : Int) + 1) = (i : Int) + 1 := by rw [IntKind.wrap_i64]; omega
                      obtain ⟨xx, zz, hxx, hzz, hx0x, hxx1, hz0z, hzz1, hpe, hpl2, hzW⟩ := hpp i hin
                      have hWp0 : Wp ≠ 0 := by have := hWp.out; omega
                      have hi0 : (0 : Int) ≤ (i : Int) := by omega
                      have exm : (i : Int) % Wp = ((i % Wp : Nat) : Int) := by simp
                      have exd : (i : Int) / Wp = ((i / Wp : Nat) : Int) := by simp
                      have eD : IntKind.i64.wrap ((i : Int) / Wp) = (i : Int) / Wp := by rw [exd, IntKind.wrap_i64]; have := Nat.div_le_self i Wp; omega
                      have eM : IntKind.i64.wrap ((i : Int) % Wp) = (i : Int) % Wp := by rw [exm, IntKind.wrap_i64]; have := Nat.mod_le i Wp; omega
                      have eX : IntKind.i64.wrap ((x0 : Int) + (i : Int) % Wp) = (xx : Int) := by rw [exm, IntKind.wrap_i64]; omega
                      have eZ : IntKind.i64.wrap ((z0 : Int) + (i : Int) / Wp) = (zz : Int) := by rw [exd, IntKind.wrap_i64]; omega
                      have hfarP : ∀ k, (((x0 = 0 ∨ (cp : Int) ≤ xx - x0) ∧ (x1 = Wn ∨ (cp : Int) ≤ x1 - 1 - xx) ∧ (z0 = 0 ∨ (cp : Int) ≤ zz - z0) ∧ (z1 = Dn ∨ (cp : Int) ≤ z1 - 1 - zz)) → farP x0 z0 Wn Dn Wp Dp cp (i, k)) := fun k h => by
                        unfold farP
                        simp only
                        rw [exm, exd]
                        have := hWp.out
                        have := hDp.out
                        omega
                      clear exm exd
                      obtain ⟨ix, hixe⟩ : ∃ ix, zz * Wn + xx = ix := ⟨_, rfl⟩
                      have hcast : ((zz * Wn : Nat) : Int) = (zz : Int) * Wn := by simp
                      have em1 : IntKind.i64.wrap ((zz : Int) * Wn) = (zz : Int) * Wn := by rw [IntKind.wrap_i64, ← hcast]; omega
                      have em2 : IntKind.i64.wrap ((zz : Int) * Wn + xx) = (ix : Int) := by rw [IntKind.wrap_i64, ← hcast]; omega
                      rw [hixe] at hpe hpl2
                      have hixI : (ix : Int) < (rows.length : Int) := by omega
                      have hpli := hpl i hin
                      have hpfi' := fun k => hpf i k hin
                      rw [hpe] at hpli
                      simp only [hpe] at hpfi'
                      replace hxx := Lib.hid hxx
                      replace hzz := Lib.hid hzz
                      clear hcast hzW hixe hpe
                      obtain ⟨n0', n1', n2', n3', n4'⟩ := box5 ((hlow2.block _ (lt_of_block ym)).trans ym)
                      gi_wp2
                      have hS : (CellsL [(⟨w5.heap.size, 2, none⟩, .int .i64 Wp)]) (wr.drew) := ⟨n2', trivial⟩
                      refine wpIn_region_ord [(0, true), (1, true), (2, true), (3, true), (4, true), (5, true), (6, true), (7, true), (8, true), (9, true), (10, true), (11, true), (12, true)] (CellsL [(⟨w5.heap.size, 2, none⟩, .int .i64 Wp)]) (fun _ => trivial) rfl (by first | exact then_put rfl | (intro c d v a w h; cases d <;> exact h)) (by kernel_rfl) ?_
                      simp only [List.length_cons, List.length_nil, Nat.reduceAdd, List.drop_succ_cons, List.drop_zero]
                      iterate 13 (apply wpOrd_quiet rfl hS rfl; (intro w' hw'; obtain ⟨q0, _⟩ := hw'; go_simp; first | exact rfl | (rw [if_neg hWp0, Int.tmod_eq_emod_of_nonneg hi0]; exact rfl) | (rw [if_neg hWp0, Int.tdiv_eq_ediv_of_nonneg hi0]; exact rfl)); go_simp)
                      refine wpOrd_nil ?_
                      clear hS n0' n1' n2' n3' n4' eD eM
                      have eT : (i : Int).tmod Wp = (i : Int) % Wp := Int.tmod_eq_emod_of_nonneg hi0
                      try simp only [eT, eX]
                      clear eT
                      obtain ⟨wd, hwd, hwd1⟩ : ∃ wd, wr.drew = wd ∧ Below w11.heap.size w11 wd := ⟨_, rfl, hlow2.drew⟩
                      rw [hwd]
                      clear hwd hlow2
                      obtain ⟨g0, g1, g2, g3, g4⟩ := box5 ((hwd1.block _ (lt_of_block y1)).trans y1)
                      gi_upto_region 22 with (fail)
                      gi_cut [28] from 400 (fun u28 wc => ∃ fb : Bool, u28 = .bool fb ∧ (fb = true → ((x0 = 0 ∨ (cp : Int) ≤ xx - x0) ∧ (x1 = Wn ∨ (cp : Int) ≤ x1 - 1 - xx) ∧ (z0 = 0 ∨ (cp : Int) ≤ zz - z0) ∧ (z1 = Dn ∨ (cp : Int) ≤ z1 - 1 - zz))) ∧ wc = wd)
                      case first => as_aux_lemma =>
                        have s1 : IntKind.i64.wrap ((xx : Int) - x0) = (xx : Int) - x0 := by rw [IntKind.wrap_i64]; omega
                        have s2 : IntKind.i64.wrap ((x1 : Int) - 1) = (x1 : Int) - 1 := by rw [IntKind.wrap_i64]; omega
                        have s3 : IntKind.i64.wrap ((x1 : Int) - 1 - xx) = (x1 : Int) - 1 - xx := by rw [IntKind.wrap_i64]; omega
                        have s4 : IntKind.i64.wrap ((zz : Int) - z0) = (zz : Int) - z0 := by rw [IntKind.wrap_i64]; omega
                        have s5 : IntKind.i64.wrap ((z1 : Int) - 1) = (z1 : Int) - 1 := by rw [IntKind.wrap_i64]; omega
                        have s6 : IntKind.i64.wrap ((z1 : Int) - 1 - zz) = (z1 : Int) - 1 - zz := by rw [IntKind.wrap_i64]; omega
                        obtain ⟨A1, hA1⟩ : ∃ t, ((x0 : Int) == 0) = t := ⟨_, rfl⟩
                        obtain ⟨A2, hA2⟩ : ∃ t, ((x1 : Int) == (Wn : Int)) = t := ⟨_, rfl⟩
                        obtain ⟨A3, hA3⟩ : ∃ t, ((z0 : Int) == 0) = t := ⟨_, rfl⟩
                        obtain ⟨A4, hA4⟩ : ∃ t, ((z1 : Int) == (Dn : Int)) = t := ⟨_, rfl⟩
                        obtain ⟨B1, hB1⟩ : ∃ t, decide ((cp : Int) ≤ (xx : Int) - x0) = t := ⟨_, rfl⟩
                        obtain ⟨B2, hB2⟩ : ∃ t, decide ((cp : Int) ≤ (x1 : Int) - 1 - xx) = t := ⟨_, rfl⟩
                        obtain ⟨B3, hB3⟩ : ∃ t, decide ((cp : Int) ≤ (zz : Int) - z0) = t := ⟨_, rfl⟩
                        obtain ⟨B4, hB4⟩ : ∃ t, decide ((cp : Int) ≤ (z1 : Int) - 1 - zz) = t := ⟨_, rfl⟩
                        cases A1 with
                        | true =>
                          cases A2 with
                          | true =>
                            cases A3 with
                            | true =>
                              cases A4 with
                              | true =>
                                gi_wp2
                                gi_meet
                                case rel => exact ⟨_, rfl, fun h => (by first | exact absurd h (by decide) | exact far_of (by first | exact .inl hA1 | exact .inr hB1) (by first | exact .inl hA2 | exact .inr hB2) (by first | exact .inl hA3 | exact .inr hB3) (by first | exact .inl hA4 | exact .inr hB4)), rfl⟩
                              | false =>
                                cases B4 with
                                | true =>
                                  gi_wp2
                                  gi_meet
                                  case rel => exact ⟨_, rfl, fun h => (by first | exact absurd h (by decide) | exact far_of (by first | exact .inl hA1 | exact .inr hB1) (by first | exact .inl hA2 | exact .inr hB2) (by first | exact .inl hA3 | exact .inr hB3) (by first | exact .inl hA4 | exact .inr hB4)), rfl⟩
                                | false =>
                                  gi_wp2
                                  gi_meet
                                  case rel => exact ⟨_, rfl, fun h => (by first | exact absurd h (by decide) | exact far_of (by first | exact .inl hA1 | exact .inr hB1) (by first | exact .inl hA2 | exact .inr hB2) (by first | exact .inl hA3 | exact .inr hB3) (by first | exact .inl hA4 | exact .inr hB4)), rfl⟩
                            | false =>
                              cases B3 with
                              | true =>
                                cases A4 with
                                | true =>
                                  gi_wp2
                                  gi_meet
                                  case rel => exact ⟨_, rfl, fun h => (by first | exact absurd h (by decide) | exact far_of (by first | exact .inl hA1 | exact .inr hB1) (by first | exact .inl hA2 | exact .inr hB2) (by first | exact .inl hA3 | exact .inr hB3) (by first | exact .inl hA4 | exact .inr hB4)), rfl⟩
                                | false =>
                                  cases B4 with
                                  | true =>
                                    gi_wp2
                                    gi_meet
                                    case rel => exact ⟨_, rfl, fun h => (by first | exact absurd h (by decide) | exact far_of (by first | exact .inl hA1 | exact .inr hB1) (by first | exact .inl hA2 | exact .inr hB2) (by first | exact .inl hA3 | exact .inr hB3) (by first | exact .inl hA4 | exact .inr hB4)), rfl⟩
                                  | false =>
                                    gi_wp2
                                    gi_meet
                                    case rel => exact ⟨_, rfl, fun h => (by first | exact absurd h (by decide) | exact far_of (by first | exact .inl hA1 | exact .inr hB1) (by first | exact .inl hA2 | exact .inr hB2) (by first | exact .inl hA3 | exact .inr hB3) (by first | exact .inl hA4 | exact .inr hB4)), rfl⟩
                              | false =>
                                gi_wp2
                                gi_meet
                                case rel => exact ⟨_, rfl, fun h => (by first | exact absurd h (by decide) | exact far_of (by first | exact .inl hA1 | exact .inr hB1) (by first | exact .inl hA2 | exact .inr hB2) (by first | exact .inl hA3 | exact .inr hB3) (by first | exact .inl hA4 | exact .inr hB4)), rfl⟩
                          | false =>
                            cases B2 with
                            | true =>
                              cases A3 with
                              | true =>
                                cases A4 with
                                | true =>
                                  gi_wp2
                                  gi_meet
                                  case rel => exact ⟨_, rfl, fun h => (by first | exact absurd h (by decide) | exact far_of (by first | exact .inl hA1 | exact .inr hB1) (by first | exact .inl hA2 | exact .inr hB2) (by first | exact .inl hA3 | exact .inr hB3) (by first | exact .inl hA4 | exact .inr hB4)), rfl⟩
                                | false =>
                                  cases B4 with
                                  | true =>
                                    gi_wp2
                                    gi_meet
                                    case rel => exact ⟨_, rfl, fun h => (by first | exact absurd h (by decide) | exact far_of (by first | exact .inl hA1 | exact .inr hB1) (by first | exact .inl hA2 | exact .inr hB2) (by first | exact .inl hA3 | exact .inr hB3) (by first | exact .inl hA4 | exact .inr hB4)), rfl⟩
                                  | false =>
                                    gi_wp2
                                    gi_meet
                                    case rel => exact ⟨_, rfl, fun h => (by first | exact absurd h (by decide) | exact far_of (by first | exact .inl hA1 | exact .inr hB1) (by first | exact .inl hA2 | exact .inr hB2) (by first | exact .inl hA3 | exact .inr hB3) (by first | exact .inl hA4 | exact .inr hB4)), rfl⟩
                              | false =>
                                cases B3 with
                                | true =>
                                  cases A4 with
                                  | true =>
                                    gi_wp2
                                    gi_meet
                                    case rel => exact ⟨_, rfl, fun h => (by first | exact absurd h (by decide) | exact far_of (by first | exact .inl hA1 | exact .inr hB1) (by first | exact .inl hA2 | exact .inr hB2) (by first | exact .inl hA3 | exact .inr hB3) (by first | exact .inl hA4 | exact .inr hB4)), rfl⟩
                                  | false =>
                                    cases B4 with
                                    | true =>
                                      gi_wp2
                                      gi_meet
                                      case rel => exact ⟨_, rfl, fun h => (by first | exact absurd h (by decide) | exact far_of (by first | exact .inl hA1 | exact .inr hB1) (by first | exact .inl hA2 | exact .inr hB2) (by first | exact .inl hA3 | exact .inr hB3) (by first | exact .inl hA4 | exact .inr hB4)), rfl⟩
                                    | false =>
                                      gi_wp2
                                      gi_meet
                                      case rel => exact ⟨_, rfl, fun h => (by first | exact absurd h (by decide) | exact far_of (by first | exact .inl hA1 | exact .inr hB1) (by first | exact .inl hA2 | exact .inr hB2) (by first | exact .inl hA3 | exact .inr hB3) (by first | exact .inl hA4 | exact .inr hB4)), rfl⟩
                                | false =>
                                  gi_wp2
                                  gi_meet
                                  case rel => exact ⟨_, rfl, fun h => (by first | exact absurd h (by decide) | exact far_of (by first | exact .inl hA1 | exact .inr hB1) (by first | exact .inl hA2 | exact .inr hB2) (by first | exact .inl hA3 | exact .inr hB3) (by first | exact .inl hA4 | exact .inr hB4)), rfl⟩
                            | false =>
                              gi_wp2
                              gi_meet
                              case rel => exact ⟨_, rfl, fun h => (by first | exact absurd h (by decide) | exact far_of (by first | exact .inl hA1 | exact .inr hB1) (by first | exact .inl hA2 | exact .inr hB2) (by first | exact .inl hA3 | exact .inr hB3) (by first | exact .inl hA4 | exact .inr hB4)), rfl⟩
                        | false =>
                          cases B1 with
                          | true =>
                            cases A2 with
                            | true =>
                              cases A3 with
                              | true =>
                                cases A4 with
                                | true =>
                                  gi_wp2
                                  gi_meet
                                  case rel => exact ⟨_, rfl, fun h => (by first | exact absurd h (by decide) | exact far_of (by first | exact .inl hA1 | exact .inr hB1) (by first | exact .inl hA2 | exact .inr hB2) (by first | exact .inl hA3 | exact .inr hB3) (by first | exact .inl hA4 | exact .inr hB4)), rfl⟩
                                | false =>
                                  cases B4 with
                                  | true =>
                                    gi_wp2
                                    gi_meet
                                    case rel => exact ⟨_, rfl, fun h => (by first | exact absurd h (by decide) | exact far_of (by first | exact .inl hA1 | exact .inr hB1) (by first | exact .inl hA2 | exact .inr hB2) (by first | exact .inl hA3 | exact .inr hB3) (by first | exact .inl hA4 | exact .inr hB4)), rfl⟩
                                  | false =>
                                    gi_wp2
                                    gi_meet
                                    case rel => exact ⟨_, rfl, fun h => (by first | exact absurd h (by decide) | exact far_of (by first | exact .inl hA1 | exact .inr hB1) (by first | exact .inl hA2 | exact .inr hB2) (by first | exact .inl hA3 | exact .inr hB3) (by first | exact .inl hA4 | exact .inr hB4)), rfl⟩
                              | false =>
                                cases B3 with
                                | true =>
                                  cases A4 with
                                  | true =>
                                    gi_wp2
                                    gi_meet
                                    case rel => exact ⟨_, rfl, fun h => (by first | exact absurd h (by decide) | exact far_of (by first | exact .inl hA1 | exact .inr hB1) (by first | exact .inl hA2 | exact .inr hB2) (by first | exact .inl hA3 | exact .inr hB3) (by first | exact .inl hA4 | exact .inr hB4)), rfl⟩
                                  | false =>
                                    cases B4 with
                                    | true =>
                                      gi_wp2
                                      gi_meet
                                      case rel => exact ⟨_, rfl, fun h => (by first | exact absurd h (by decide) | exact far_of (by first | exact .inl hA1 | exact .inr hB1) (by first | exact .inl hA2 | exact .inr hB2) (by first | exact .inl hA3 | exact .inr hB3) (by first | exact .inl hA4 | exact .inr hB4)), rfl⟩
                                    | false =>
                                      gi_wp2
                                      gi_meet
                                      case rel => exact ⟨_, rfl, fun h => (by first | exact absurd h (by decide) | exact far_of (by first | exact .inl hA1 | exact .inr hB1) (by first | exact .inl hA2 | exact .inr hB2) (by first | exact .inl hA3 | exact .inr hB3) (by first | exact .inl hA4 | exact .inr hB4)), rfl⟩
                                | false =>
                                  gi_wp2
                                  gi_meet
                                  case rel => exact ⟨_, rfl, fun h => (by first | exact absurd h (by decide) | exact far_of (by first | exact .inl hA1 | exact .inr hB1) (by first | exact .inl hA2 | exact .inr hB2) (by first | exact .inl hA3 | exact .inr hB3) (by first | exact .inl hA4 | exact .inr hB4)), rfl⟩
                            | false =>
                              cases B2 with
                              | true =>
                                cases A3 with
                                | true =>
                                  cases A4 with
                                  | true =>
                                    gi_wp2
                                    gi_meet
                                    case rel => exact ⟨_, rfl, fun h => (by first | exact absurd h (by decide) | exact far_of (by first | exact .inl hA1 | exact .inr hB1) (by first | exact .inl hA2 | exact .inr hB2) (by first | exact .inl hA3 | exact .inr hB3) (by first | exact .inl hA4 | exact .inr hB4)), rfl⟩
                                  | false =>
                                    cases B4 with
                                    | true =>
                                      gi_wp2
                                      gi_meet
                                      case rel => exact ⟨_, rfl, fun h => (by first | exact absurd h (by decide) | exact far_of (by first | exact .inl hA1 | exact .inr hB1) (by first | exact .inl hA2 | exact .inr hB2) (by first | exact .inl hA3 | exact .inr hB3) (by first | exact .inl hA4 | exact .inr hB4)), rfl⟩
                                    | false =>
                                      gi_wp2
                                      gi_meet
                                      case rel => exact ⟨_, rfl, fun h => (by first | exact absurd h (by decide) | exact far_of (by first | exact .inl hA1 | exact .inr hB1) (by first | exact .inl hA2 | exact .inr hB2) (by first | exact .inl hA3 | exact .inr hB3) (by first | exact .inl hA4 | exact .inr hB4)), rfl⟩
                                | false =>
                                  cases B3 with
                                  | true =>
                                    cases A4 with
                                    | true =>
                                      gi_wp2
                                      gi_meet
                                      case rel => exact ⟨_, rfl, fun h => (by first | exact absurd h (by decide) | exact far_of (by first | exact .inl hA1 | exact .inr hB1) (by first | exact .inl hA2 | exact .inr hB2) (by first | exact .inl hA3 | exact .inr hB3) (by first | exact .inl hA4 | exact .inr hB4)), rfl⟩
                                    | false =>
                                      cases B4 with
                                      | true =>
                                        gi_wp2
                                        gi_meet
                                        case rel => exact ⟨_, rfl, fun h => (by first | exact absurd h (by decide) | exact far_of (by first | exact .inl hA1 | exact .inr hB1) (by first | exact .inl hA2 | exact .inr hB2) (by first | exact .inl hA3 | exact .inr hB3) (by first | exact .inl hA4 | exact .inr hB4)), rfl⟩
                                      | false =>
                                        gi_wp2
                                        gi_meet
                                        case rel => exact ⟨_, rfl, fun h => (by first | exact absurd h (by decide) | exact far_of (by first | exact .inl hA1 | exact .inr hB1) (by first | exact .inl hA2 | exact .inr hB2) (by first | exact .inl hA3 | exact .inr hB3) (by first | exact .inl hA4 | exact .inr hB4)), rfl⟩
                                  | false =>
                                    gi_wp2
                                    gi_meet
                                    case rel => exact ⟨_, rfl, fun h => (by first | exact absurd h (by decide) | exact far_of (by first | exact .inl hA1 | exact .inr hB1) (by first | exact .inl hA2 | exact .inr hB2) (by first | exact .inl hA3 | exact .inr hB3) (by first | exact .inl hA4 | exact .inr hB4)), rfl⟩
                              | false =>
                                gi_wp2
                                gi_meet
                                case rel => exact ⟨_, rfl, fun h => (by first | exact absurd h (by decide) | exact far_of (by first | exact .inl hA1 | exact .inr hB1) (by first | exact .inl hA2 | exact .inr hB2) (by first | exact .inl hA3 | exact .inr hB3) (by first | exact .inl hA4 | exact .inr hB4)), rfl⟩
                          | false =>
                            gi_wp2
                            gi_meet
                            case rel => exact ⟨_, rfl, fun h => (by first | exact absurd h (by decide) | exact far_of (by first | exact .inl hA1 | exact .inr hB1) (by first | exact .inl hA2 | exact .inr hB2) (by first | exact .inl hA3 | exact .inr hB3) (by first | exact .inl hA4 | exact .inr hB4)), rfl⟩
                      case rest => as_aux_lemma =>
                        obtain ⟨fb, rfl, hfb, rfl⟩ := hcut
                        rw [hpli] at hpfi'
                        obtain ⟨lp, hlp2⟩ : ∃ lp, lenF rows ix = lp := ⟨_, rfl⟩
                        have hpli2 := hpli.trans hlp2
                        rw [hlp2] at hpfi'
                        have hlp8 : lp ≤ 8 := by rw [← hlp2]; exact l8 ix
                        clear g0 g1 g2 g3 g4
                        obtain ⟨ad8, ai8, ci8, e8, hbl8, hca8, hrd8⟩ := (hIb.below hwd1).at_ hin
                        subst e8
                        rw [hpli2] at hca8 hrd8
                        gi_wp2
                        gi_loopw [29] (fun x wk => ∃ k : Nat, x = .int .i64 k ∧ k ≤ lp ∧ Below w11.heap.size w11 wk) (fun x _ => lp - (intOf x).toNat)
                        case atStart => exact ⟨0, rfl, Nat.zero_le _, hwd1⟩
                        case round =>
                          clear hca8
                          obtain ⟨k, rfl, hk', hlow3⟩ := hrel
                          obtain ⟨ad8', ai8', ci8', e8, hbl8', hca8, hrd8'⟩ := (hIb.below hlow3).at_ hin
                          injection e8 with e8
                          subst e8
                          rw [hpli2] at hca8 hrd8'
                          by_cases hkn : k < lp
                          · have hkn' : (k : Int) < (lp : Int) := by omega
                            have hwk2 : IntKind.i64.wrap ((k : Int) + 1) = (k : Int) + 1 := by rw [IntKind.wrap_i64]; omega
                            obtain ⟨ad7, ai7, ci7, e7, hbl7, hca7, hrd7⟩ := (hIa.below hlow3).at_ hpl2
                            subst e7
                            rw [hlp2] at hca7 hrd7
                            obtain ⟨bb8, u8, rfl, hbb8, hu8, hc8⟩ := hrd8'.at_ hkn
                            rw [intRow_get hkn] at hu8
                            injection hu8 with hu8
                            subst hu8
                            obtain ⟨bb7, u7, rfl, hbb7, hu7, hc7⟩ := hrd7.at_ hkn
                            rw [intRow_get hkn] at hu7
                            injection hu7 with hu7
                            subst hu7
                            obtain ⟨hle, hfe⟩ := hpfi' k hkn
                            generalize fp i k = y at hc8 hle hfe
                            generalize fg ix k = n at hc7 hle hfe
                            have hgt : ¬ n < y := by omega
                            obtain ⟨g0, g1, g2, g3, g4⟩ := box5 ((hlow3.block _ (lt_of_block y1)).trans y1)
                            cases fb with
                            | true =>
                              obtain rfl : y = n := hfe (hfarP k (hfb rfl))
                              clear hle hfe
                              have hne : (y != y) = false := by simp
                              gi_wp2
                              go_roundw
                              case rel => exact ⟨k + 1, by go_num, by omega, hlow3⟩
                              case measure => simp [intOf]; omega
                            | false =>
                              clear hle hfe
                              gi_wp2
                              go_roundw
                              case rel => exact ⟨k + 1, by go_num, by omega, hlow3⟩
                              case measure => simp [intOf]; omega
                          · obtain rfl : k = lp := by omega
                            gi_wp2
                            go_roundw
                            case rel => exact ⟨i + 1, by go_num, by omega, hlow3⟩
                            case measure => simp [intOf]; omega
                    · obtain rfl : m = i := by omega
                      gi_wp2
                      refine ⟨trivial, (callsIn_wide.2 (hwk _)).mono ?_⟩
                      rintro en w12 ⟨rfl, hb12⟩
                      gi_wp2
                      go_ret
                      exact ⟨rfl, hb011.trans ((hlow2.trans (hb12.mono hlow2.size)).mono hb011.size)⟩
                · have hf2 := fbuild_no a b c d e f g (X + x0) (Z + z0) Wp Dp (pRows x0 z0 Wn Wp Dp rows) Am capm w7 hM7 hlp (fun h => hop h.2)
                  rw [if_pos hk, hplen.out] at hf2
                  unfold cfgv at hf2
                  gi_wp2
                  refine ⟨trivial, (callsIn_wide.2 hf2).mono ?_⟩
                  rintro en w8 ⟨rfl, hb8⟩
                  clear q0 q1 q2 q3 q4 q5 q6 n0' n1' n2' n3' n4' hf2
                  have hb08 := hb07.trans (hb8.mono hb07.size)
                  have om := (hb8.block _ (lt_of_block vm)).trans vm
                  obtain ⟨n0', n1', n2', n3', n4'⟩ := box5 om
                  have hch := rcheck_any (X + x0) (Z + z0) Wp Dp (pRows x0 z0 Wn Wp Dp rows) Am capm w8 ((hM7.below hb8).more hb8.size) hlp
                  rw [hplen.out] at hch
                  unfold gridv at hch
                  gi_wp2_with (refine wpListIn_off rfl ?_)
                  refine ⟨trivial, (callsIn_wide.2 hch).mono ?_⟩
                  rintro en w9 ⟨⟨er, rfl, hei⟩, hb9⟩
                  have hne : (er != 0) = true := by
                    have : er ≠ 0 := fun h => hop (hei.1 h)
                    simpa using this
                  clear hei
                  gi_wp2
                  refine ⟨trivial, (callsIn_wide.2 (hwk _)).mono ?_⟩
                  rintro en w10 ⟨rfl, hb10⟩
                  gi_wp2
                  go_ret
                  exact ⟨rfl, hb08.trans ((hb9.trans (hb10.mono hb9.size)).mono hb08.size)⟩
      · have hne : (checkF a b c d e f g != 0) = true := by simpa using hk
        generalize checkF a b c d e f g = er at hk hne
        gi_wp2
        refine ⟨trivial, (callsIn_wide.2 (hwk _)).mono ?_⟩
        rintro en w4 ⟨rfl, hb4⟩
        gi_wp2
        go_ret
        exact ⟨rfl, hb03.trans (hb4.mono hb03.size)⟩
    · have hne : (er != 0) = true := by
        have : er ≠ 0 := fun h => ho (hei.1 h)
        simpa using this
      clear hei
      gi_wp2_with (refine wpListIn_off rfl ?_)
      refine ⟨trivial, (callsIn_wide.2 (hwk _)).mono ?_⟩
      rintro en w3 ⟨rfl, hb3⟩
      gi_wp2
      go_ret
      exact ⟨rfl, hb02.trans (hb3.mono hb02.size)⟩
theorem fieldParts_calls (a b c d e f g X Z W D left low right high : Int) (rows : List (List V3)) (A : Option Addr) (cap : Nat) (w : World) (hr : RowsAt w w.heap.size A rows) (hl : lensOk rows) :
    Calls Try.prog 5 #[.agg #[.int .i64 a, .int .i64 b, .int .i64 c, .int .i64 d, .int .i64 e, .int .i64 f, .int .i64 g], .agg #[.int .i64 X, .int .i64 Z, .int .i64 W, .int .i64 D, .slice A rows.length cap], .int .i64 left, .int .i64 low, .int .i64 right, .int .i64 high] w fun en w' => en = .returned (.bool true) ∧ Below w.heap.size w w' :=
  fparts_any a b c d e f g X Z W D left low right high rows A cap w hr hl
end Go.Proofs.Ytcdfojfafnecdaa
