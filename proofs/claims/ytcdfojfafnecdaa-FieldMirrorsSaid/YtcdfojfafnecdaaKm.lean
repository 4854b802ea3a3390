/- Several texts in one: Fv Ha Hc Hd He. -/
import Derived.Test.YtcdfojfafnecdaaFp
/- footpathref14.Cap, Same of equal rows, Fits of rows that fit; footpathref01.Ints of equal rows: by walks. No conditions but that the rows lie where they are said to lie. -/
namespace Go.Proofs.Ytcdfojfafnecdaa
open Go Go.RowKit Go.Sx Go.Mp
attribute [local go_sem] Oper.semAt_some
set_option maxHeartbeats 1000000 in
set_option maxRecDepth 100000 in
theorem rcap_any (a b c d e f g : Int) (w : World) : Calls Try.prog 14 #[cfgv a b c d e f g] w fun en w' => en = .returned (.int .i64 (capF a b c d e f g)) ∧ Below w.heap.size w w' := by
  have hba : Below w.heap.size w (w.alloc (.cells #[.int .i64 a, .int .i64 b, .int .i64 c, .int .i64 d, .int .i64 e, .int .i64 f, .int .i64 g] 23)) := (Below.refl _ _).alloc (Nat.le_refl _) _
  have hc := rcfg_any a b c d e f g (w.alloc (.cells #[.int .i64 a, .int .i64 b, .int .i64 c, .int .i64 d, .int .i64 e, .int .i64 f, .int .i64 g] 23))
  have hB := World.alloc_heap_new w (.cells #[.int .i64 a, .int .i64 b, .int .i64 c, .int .i64 d, .int .i64 e, .int .i64 f, .int .i64 g] 23)
  unfold cfgv at hc ⊢
  unfold capF
  by_cases hk : checkF a b c d e f g = 0
  · have ha := check_clear hk
    have e1 : IntKind.i64.wrap (a + 3) = a + 3 := by rw [IntKind.wrap_i64]; omega
    rw [if_pos hk]
    rw [hk] at hc
    refine (callsIn_wide (n := 6)).1 ?_
    refine callsIn_of_wp Try.func14 rfl trivial ?_
    simp only [Try.ntmps14, List.size_toArray, List.length_cons, List.length_nil, Nat.reduceAdd, Nat.reduceSub, Array.replicate_succ, Array.replicate_zero, List.push_toArray, List.append_toArray, List.nil_append, List.cons_append]
    gi_wp2_with (refine ⟨trivial, ?_⟩; gi_at_call 19; refine (callsIn_wide.2 hc).mono ?_; rintro en w3 ⟨rfl, hb3⟩; have c0 : w3.cell? ⟨w.heap.size, 0, none⟩ = some (.int .i64 a) := cell_of ((hb3.block _ (lt_of_block hB)).trans hB) rfl)
    go_ret
    exact ⟨rfl, hba.trans (hb3.mono hba.size)⟩
  · have hne : (checkF a b c d e f g != 0) = true := by simpa using hk
    rw [if_neg hk]
    generalize checkF a b c d e f g = er at hc hne hk
    refine (callsIn_wide (n := 6)).1 ?_
    refine callsIn_of_wp Try.func14 rfl trivial ?_
    simp only [Try.ntmps14, List.size_toArray, List.length_cons, List.length_nil, Nat.reduceAdd, Nat.reduceSub, Array.replicate_succ, Array.replicate_zero, List.push_toArray, List.append_toArray, List.nil_append, List.cons_append]
    gi_wp2_with (refine ⟨trivial, ?_⟩; gi_at_call 19; refine (callsIn_wide.2 hc).mono ?_; rintro en w3 ⟨rfl, hb3⟩)
    go_ret
    exact ⟨rfl, hba.trans (hb3.mono hba.size)⟩
set_option maxHeartbeats 1000000 in
set_option maxRecDepth 100000 in
theorem rints_any (q : Nat) (f : Nat → Int) (A B : Option Addr) (ca cb : Nat) (w : World) (hq : q ≤ 100000) (hA : Reads w w.heap.size 1 A q (intRow q f)) (hB : Reads w w.heap.size 1 B q (intRow q f)) :
    Calls Try.prog 23 #[.slice A q ca, .slice B q cb] w fun en w' => en = .returned (.bool true) ∧ Below w.heap.size w w' := by
  refine (callsIn_wide (n := 6)).1 ?_
  refine callsIn_of_wp Try.func23 rfl trivial ?_
  simp only [Try.ntmps23, List.size_toArray, List.length_cons, List.length_nil, Nat.reduceAdd, Nat.reduceSub, Array.replicate_succ, Array.replicate_zero, List.push_toArray, List.append_toArray, List.nil_append, List.cons_append]
  gi_wp2
  gi_loopw [5] (fun x wr => ∃ k : Nat, x = .int .i64 k ∧ k ≤ q ∧ Below w.heap.size w wr) (fun x _ => q - (intOf x).toNat)
  case atStart => exact ⟨0, rfl, Nat.zero_le _, Below.refl _ _⟩
  case round =>
    obtain ⟨k, rfl, hk, hlow⟩ := hrel
    by_cases hkn : k < q
    · have hkn' : (k : Int) < (q : Int) := by omega
      have hwk : IntKind.i64.wrap ((k : Int) + 1) = (k : Int) + 1 := by rw [IntKind.wrap_i64]; omega
      obtain ⟨a, u, rfl, hba, hu, hc⟩ := (hA.below hlow).at_ hkn
      obtain ⟨b, v, rfl, hbb, hv, hd⟩ := (hB.below hlow).at_ hkn
      rw [intRow_get hkn] at hu hv
      injection hu with hu
      injection hv with hv
      subst hu; subst hv
      generalize f k = x at hc hd
      gi_wp2
      have hS : (CellsL [(a.add k, .int .i64 x), (b.add k, .int .i64 x)]) (wr.drew) := ⟨hc, hd, trivial⟩
      refine wpIn_region_ord [(0, true), (1, true), (2, true), (3, true), (4, true), (5, true), (6, true), (7, true)] (CellsL [(a.add k, .int .i64 x), (b.add k, .int .i64 x)]) (fun _ => trivial) rfl (by first | exact then_put rfl | (intro c d v a w h; cases d <;> exact h)) (by kernel_rfl) ?_
      simp only [List.length_cons, List.length_nil, Nat.reduceAdd, List.drop_succ_cons, List.drop_zero]
      iterate 8 (apply wpOrd_quiet rfl hS rfl; (intro w' hw'; obtain ⟨q0, q1, _⟩ := hw'; go_simp; exact rfl); go_simp)
      refine wpOrd_nil ?_
      clear hS
      gi_wp2
      go_roundw
      case rel => exact ⟨k + 1, by go_num, by omega, hlow.drew⟩
      case measure => simp [intOf]; omega
    · obtain rfl : k = q := by omega
      gi_wp2
      go_ret
      exact ⟨rfl, hlow⟩
set_option maxHeartbeats 1000000 in
set_option maxRecDepth 100000 in
theorem rsame_any (n : Nat) (len : Nat → Nat) (f : Nat → Nat → Int) (A B : Option Addr) (ca cb : Nat) (w : World) (hn : n ≤ 4096) (h8 : ∀ i, len i ≤ 8) (hA : IntsAt w w.heap.size A n len f) (hB : IntsAt w w.heap.size B n len f) :
    Calls Try.prog 12 #[.slice A n ca, .slice B n cb] w fun en w' => en = .returned (.bool true) ∧ Below w.heap.size w w' := by
  refine (callsIn_wide (n := 6)).1 ?_
  refine callsIn_of_wp Try.func12 rfl trivial ?_
  simp only [Try.ntmps12, List.size_toArray, List.length_cons, List.length_nil, Nat.reduceAdd, Nat.reduceSub, Array.replicate_succ, Array.replicate_zero, List.push_toArray, List.append_toArray, List.nil_append, List.cons_append]
  gi_wp2
  gi_loopw [5] (fun x wr => ∃ i : Nat, x = .int .i64 i ∧ i ≤ n ∧ Below w.heap.size w wr) (fun x _ => n - (intOf x).toNat)
  case atStart => exact ⟨0, rfl, Nat.zero_le _, Below.refl _ _⟩
  case round =>
    obtain ⟨i, rfl, hi, hlow⟩ := hrel
    by_cases hin : i < n
    · have hin' : (i : Int) < (n : Int) := by omega
      have hwi : IntKind.i64.wrap ((i : Int) + 1) = (i : Int) + 1 := by rw [IntKind.wrap_i64]; omega
      obtain ⟨a, Ai, ci, rfl, hba, hc, hra⟩ := (hA.below hlow).at_ hin
      obtain ⟨b, Bi, di, rfl, hbb, hd, hrb⟩ := (hB.below hlow).at_ hin
      have hl8 := h8 i
      have hs := hlow.size
      have hin1 := rints_any (len i) (f i) Ai Bi ci di wr.drew (by omega) (hra.more hs) (hrb.more hs)
      generalize len i = li at hc hd hra hrb hl8 hin1
      gi_wp2
      have hS : (CellsL [(a.add i, .slice Ai li ci), (b.add i, .slice Bi li di)]) (wr.drew) := ⟨hc, hd, trivial⟩
      refine wpIn_region_ord [(0, true), (1, true), (2, true), (3, true), (4, true), (5, true), (6, true), (7, true), (8, false)] (CellsL [(a.add i, .slice Ai li ci), (b.add i, .slice Bi li di)]) (fun _ => trivial) rfl (by first | exact then_put rfl | (intro c d v a w h; cases d <;> exact h)) (by kernel_rfl) ?_
      simp only [List.length_cons, List.length_nil, Nat.reduceAdd, List.drop_succ_cons, List.drop_zero]
      iterate 8 (apply wpOrd_quiet rfl hS rfl; (intro w' hw'; obtain ⟨q0, q1, _⟩ := hw'; go_simp; exact rfl); go_simp)
      refine wpOrd_move rfl rfl ?_
      go_simp
      refine ⟨trivial, (callsIn_wide.2 hin1).mono ?_⟩
      rintro en w3 ⟨rfl, hb3⟩
      replace hS := CellsL.keep hb3 hS ⟨by rw [block_of_add]; show _ < wr.heap.size; omega, by rw [block_of_add]; show _ < wr.heap.size; omega, trivial⟩
      refine ⟨hS, ?_⟩
      go_simp
      refine wpOrd_nil ?_
      clear hS
      gi_wp2
      go_roundw
      case rel => exact ⟨i + 1, by go_num, by omega, hlow.drew.trans (hb3.mono hs)⟩
      case measure => simp [intOf]; omega
    · obtain rfl : i = n := by omega
      gi_wp2
      go_ret
      exact ⟨rfl, hlow⟩
theorem rsame_nil (w : World) : Calls Try.prog 12 #[.slice none 0 0, .slice none 0 0] w fun en w' => en = .returned (.bool true) ∧ Below w.heap.size w w' :=
  rsame_any 0 (fun _ => 0) (fun _ _ => 0) none none 0 0 w (by omega) (fun _ => by omega) ⟨[], Reads.none_, fun i hi => by omega⟩ ⟨[], Reads.none_, fun i hi => by omega⟩
set_option maxHeartbeats 2000000 in
set_option maxRecDepth 100000 in
theorem rfits_any (X Z W D : Int) (rows : List (List V3)) (A : Option Addr) (cap : Nat) (f : Nat → Nat → Int) (hf : ∀ i k, 0 ≤ f i k) (B : Option Addr) (cb : Nat) (w : World) (hr : RowsAt w w.heap.size A rows) (ho : gridOk X Z W D rows) (hI : IntsAt w w.heap.size B rows.length (lenF rows) f) :
    Calls Try.prog 16 #[gridv X Z W D A rows.length cap, .slice B rows.length cb] w fun en w' => en = .returned (.bool true) ∧ Below w.heap.size w w' := by
  have hl := lensOk_g ho
  have hn4 := rows_len ho
  have h8 := lenF_le ho
  obtain ⟨u1, eu1, bu1, ku1⟩ := alloc_step w (.cells #[.int .i64 X, .int .i64 Z, .int .i64 W, .int .i64 D, .slice A rows.length cap] 26)
  have hch := rcheck_any X Z W D rows A cap u1 ((hr.below bu1).more bu1.size) hl
  obtain ⟨g0, g1, g2, g3, g4⟩ := box5 ku1
  unfold gridv at hch ⊢
  refine (callsIn_wide (n := 6)).1 ?_
  refine callsIn_of_wp Try.func16 rfl trivial ?_
  simp only [Try.ntmps16, List.size_toArray, List.length_cons, List.length_nil, Nat.reduceAdd, Nat.reduceSub, Array.replicate_succ, Array.replicate_zero, List.push_toArray, List.append_toArray, List.nil_append, List.cons_append]
  gi_wp2
  refine ⟨trivial, (callsIn_wide.2 hch).mono ?_⟩
  rintro en w2 ⟨⟨er, rfl, hei⟩, hb2⟩
  obtain rfl : er = 0 := hei.2 ho
  clear hei hch g0 g1 g2 g3 g4
  have k1 := (hb2.block _ (lt_of_block ku1)).trans ku1
  obtain ⟨g0, g1, g2, g3, g4⟩ := box5 k1
  have hb02 := bu1.trans (hb2.mono bu1.size)
  have hr2 := (hr.below hb02).more hb02.size
  have hI2 := (hI.below hb02).more hb02.size
  gi_wp2
  gi_loopw [5] (fun x wr => ∃ i : Nat, x = .int .i64 i ∧ i ≤ rows.length ∧ Below w2.heap.size w2 wr) (fun x _ => rows.length - (intOf x).toNat)
  case atStart => exact ⟨0, rfl, Nat.zero_le _, Below.refl _ _⟩
  case round =>
    clear g0 g1 g2 g3 g4
    obtain ⟨i, rfl, hi, hlow⟩ := hrel
    obtain ⟨g0, g1, g2, g3, g4⟩ := box5 ((hlow.block _ (lt_of_block k1)).trans k1)
    by_cases hin : i < rows.length
    · have hin' : (i : Int) < (rows.length : Int) := by omega
      have hwi : IntKind.i64.wrap ((i : Int) + 1) = (i : Int) + 1 := by rw [IntKind.wrap_i64]; omega
      obtain ⟨a, Ai, ci, rfl, hba, hc, hra⟩ := (hr2.below hlow).at_ hin
      obtain ⟨b, Bi, di, rfl, hbb, hd, hrb⟩ := (hI2.below hlow).at_ hin
      have hlf : rows[i].length = lenF rows i := by simp [lenF, List.getD, hin]
      rw [hlf] at hc
      have hl8 := h8 i
      generalize lenF rows i = li at hc hd hrb hl8
      have hos := hlow.size
      gi_wp2
      have hS : (CellsL [(b.add i, .slice Bi li di), (⟨w.heap.size, 4, none⟩, .slice (some a) rows.length cap), (a.add i, .slice Ai li ci)]) (wr.drew) := ⟨hd, g4, hc, trivial⟩
      refine wpIn_region_ord [(0, true), (1, true), (2, true), (3, true), (4, true), (5, true), (6, true), (7, true), (8, true), (9, true), (10, true)] (CellsL [(b.add i, .slice Bi li di), (⟨w.heap.size, 4, none⟩, .slice (some a) rows.length cap), (a.add i, .slice Ai li ci)]) (fun _ => trivial) rfl (by first | exact then_put rfl | (intro c d v a w h; cases d <;> exact h)) (by kernel_rfl) ?_
      simp only [List.length_cons, List.length_nil, Nat.reduceAdd, List.drop_succ_cons, List.drop_zero]
      iterate 11 (apply wpOrd_quiet rfl hS rfl; (intro w' hw'; obtain ⟨q0, q1, q2, _⟩ := hw'; go_simp; exact rfl); go_simp)
      refine wpOrd_nil ?_
      clear hS g0 g1 g2 g3 g4
      have hd' : wr.drew.cell? (b.add i) = some (.slice Bi li di) := hd
      have hrb' := hrb.drew
      have hlow' : Below w2.heap.size w2 wr.drew := hlow.drew
      clear hd hrb hlow hc hra
      generalize wr.drew = wo at hd' hrb' hlow' ⊢
      gi_wp2
      gi_loopw [6] (fun x wt => ∃ k : Nat, x = .int .i64 k ∧ k ≤ li ∧ Below wo.heap.size wo wt) (fun x _ => li - (intOf x).toNat)
      case atStart => exact ⟨0, rfl, Nat.zero_le _, Below.refl _ _⟩
      case round =>
        obtain ⟨k, rfl, hkl, hlow2⟩ := hrel
        have hos' := hlow'.size
        have hd2 := (hlow2.cell (p := b.add i) (by rw [block_of_add]; omega)).trans hd'
        by_cases hkn : k < li
        · have hkn' : (k : Int) < (li : Int) := by omega
          have hwk : IntKind.i64.wrap ((k : Int) + 1) = (k : Int) + 1 := by rw [IntKind.wrap_i64]; omega
          obtain ⟨bb, v, rfl, hbbb, hv, he⟩ := ((hrb'.more hos').below hlow2).at_ hkn
          rw [intRow_get hkn] at hv
          injection hv with hv
          subst hv
          have hp := hf i k
          have hp' : ¬ f i k < 0 := by omega
          generalize f i k = x at he hp hp'
          gi_wp2
          go_roundw
          case rel => exact ⟨k + 1, by go_num, by omega, hlow2⟩
          case measure => simp [intOf]; omega
        · obtain rfl : k = li := by omega
          gi_wp2
          go_roundw
          case rel => exact ⟨i + 1, by go_num, by omega, hlow'.trans (hlow2.mono hos')⟩
          case measure => simp [intOf]; omega
    · obtain rfl : i = rows.length := by omega
      gi_wp2
      go_ret
      exact ⟨rfl, hb02.trans (hlow.mono hb02.size)⟩
end Go.Proofs.Ytcdfojfafnecdaa

/- The eight are mutual, and clearances of the eight differ by 1 at most: plain. No conditions. -/
namespace Go.Proofs.Ytcdfojfafnecdaa
open Go Go.RowKit Go.Sx Go.Mp
section
variable {X Z D : Int} {W : Nat} {rows : List (List V3)} {lk : V3 → V3 → Bool}
theorem step_back (ho : gridOk X Z W D rows) (hs : ∀ a b, lk a b = lk b a)
    (hu : ∀ (x z : Int) (a : V3) (i j : Nat) (f g : V3), (colOf X Z W D rows x z)[i]? = some f → (colOf X Z W D rows x z)[j]? = some g → lk a f = true → lk a g = true → i = j)
    {s t : Nat × Nat} {d : Nat} (hc : s.1 < rows.length) (h : stepS W (ttF lk X Z W D rows) s d = some t) : stepS W (ttF lk X Z W D rows) t ((d + 2) % 4) = some s := by
  obtain ⟨c, k⟩ := s
  unfold stepS at h
  cases hd : stepD d with
  | none => rw [hd] at h; cases h
  | some p =>
    obtain ⟨dx, dz⟩ := p
    rw [hd] at h
    cases ht : ttF lk X Z W D rows c k d with
    | none => simp only [ht] at h; cases h
    | some m =>
      simp only [ht] at h
      injection h with h
      subst h
      have ht' : toF lk (colOf X Z W D rows) (X + (c : Int) % W) (Z + (c : Int) / W) k d = some m := ht
      have hb := toF_back hs hu hd ht'
      obtain ⟨_, a, f, h1, h2, _⟩ := toF_some lk (colOf X Z W D rows) hd ht'
      obtain ⟨g1, g2, g3, g4, g5, g6, g7⟩ := colOf_spot ho hc h2
      have hW : (0 : Int) < W := by omega
      obtain ⟨c', hc'⟩ : ∃ c' : Nat, (c : Int) + dz * W + dx = c' := ⟨((c : Int) + dz * W + dx).toNat, by omega⟩
      have e1 := Int.mul_ediv_add_emod (c : Int) W
      have ec : (c' : Int) = ((c : Int) % W + dx) + (W : Int) * ((c : Int) / W + dz) := by rw [← hc', Int.mul_add, Int.mul_comm (W : Int) dz]; omega
      have em : (c' : Int) % W = (c : Int) % W + dx := by rw [ec, Int.add_mul_emod_self_left, Int.emod_eq_of_lt g4 g5]
      have ed : (c' : Int) / W = (c : Int) / W + dz := by rw [ec, Int.add_mul_ediv_left _ _ (by omega), Int.ediv_eq_zero_of_lt g4 g5]; omega
      have hdd : (((d + 2) % 4 : Nat) : Int) = ((d : Int) + 2) % 4 := by omega
      have hopp := (stepD_opp hd).1
      unfold stepS
      rw [hdd, hopp, hc', Int.toNat_natCast]
      have hb2 : ttF lk X Z W D rows c' m ((d + 2) % 4) = some k := by
        unfold ttF
        rw [hdd, em, ed, ← Int.add_assoc, ← Int.add_assoc, hb, Int.toNat_natCast]
      simp only [hb2]
      rw [show (c' : Int) + -dz * W + -dx = (c : Int) by rw [← hc', Int.neg_mul]; omega, Int.toNat_natCast]
theorem eightD_some {tt : Nat → Nat → Nat → Option Nat} {s : Nat × Nat} {d : Nat} {m : List (Nat × Nat)} (h : eightD W tt s d = some m) :
    ∃ a b x, stepS W tt s d = some a ∧ stepS W tt s ((d + 1) % 4) = some b ∧ stepS W tt a ((d + 1) % 4) = some x ∧ stepS W tt b d = some x ∧ m = [a, x] := by
  unfold eightD at h
  cases hA : stepS W tt s d with
  | none => rw [hA] at h; cases h
  | some a =>
    cases hB : stepS W tt s ((d + 1) % 4) with
    | none => rw [hA, hB] at h; cases h
    | some b =>
      rw [hA, hB] at h
      simp only at h
      cases hX : stepS W tt a ((d + 1) % 4) with
      | none => rw [hX] at h; cases h
      | some x =>
        cases hY : stepS W tt b d with
        | none => rw [hX, hY] at h; cases h
        | some y =>
          rw [hX, hY] at h
          simp only at h
          split at h
          · rename_i e
            injection h with h
            exact ⟨a, b, x, rfl, rfl, hX, by rw [hY, e], h.symm⟩
          · cases h
theorem eightN_part {tt : Nat → Nat → Nat → Option Nat} {s : Nat × Nat} : ∀ {q : Nat} {l : List (Nat × Nat)}, eightN W tt s q = some l → (∀ d, d < q → ∃ m, eightD W tt s d = some m ∧ ∀ t ∈ m, t ∈ l) ∧ (∀ t ∈ l, ∃ d m, d < q ∧ eightD W tt s d = some m ∧ t ∈ m)
  | 0, l, h => by injection h with h; subst h; exact ⟨fun d hd => by omega, fun t ht => by cases ht⟩
  | q + 1, l, h => by
    rw [eightN] at h
    cases h1 : eightN W tt s q with
    | none => rw [h1] at h; cases h
    | some l1 =>
      cases h2 : eightD W tt s q with
      | none => rw [h1, h2] at h; cases h
      | some m =>
        rw [h1, h2] at h
        injection h with h
        subst h
        obtain ⟨i1, i2⟩ := eightN_part h1
        refine ⟨fun d hd => ?_, fun t ht => ?_⟩
        · by_cases hq : d = q
          · subst hq; exact ⟨m, h2, fun t ht => List.mem_append_right _ ht⟩
          · obtain ⟨m', h3, h4⟩ := i1 d (by omega)
            exact ⟨m', h3, fun t ht => List.mem_append_left _ (h4 t ht)⟩
        · rcases List.mem_append.1 ht with ht | ht
          · obtain ⟨d, m', h3, h4, h5⟩ := i2 t ht
            exact ⟨d, m', by omega, h4, h5⟩
          · exact ⟨q, m, by omega, h2, ht⟩
theorem eight_mutual (ho : gridOk X Z W D rows) (hs : ∀ a b, lk a b = lk b a)
    (hu : ∀ (x z : Int) (a : V3) (i j : Nat) (f g : V3), (colOf X Z W D rows x z)[i]? = some f → (colOf X Z W D rows x z)[j]? = some g → lk a f = true → lk a g = true → i = j)
    {s t : Nat × Nat} (hc : InG rows.length (lenF rows) s) {l l' : List (Nat × Nat)} (h : eightF W (ttF lk X Z W D rows) s = some l) (ht : t ∈ l) (h' : eightF W (ttF lk X Z W D rows) t = some l') : s ∈ l' := by
  have hin := tt_inside lk ho rfl
  obtain ⟨d, m, hd, hm, htm⟩ := (eightN_part h).2 t ht
  obtain ⟨a, b, x, ha, hb, hx, hy, rfl⟩ := eightD_some hm
  have ha1 := stepS_in hin hc ha
  have hb1 := stepS_in hin hc hb
  have e2 : (d + 2) % 4 < 4 := Nat.mod_lt _ (by omega)
  obtain ⟨m', hm', hl'⟩ := (eightN_part h').1 ((d + 2) % 4) e2
  obtain ⟨a', b', x', ha', hb', hx', hy', rfl⟩ := eightD_some hm'
  have htm : t = a ∨ t = x := by simpa using htm
  rcases htm with rfl | rfl
  · rw [step_back ho hs hu hc.1 ha] at ha'
    injection ha' with ha'
    subst ha'
    exact hl' _ (by simp)
  · have k1 := step_back ho hs hu hb1.1 hy
    rw [k1] at ha'
    injection ha' with ha'
    subst ha'
    have k2 := step_back ho hs hu hc.1 hb
    rw [show ((d + 1) % 4 + 2) % 4 = ((d + 2) % 4 + 1) % 4 by omega] at k2
    rw [k2] at hx'
    injection hx' with hx'
    subst hx'
    exact hl' _ (by simp)
end
section
variable {N : Nat × Nat → Option (List (Nat × Nat))} {s : Nat × Nat}
theorem cl_pos {c : Nat} (hc : 0 < c) : decide (0 < cl N c s) = (N s).isSome := by
  have h := lt_cl (N := N) (s := s) (c := c) (m := 0)
  cases hN : N s with
  | none =>
    have hk : kn N 0 s = true := kn_none hN
    refine decide_eq_false fun h1 => ?_
    have := (h.1 h1).2
    rw [hk] at this
    cases this
  | some l =>
    have hk : kn N 0 s = false := by rw [kn, hN]; rfl
    exact decide_eq_true (h.2 ⟨hc, hk⟩)
theorem cl_step {l : List (Nat × Nat)} {t : Nat × Nat} (hN : N s = some l) (ht : t ∈ l) (c : Nat) : cl N c s ≤ cl N c t + 1 := by
  rcases Nat.lt_or_ge (cl N c t + 1) (cl N c s) with h | h
  · exfalso
    obtain ⟨h1, h2⟩ := lt_cl.1 h
    have hk : kn N (cl N c t) t = true := by
      cases hk : kn N (cl N c t) t with
      | true => rfl
      | false =>
        have := (lt_cl (N := N) (s := t) (c := c) (m := cl N c t)).2 ⟨by omega, hk⟩
        omega
    rw [kn_some hN, List.any_eq_true.2 ⟨t, ht, hk⟩, Bool.or_true] at h2
    cases h2
  · exact h
theorem cl_near {l : List (Nat × Nat)} {t : Nat × Nat} (hN : N s = some l) (ht : t ∈ l) (hb : ∀ l', N t = some l' → s ∈ l') (c : Nat) : cl N c s ≤ cl N c t + 1 ∧ cl N c t ≤ cl N c s + 1 := by
  refine ⟨cl_step hN ht c, ?_⟩
  cases hT : N t with
  | none =>
    cases c with
    | zero => simp [cl]
    | succ c =>
      have := cl_pos (N := N) (s := t) (c := c + 1) (by omega)
      rw [hT] at this
      have := of_decide_eq_false this
      omega
  | some l' => exact cl_step hT (hb l' hT) c
end
end Go.Proofs.Ytcdfojfafnecdaa

/- Maps of grids upon grids keep the eight: plain. No conditions. -/
namespace Go.Proofs.Ytcdfojfafnecdaa
open Go Go.RowKit Go.Sx Go.Mp
/-- Two directions, one beside the other. -/
def Adj (d e : Nat) : Prop := d < 4 ∧ e < 4 ∧ (e = (d + 1) % 4 ∨ d = (e + 1) % 4)
/-- A quarter of the eight. -/
def Quad (W : Nat) (tt : Nat → Nat → Nat → Option Nat) (s : Nat × Nat) (d e : Nat) (a b x : Nat × Nat) : Prop :=
  stepS W tt s d = some a ∧ stepS W tt s e = some b ∧ stepS W tt a e = some x ∧ stepS W tt b d = some x
theorem Quad.swap {W : Nat} {tt : Nat → Nat → Nat → Option Nat} {s a b x : Nat × Nat} {d e : Nat} (h : Quad W tt s d e a b x) : Quad W tt s e d b a x := ⟨h.2.1, h.1, h.2.2.2, h.2.2.1⟩
theorem eightD_of {W : Nat} {tt : Nat → Nat → Nat → Option Nat} {s a b x : Nat × Nat} {d : Nat} (h : Quad W tt s d ((d + 1) % 4) a b x) : eightD W tt s d = some [a, x] := by
  obtain ⟨h1, h2, h3, h4⟩ := h
  unfold eightD
  rw [h1, h2]
  simp only
  rw [h3, h4]
  simp
theorem eightN_of {W : Nat} {tt : Nat → Nat → Nat → Option Nat} {s : Nat × Nat} : ∀ {q : Nat}, (∀ d, d < q → ∃ m, eightD W tt s d = some m) → ∃ l, eightN W tt s q = some l
  | 0, _ => ⟨_, rfl⟩
  | q + 1, h => by
    obtain ⟨l, hl⟩ := eightN_of (q := q) (fun d hd => h d (by omega))
    obtain ⟨m, hm⟩ := h q (by omega)
    exact ⟨l ++ m, by rw [eightN, hl, hm]⟩
theorem eight_of {W : Nat} {tt : Nat → Nat → Nat → Option Nat} {s : Nat × Nat} (h : ∀ d e, Adj d e → ∃ a b x, Quad W tt s d e a b x) : ∃ l, eightF W tt s = some l :=
  eightN_of fun d hd => by
    obtain ⟨a, b, x, hq⟩ := h d ((d + 1) % 4) ⟨hd, Nat.mod_lt _ (by omega), .inl rfl⟩
    exact ⟨_, eightD_of hq⟩
theorem eight_quad {W : Nat} {tt : Nat → Nat → Nat → Option Nat} {s : Nat × Nat} {l : List (Nat × Nat)} (h : eightF W tt s = some l) :
    (∀ d e, Adj d e → ∃ a b x, Quad W tt s d e a b x ∧ a ∈ l ∧ b ∈ l ∧ x ∈ l) ∧ (∀ t ∈ l, ∃ d e a b x, Adj d e ∧ Quad W tt s d e a b x ∧ (t = a ∨ t = x)) := by
  obtain ⟨h1, h2⟩ := eightN_part h
  have key : ∀ d, d < 4 → ∃ a b x, Quad W tt s d ((d + 1) % 4) a b x ∧ a ∈ l ∧ b ∈ l ∧ x ∈ l := fun d hd => by
    obtain ⟨m, hm, hml⟩ := h1 d hd
    obtain ⟨a, b, x, ha, hb, hx, hy, rfl⟩ := eightD_some hm
    obtain ⟨m', hm', hml'⟩ := h1 ((d + 1) % 4) (Nat.mod_lt _ (by omega))
    obtain ⟨a', b', x', ha', hb', hx', hy', rfl⟩ := eightD_some hm'
    rw [hb] at ha'
    injection ha' with ha'
    subst ha'
    exact ⟨a, b, x, ⟨ha, hb, hx, hy⟩, hml _ (by simp), hml' _ (by simp), hml _ (by simp)⟩
  refine ⟨fun d e ⟨hd, he, hde⟩ => ?_, fun t ht => ?_⟩
  · rcases hde with rfl | rfl
    · exact key d hd
    · obtain ⟨a, b, x, hq, i1, i2, i3⟩ := key e he
      exact ⟨b, a, x, hq.swap, i2, i1, i3⟩
  · obtain ⟨d, m, hd, hm, htm⟩ := h2 t ht
    obtain ⟨a, b, x, ha, hb, hx, hy, rfl⟩ := eightD_some hm
    exact ⟨d, _, a, b, x, ⟨hd, Nat.mod_lt _ (by omega), .inl rfl⟩, ⟨ha, hb, hx, hy⟩, by simpa using htm⟩
/-- A map of a grid's columns upon another's; it keeps floors and neighbours; s turns directions. -/
def GMap (W : Nat) (D : Int) (rows : List (List V3)) (W' : Nat) (D' : Int) (rows' : List (List V3)) (tx tz : Int → Int → Int) (σ : Nat → Nat) : Prop :=
  (∀ x z : Int, 0 ≤ x → x < (W' : Int) → 0 ≤ z → z < D' → 0 ≤ tx x z ∧ tx x z < (W : Int) ∧ 0 ≤ tz x z ∧ tz x z < D ∧ rows'.getD (z * W' + x).toNat [] = rows.getD (tz x z * W + tx x z).toNat []) ∧
  (∀ d, d < 4 → σ d < 4 ∧ σ (σ d) = d) ∧ (∀ d e, Adj d e → Adj (σ d) (σ e)) ∧
  (∀ (d : Nat) dx dz, d < 4 → stepD d = some (dx, dz) → ∃ ex ez, stepD (σ d) = some (ex, ez) ∧ ∀ x z, tx (x + dx) (z + dz) = tx x z + ex ∧ tz (x + dx) (z + dz) = tz x z + ez)
/-- The place that a place comes of. -/
def psi (W W' : Nat) (tx tz : Int → Int → Int) (s : Nat × Nat) : Nat × Nat :=
  ((tz ((s.1 : Int) % W') ((s.1 : Int) / W') * W + tx ((s.1 : Int) % W') ((s.1 : Int) / W')).toNat, s.2)
section
variable {X Z D X' Z' D' : Int} {W W' : Nat} {rows rows' : List (List V3)} {lk : V3 → V3 → Bool} {tx tz : Int → Int → Int} {σ : Nat → Nat}
theorem col_in {x z : Int} (h1 : 0 ≤ x) (h2 : x < W) (h3 : 0 ≤ z) (h4 : z < D) : colOf X Z W D rows (X + x) (Z + z) = rows.getD (z * W + x).toNat [] := by
  unfold colOf
  rw [if_neg (by omega), show (Z + z - Z) * (W : Int) + (X + x) - X = z * W + x by rw [show Z + z - Z = z by omega]; omega]
theorem place_in {x z : Int} (h1 : 0 ≤ x) (h2 : x < W) (h3 : 0 ≤ z) (h4 : z < D) : 0 ≤ z * W + x ∧ z * W + x < W * D ∧ (z * W + x) % W = x ∧ (z * W + x) / W = z := by
  have h := index_ok (X := 0) (Z := 0) (W := (W : Int)) (D := D) (x := x) (z := z) (by omega) h1 (by omega) h3 (by omega)
  simp only [Int.sub_zero] at h
  have e : z * W + x = x + W * z := by rw [Int.mul_comm]; omega
  refine ⟨by omega, h.2, ?_, ?_⟩
  · rw [e, Int.add_mul_emod_self_left, Int.emod_eq_of_lt h1 h2]
  · rw [e, Int.add_mul_ediv_left _ _ (by omega), Int.ediv_eq_zero_of_lt h1 h2, Int.zero_add]
theorem spot_in (ho : gridOk X Z W D rows) {i : Nat} (hi : i < rows.length) : 0 ≤ (i : Int) % W ∧ (i : Int) % W < W ∧ 0 ≤ (i : Int) / W ∧ (i : Int) / W < D ∧ (i : Int) / W * W + (i : Int) % W = i := by
  obtain ⟨hW, h1, _, h3, _⟩ := spot_bd ho hi
  obtain ⟨_, _, _, _, _, _, _, _, o9, _⟩ := ho
  refine ⟨h1, Int.emod_lt_of_pos _ hW, h3, Int.ediv_lt_of_lt_mul hW (by rw [Int.mul_comm]; omega), ?_⟩
  have := Int.mul_ediv_add_emod (i : Int) W
  rw [Int.mul_comm]
  omega
theorem psi_in (hm : GMap W D rows W' D' rows' tx tz σ) (ho : gridOk X Z W D rows) (ho' : gridOk X' Z' W' D' rows') {i : Nat} (hi : i < rows'.length) (k : Nat) :
    ((psi W W' tx tz (i, k)).1 : Int) = tz ((i : Int) % W') ((i : Int) / W') * W + tx ((i : Int) % W') ((i : Int) / W') ∧ (psi W W' tx tz (i, k)).1 < rows.length ∧
      ((psi W W' tx tz (i, k)).1 : Int) % W = tx ((i : Int) % W') ((i : Int) / W') ∧ ((psi W W' tx tz (i, k)).1 : Int) / W = tz ((i : Int) % W') ((i : Int) / W') ∧ rows'.getD i [] = rows.getD (psi W W' tx tz (i, k)).1 [] := by
  obtain ⟨h1, h2, h3, h4, h5⟩ := spot_in ho' hi
  obtain ⟨g1, g2, g3, g4, g5⟩ := hm.1 _ _ h1 h2 h3 h4
  obtain ⟨p1, p2, p3, p4⟩ := place_in g1 g2 g3 g4
  rw [h5, Int.toNat_natCast] at g5
  have e : ((psi W W' tx tz (i, k)).1 : Int) = tz ((i : Int) % W') ((i : Int) / W') * W + tx ((i : Int) % W') ((i : Int) / W') := by
    show (((tz ((i : Int) % W') ((i : Int) / W') * W + tx ((i : Int) % W') ((i : Int) / W')).toNat : Nat) : Int) = _
    omega
  refine ⟨e, by have := ho.2.2.2.2.2.2.2.2.1; omega, by rw [e]; exact p3, by rw [e]; exact p4, g5⟩
/-- A step of a place whose next column lies within. -/
theorem step_map (hm : GMap W D rows W' D' rows' tx tz σ) (ho : gridOk X Z W D rows) (ho' : gridOk X' Z' W' D' rows') {i k d : Nat} (hi : i < rows'.length) (hd4 : d < 4) {dx dz : Int} (hd : stepD d = some (dx, dz))
    (h1 : 0 ≤ (i : Int) % W' + dx) (h2 : (i : Int) % W' + dx < W') (h3 : 0 ≤ (i : Int) / W' + dz) (h4 : (i : Int) / W' + dz < D') :
    stepS W (ttF lk X Z W D rows) (psi W W' tx tz (i, k)) (σ d) = (stepS W' (ttF lk X' Z' W' D' rows') (i, k) d).map (psi W W' tx tz) := by
  obtain ⟨e1, e2, e3, e4, e5⟩ := psi_in hm ho ho' hi k
  obtain ⟨s1, s2, s3, s4, s5⟩ := spot_in ho' hi
  obtain ⟨ex, ez, he, hst⟩ := hm.2.2.2 d dx dz hd4 hd
  obtain ⟨t1, t2⟩ := hst ((i : Int) % W') ((i : Int) / W')
  obtain ⟨g1, g2, g3, g4, g5⟩ := hm.1 _ _ h1 h2 h3 h4
  obtain ⟨u1, u2, u3, u4, _⟩ := hm.1 _ _ s1 s2 s3 s4
  obtain ⟨p1, p2, p3, p4⟩ := place_in h1 h2 h3 h4
  have hlen := ho.2.2.2.2.2.2.2.2.1
  have hlen' := ho'.2.2.2.2.2.2.2.2.1
  have hc1 : colOf X Z W D rows (X + tx ((i : Int) % W') ((i : Int) / W')) (Z + tz ((i : Int) % W') ((i : Int) / W')) = colOf X' Z' W' D' rows' (X' + (i : Int) % W') (Z' + (i : Int) / W') := by
    rw [col_in u1 u2 u3 u4, col_in s1 s2 s3 s4, ← (hm.1 _ _ s1 s2 s3 s4).2.2.2.2]
  have hc2 : colOf X Z W D rows (X + tx ((i : Int) % W') ((i : Int) / W') + ex) (Z + tz ((i : Int) % W') ((i : Int) / W') + ez) = colOf X' Z' W' D' rows' (X' + (i : Int) % W' + dx) (Z' + (i : Int) / W' + dz) := by
    rw [Int.add_assoc X, Int.add_assoc Z, ← t1, ← t2, Int.add_assoc X', Int.add_assoc Z', col_in g1 g2 g3 g4, col_in h1 h2 h3 h4, g5]
  have ht : ttF lk X Z W D rows (psi W W' tx tz (i, k)).1 k (σ d) = ttF lk X' Z' W' D' rows' i k d := by
    unfold ttF
    rw [e3, e4]
    unfold toF
    rw [he, hd]
    simp only
    rw [hc1, hc2]
  unfold stepS
  rw [he, hd]
  have e6 : (psi W W' tx tz (i, k)).2 = k := rfl
  rw [e6, ht]
  simp only
  cases ttF lk X' Z' W' D' rows' i k d with
  | none => rfl
  | some m =>
    simp only [Option.map_some]
    congr 1
    have q : (((i : Int) + dz * W' + dx).toNat : Int) = ((i : Int) / W' + dz) * W' + ((i : Int) % W' + dx) := by
      have : (i : Int) + dz * W' + dx = ((i : Int) / W' + dz) * W' + ((i : Int) % W' + dx) := by rw [Int.add_mul]; omega
      omega
    unfold psi
    simp only
    rw [q, p3, p4, t1, t2]
    congr 2
    have e1' : (((tz ((i : Int) % W') ((i : Int) / W') * W + tx ((i : Int) % W') ((i : Int) / W')).toNat : Nat) : Int) = tz ((i : Int) % W') ((i : Int) / W') * W + tx ((i : Int) % W') ((i : Int) / W') := e1
    rw [e1', Int.add_mul]
    omega
/-- A step leads into the grid. -/
theorem step_col (ho' : gridOk X' Z' W' D' rows') {i k d : Nat} (hi : i < rows'.length) {dx dz : Int} (hd : stepD d = some (dx, dz)) {t : Nat × Nat} (h : stepS W' (ttF lk X' Z' W' D' rows') (i, k) d = some t) :
    0 ≤ (i : Int) % W' + dx ∧ (i : Int) % W' + dx < W' ∧ 0 ≤ (i : Int) / W' + dz ∧ (i : Int) / W' + dz < D' ∧ (t.1 : Int) % W' = (i : Int) % W' + dx ∧ (t.1 : Int) / W' = (i : Int) / W' + dz := by
  unfold stepS at h
  rw [hd] at h
  cases ht : ttF lk X' Z' W' D' rows' i k d with
  | none => simp only [ht] at h; cases h
  | some m =>
    simp only [ht] at h
    injection h with h
    subst h
    have ht' : toF lk (colOf X' Z' W' D' rows') (X' + (i : Int) % W') (Z' + (i : Int) / W') k d = some m := ht
    obtain ⟨_, a, f, _, h2, _⟩ := toF_some lk (colOf X' Z' W' D' rows') hd ht'
    obtain ⟨_, _, _, g4, g5, g6, g7⟩ := colOf_spot ho' hi h2
    obtain ⟨p1, p2, p3, p4⟩ := place_in g4 g5 g6 g7
    obtain ⟨_, _, _, _, s5⟩ := spot_in ho' hi
    have q : (((i : Int) + dz * W' + dx).toNat : Int) = ((i : Int) / W' + dz) * W' + ((i : Int) % W' + dx) := by
      have : (i : Int) + dz * W' + dx = ((i : Int) / W' + dz) * W' + ((i : Int) % W' + dx) := by rw [Int.add_mul]; omega
      omega
    refine ⟨g4, g5, g6, g7, ?_, ?_⟩
    · rw [q, p3]
    · rw [q, p4]
theorem step_fwd (hm : GMap W D rows W' D' rows' tx tz σ) (ho : gridOk X Z W D rows) (ho' : gridOk X' Z' W' D' rows') {s t : Nat × Nat} {d : Nat} (hi : s.1 < rows'.length) (hd4 : d < 4)
    (h : stepS W' (ttF lk X' Z' W' D' rows') s d = some t) : stepS W (ttF lk X Z W D rows) (psi W W' tx tz s) (σ d) = some (psi W W' tx tz t) := by
  obtain ⟨dx, dz, hd⟩ := stepD_some hd4
  obtain ⟨h1, h2, h3, h4, _⟩ := step_col ho' hi hd h
  have := step_map (lk := lk) hm ho ho' (k := s.2) hi hd4 hd h1 h2 h3 h4
  rw [show (s.1, s.2) = s from rfl, h] at this
  exact this
theorem quad_fwd (hm : GMap W D rows W' D' rows' tx tz σ) (ho : gridOk X Z W D rows) (ho' : gridOk X' Z' W' D' rows') {s a b x : Nat × Nat} {d e : Nat} (hs : InG rows'.length (lenF rows') s) (hd : d < 4) (he : e < 4)
    (h : Quad W' (ttF lk X' Z' W' D' rows') s d e a b x) : Quad W (ttF lk X Z W D rows) (psi W W' tx tz s) (σ d) (σ e) (psi W W' tx tz a) (psi W W' tx tz b) (psi W W' tx tz x) := by
  have hin := tt_inside lk ho' rfl
  obtain ⟨h1, h2, h3, h4⟩ := h
  exact ⟨step_fwd hm ho ho' hs.1 hd h1, step_fwd hm ho ho' hs.1 he h2, step_fwd hm ho ho' (stepS_in hin hs h1).1 he h3, step_fwd hm ho ho' (stepS_in hin hs h2).1 hd h4⟩
theorem eight_fwd (hm : GMap W D rows W' D' rows' tx tz σ) (ho : gridOk X Z W D rows) (ho' : gridOk X' Z' W' D' rows') {s : Nat × Nat} (hs : InG rows'.length (lenF rows') s) {l' : List (Nat × Nat)}
    (h : eightF W' (ttF lk X' Z' W' D' rows') s = some l') : ∃ l, eightF W (ttF lk X Z W D rows) (psi W W' tx tz s) = some l ∧ (∀ t ∈ l', psi W W' tx tz t ∈ l) ∧ ∀ t ∈ l, ∃ t' ∈ l', psi W W' tx tz t' = t := by
  obtain ⟨h1, h2⟩ := eight_quad h
  have hall : ∀ d e, Adj d e → ∃ a b x, Quad W (ttF lk X Z W D rows) (psi W W' tx tz s) d e (psi W W' tx tz a) (psi W W' tx tz b) (psi W W' tx tz x) ∧ a ∈ l' ∧ b ∈ l' ∧ x ∈ l' := fun d e hde => by
    have hde' := hm.2.2.1 d e hde
    obtain ⟨a, b, x, hq, i⟩ := h1 _ _ hde'
    have := quad_fwd hm ho ho' hs hde'.1 hde'.2.1 hq
    rw [(hm.2.1 d hde.1).2, (hm.2.1 e hde.2.1).2] at this
    exact ⟨a, b, x, this, i⟩
  obtain ⟨l, hl⟩ := eight_of (fun d e hde => by obtain ⟨a, b, x, hq, _⟩ := hall d e hde; exact ⟨_, _, _, hq⟩)
  obtain ⟨g1, g2⟩ := eight_quad hl
  refine ⟨l, hl, fun t ht => ?_, fun t ht => ?_⟩
  · obtain ⟨d, e, a, b, x, hde, hq, hta⟩ := h2 t ht
    have hq' := quad_fwd hm ho ho' hs hde.1 hde.2.1 hq
    obtain ⟨a1, b1, x1, hq1, i1, i2, i3⟩ := g1 _ _ (hm.2.2.1 d e hde)
    have ea : a1 = psi W W' tx tz a := by have := hq1.1; rw [hq'.1] at this; injection this with this; exact this.symm
    have eb : x1 = psi W W' tx tz x := by have := hq1.2.2.1; rw [ea, hq'.2.2.1] at this; injection this with this; exact this.symm
    rcases hta with rfl | rfl
    · rw [← ea]; exact i1
    · rw [← eb]; exact i3
  · obtain ⟨d, e, a, b, x, hde, hq, hta⟩ := g2 t ht
    obtain ⟨a1, b1, x1, hq1, i1, i2, i3⟩ := hall d e hde
    have ea : psi W W' tx tz a1 = a := by have := hq1.1; rw [hq.1] at this; injection this with this; exact this.symm
    have eb : psi W W' tx tz x1 = x := by have := hq1.2.2.1; rw [ea, hq.2.2.1] at this; injection this with this; exact this.symm
    rcases hta with rfl | rfl
    · exact ⟨a1, i1, ea⟩
    · exact ⟨x1, i3, eb⟩
end
section
variable {N N' : Nat × Nat → Option (List (Nat × Nat))} {G : Nat × Nat → Prop} {ψ : Nat × Nat → Nat × Nat}
/-- What maps the eight, leaves no clearance that is greater. -/
theorem kn_fwd (hG : ∀ s l, G s → N' s = some l → ∀ t ∈ l, G t) (hf : ∀ s l', G s → N' s = some l' → ∃ l, N (ψ s) = some l ∧ (∀ t ∈ l', ψ t ∈ l) ∧ ∀ t ∈ l, ∃ t' ∈ l', ψ t' = t) :
    ∀ (n : Nat) (s : Nat × Nat), G s → kn N n (ψ s) = true → kn N' n s = true
  | 0, s, hs, h => by
    cases hN : N' s with
    | none => exact kn_none hN
    | some l' =>
      obtain ⟨l, hl, _⟩ := hf s l' hs hN
      rw [kn, hl] at h
      cases h
  | n + 1, s, hs, h => by
    cases hN : N' s with
    | none => exact kn_none hN
    | some l' =>
      obtain ⟨l, hl, _, h3⟩ := hf s l' hs hN
      rw [kn_some hl, Bool.or_eq_true] at h
      rw [kn_some hN, Bool.or_eq_true]
      rcases h with h | h
      · exact .inl (kn_fwd hG hf n s hs h)
      · obtain ⟨t, ht, hk⟩ := List.any_eq_true.1 h
        obtain ⟨t', ht', rfl⟩ := h3 t ht
        exact .inr (List.any_eq_true.2 ⟨t', ht', kn_fwd hG hf n t' (hG s l' hs hN t' ht') hk⟩)
/-- And none that is less, as far as no floor that lacks its eight has them behind. -/
theorem kn_back (P : Nat → Nat × Nat → Prop) (hG : ∀ s l, G s → N' s = some l → ∀ t ∈ l, G t) (hf : ∀ s l', G s → N' s = some l' → ∃ l, N (ψ s) = some l ∧ (∀ t ∈ l', ψ t ∈ l) ∧ ∀ t ∈ l, ∃ t' ∈ l', ψ t' = t)
    (h0 : ∀ n s, G s → P (n + 1) s → N' s = none → N (ψ s) = none) (h1 : ∀ n s l', G s → P (n + 1) s → N' s = some l' → ∀ t ∈ l', P n t) (h2 : ∀ n s, P (n + 1) s → P n s) :
    ∀ (n : Nat) (s : Nat × Nat), G s → P (n + 1) s → kn N' n s = true → kn N n (ψ s) = true
  | 0, s, hs, hp, h => by
    cases hN : N' s with
    | none => exact kn_none (h0 0 s hs hp hN)
    | some l' => rw [kn, hN] at h; cases h
  | n + 1, s, hs, hp, h => by
    cases hN : N' s with
    | none => exact kn_none (h0 _ s hs hp hN)
    | some l' =>
      obtain ⟨l, hl, h3, _⟩ := hf s l' hs hN
      rw [kn_some hN, Bool.or_eq_true] at h
      rw [kn_some hl, Bool.or_eq_true]
      rcases h with h | h
      · exact .inl (kn_back P hG hf h0 h1 h2 n s hs (h2 _ _ hp) h)
      · obtain ⟨t, ht, hk⟩ := List.any_eq_true.1 h
        exact .inr (List.any_eq_true.2 ⟨ψ t, h3 t ht, kn_back P hG hf h0 h1 h2 n t (hG s l' hs hN t ht) (h1 _ s l' hs hp hN t ht) hk⟩)
theorem cl_fwd {s : Nat × Nat} {c : Nat} (h : ∀ n, n < c → kn N n (ψ s) = true → kn N' n s = true) : cl N' c s ≤ cl N c (ψ s) := by
  rcases Nat.lt_or_ge (cl N c (ψ s)) (cl N' c s) with h1 | h1
  · exfalso
    obtain ⟨h2, h3⟩ := lt_cl.1 h1
    cases hk : kn N (cl N c (ψ s)) (ψ s) with
    | true => rw [h _ h2 hk] at h3; cases h3
    | false =>
      have := (lt_cl (N := N) (s := ψ s) (c := c) (m := cl N c (ψ s))).2 ⟨h2, hk⟩
      omega
  · exact h1
end
end Go.Proofs.Ytcdfojfafnecdaa

/- A grid that is turned about has its clearances turned about: plain. No conditions. -/
namespace Go.Proofs.Ytcdfojfafnecdaa
open Go Go.RowKit Go.Sx Go.Mp
theorem kn_cl {N N' : Nat × Nat → Option (List (Nat × Nat))} {s s' : Nat × Nat} (h : ∀ n, kn N' n s' = kn N n s) : ∀ c, cl N' c s' = cl N c s
  | 0 => rfl
  | c + 1 => by rw [cl, cl, kn_cl h c, h c]
/-- Where a column of the grid that is turned about comes of. -/
def mTx (how : Nat) (W : Nat) (x z : Int) : Int := if how = 0 then W - 1 - x else if how = 1 then x else z
def mTz (how : Nat) (D : Nat) (x z : Int) : Int := if how = 0 then z else if how = 1 then D - 1 - z else x
def mS (how d : Nat) : Nat := if how = 0 then (6 - d) % 4 else if how = 1 then (4 - d) % 4 else (5 - d) % 4
def mW (how W D : Nat) : Nat := if how = 2 then D else W
def mPhi (how W D i : Nat) : Nat := (psi W (mW how W D) (mTx how W) (mTz how D) (i, 0)).1
/-- The columns of the grid that is turned about. -/
def mRows (how W D : Nat) (rows : List (List V3)) : List (List V3) := (List.range (W * D)).map fun i => rows.getD (mPhi how W D i) []
theorem mRows_length (how W D : Nat) (rows : List (List V3)) : (mRows how W D rows).length = W * D := by simp [mRows]
theorem mRows_get {how W D : Nat} {rows : List (List V3)} {i : Nat} (hi : i < W * D) : (mRows how W D rows).getD i [] = rows.getD (mPhi how W D i) [] := by
  simp [mRows, List.getD_eq_getElem?_getD, hi]
theorem mT_in {how W D : Nat} (hh : how = 0 ∨ how = 1 ∨ how = 2) {x z : Int} (h1 : 0 ≤ x) (h2 : x < mW how W D) (h3 : 0 ≤ z) (h4 : z < mW how D W) :
    0 ≤ mTx how W x z ∧ mTx how W x z < W ∧ 0 ≤ mTz how D x z ∧ mTz how D x z < D := by
  rcases hh with rfl | rfl | rfl <;> simp [mTx, mTz, mW] at * <;> omega
theorem mT_in' {how W D : Nat} (hh : how = 0 ∨ how = 1 ∨ how = 2) {x z : Int} (h1 : 0 ≤ x) (h2 : x < W) (h3 : 0 ≤ z) (h4 : z < D) :
    0 ≤ mTx how W x z ∧ mTx how W x z < mW how W D ∧ 0 ≤ mTz how D x z ∧ mTz how D x z < mW how D W := by
  rcases hh with rfl | rfl | rfl <;> simp [mTx, mTz, mW] at * <;> omega
theorem mT_T {how W D : Nat} (hh : how = 0 ∨ how = 1 ∨ how = 2) (x z : Int) : mTx how W (mTx how W x z) (mTz how D x z) = x ∧ mTz how D (mTx how W x z) (mTz how D x z) = z := by
  rcases hh with rfl | rfl | rfl <;> simp [mTx, mTz] <;> omega
theorem mW_mul {how W D : Nat} : (mW how W D) * (mW how D W) = W * D := by
  unfold mW
  split
  · exact Nat.mul_comm _ _
  · rfl
theorem mS_ok {how : Nat} (hh : how = 0 ∨ how = 1 ∨ how = 2) : (∀ d, d < 4 → mS how d < 4 ∧ mS how (mS how d) = d) ∧ (∀ d e, Adj d e → Adj (mS how d) (mS how e)) ∧
    (∀ (W D d : Nat) dx dz, d < 4 → stepD d = some (dx, dz) → ∃ ex ez, stepD (mS how d) = some (ex, ez) ∧ ∀ x z, mTx how W (x + dx) (z + dz) = mTx how W x z + ex ∧ mTz how D (x + dx) (z + dz) = mTz how D x z + ez) := by
  refine ⟨fun d hd => ?_, fun d e ⟨hd, he, hde⟩ => ?_, fun W D d dx dz hd h => ?_⟩
  · rcases hh with rfl | rfl | rfl <;> simp [mS] <;> omega
  · have hd' : d = 0 ∨ d = 1 ∨ d = 2 ∨ d = 3 := by omega
    have he' : e = 0 ∨ e = 1 ∨ e = 2 ∨ e = 3 := by omega
    rcases hh with rfl | rfl | rfl <;> rcases hd' with rfl | rfl | rfl | rfl <;> rcases he' with rfl | rfl | rfl | rfl <;> simp [Adj, mS] at hde ⊢
  · have hd' : d = 0 ∨ d = 1 ∨ d = 2 ∨ d = 3 := by omega
    rcases hh with rfl | rfl | rfl <;> rcases hd' with rfl | rfl | rfl | rfl <;>
      (have e := Option.some.inj h; injection e with e1 e2; subst e1; subst e2; refine ⟨_, _, rfl, fun x z => ?_⟩; simp only [mTx, mTz]; constructor <;> simp <;> omega)
section
variable {X Z : Int} {W D how : Nat} {rows : List (List V3)} {lk : V3 → V3 → Bool}
theorem mirror_map (hh : how = 0 ∨ how = 1 ∨ how = 2) : GMap W D rows (mW how W D) (mW how D W) (mRows how W D rows) (mTx how W) (mTz how D) (mS how) := by
  refine ⟨fun x z h1 h2 h3 h4 => ?_, (mS_ok hh).1, (mS_ok hh).2.1, fun d dx dz hd h => (mS_ok hh).2.2 W D d dx dz hd h⟩
  obtain ⟨g1, g2, g3, g4⟩ := mT_in hh h1 h2 h3 h4
  obtain ⟨p1, p2, p3, p4⟩ := place_in h1 h2 h3 h4
  have hi : (z * (mW how W D : Int) + x).toNat < W * D := by rw [← mW_mul (how := how)]; omega
  refine ⟨g1, g2, g3, g4, ?_⟩
  rw [mRows_get hi]
  congr 1
  unfold mPhi psi
  simp only
  rw [Int.toNat_of_nonneg p1, p3, p4]
theorem mirror_back (hh : how = 0 ∨ how = 1 ∨ how = 2) : GMap (mW how W D) (mW how D W) (mRows how W D rows) W D rows (mTx how W) (mTz how D) (mS how) := by
  refine ⟨fun x z h1 h2 h3 h4 => ?_, (mS_ok hh).1, (mS_ok hh).2.1, fun d dx dz hd h => (mS_ok hh).2.2 W D d dx dz hd h⟩
  obtain ⟨g1, g2, g3, g4⟩ := mT_in' hh h1 h2 h3 h4
  obtain ⟨_, _, _, _, h⟩ := (mirror_map (rows := rows) hh).1 _ _ g1 g2 g3 g4
  obtain ⟨t1, t2⟩ := mT_T (W := W) (D := D) hh x z
  rw [t1, t2] at h
  exact ⟨g1, g2, g3, g4, h.symm⟩
theorem mirror_ok (ho : gridOk X Z W D rows) (hh : how = 0 ∨ how = 1 ∨ how = 2) : gridOk 0 0 (mW how W D) (mW how D W) (mRows how W D rows) := by
  obtain ⟨_, _, _, _, o5, o6, o7, o8, o9, o10⟩ := ho
  have hw : mW how W D ≤ 64 ∧ mW how D W ≤ 64 := by unfold mW; split <;> omega
  refine ⟨by omega, by omega, by omega, by omega, by omega, by omega, by omega, by omega, ?_, fun r hr => ?_⟩
  · rw [mRows_length, ← mW_mul (how := how)]; simp
  · obtain ⟨i, _, rfl⟩ := List.mem_map.1 hr
    rw [List.getD_eq_getElem?_getD]
    cases h : rows[mPhi how W D i]? with
    | none => exact ⟨by simp, by simp⟩
    | some r => exact o10 r (List.mem_of_getElem? h)
theorem mPhi_lt (ho : gridOk X Z W D rows) (hh : how = 0 ∨ how = 1 ∨ how = 2) {i : Nat} (hi : i < (mRows how W D rows).length) : mPhi how W D i < rows.length :=
  (psi_in (mirror_map hh) ho (mirror_ok ho hh) hi 0).2.1
theorem mirror_len (ho : gridOk X Z W D rows) (hh : how = 0 ∨ how = 1 ∨ how = 2) {i : Nat} (hi : i < (mRows how W D rows).length) : lenF (mRows how W D rows) i = lenF rows (mPhi how W D i) := by
  unfold lenF
  rw [(psi_in (mirror_map hh) ho (mirror_ok ho hh) hi 0).2.2.2.2]
  rfl
theorem mirror_cl (ho : gridOk X Z W D rows) (hh : how = 0 ∨ how = 1 ∨ how = 2) {i k : Nat} (hi : i < (mRows how W D rows).length) (hk : k < lenF (mRows how W D rows) i) (c : Nat) :
    cl (eightF (mW how W D) (ttF lk 0 0 (mW how W D) (mW how D W) (mRows how W D rows))) c (i, k) = cl (eightF W (ttF lk X Z W D rows)) c (mPhi how W D i, k) := by
  have ho' := mirror_ok ho hh
  have hm := mirror_map (W := W) (D := D) (rows := rows) hh
  have hm' := mirror_back (W := W) (D := D) (rows := rows) hh
  have hin' := tt_inside lk ho' rfl
  have hG : ∀ s l, InG (mRows how W D rows).length (lenF (mRows how W D rows)) s → eightF (mW how W D) (ttF lk 0 0 (mW how W D) (mW how D W) (mRows how W D rows)) s = some l → ∀ t ∈ l, InG (mRows how W D rows).length (lenF (mRows how W D rows)) t := fun s l hs hN t ht => eight_in hin' hs hN t ht
  have hf := fun s l' hs hN => eight_fwd (lk := lk) hm ho ho' (s := s) (l' := l') hs hN
  have h0 : ∀ s, InG (mRows how W D rows).length (lenF (mRows how W D rows)) s → eightF (mW how W D) (ttF lk 0 0 (mW how W D) (mW how D W) (mRows how W D rows)) s = none → eightF W (ttF lk X Z W D rows) (psi W (mW how W D) (mTx how W) (mTz how D) s) = none := fun s hs hN => by
    cases h : eightF W (ttF lk X Z W D rows) (psi W (mW how W D) (mTx how W) (mTz how D) s) with
    | none => rfl
    | some l =>
      exfalso
      obtain ⟨i, k⟩ := s
      obtain ⟨e1, e2, e3, e4, e5⟩ := psi_in hm ho ho' hs.1 k
      have hs2 : InG rows.length (lenF rows) (psi W (mW how W D) (mTx how W) (mTz how D) (i, k)) := ⟨e2, by
        have := hs.2
        unfold lenF at this ⊢
        rw [e5] at this
        exact this⟩
      obtain ⟨l2, hl2, _⟩ := eight_fwd (lk := lk) hm' ho' ho hs2 h
      have hid : psi (mW how W D) W (mTx how W) (mTz how D) (psi W (mW how W D) (mTx how W) (mTz how D) (i, k)) = (i, k) := by
        obtain ⟨t1, t2⟩ := mT_T (W := W) (D := D) hh ((i : Int) % (mW how W D)) ((i : Int) / (mW how W D))
        obtain ⟨_, _, _, _, s5⟩ := spot_in ho' hs.1
        have : psi (mW how W D) W (mTx how W) (mTz how D) (psi W (mW how W D) (mTx how W) (mTz how D) (i, k)) = ((mTz how D (((psi W (mW how W D) (mTx how W) (mTz how D) (i, k)).1 : Int) % W) (((psi W (mW how W D) (mTx how W) (mTz how D) (i, k)).1 : Int) / W) * (mW how W D) + mTx how W (((psi W (mW how W D) (mTx how W) (mTz how D) (i, k)).1 : Int) % W) (((psi W (mW how W D) (mTx how W) (mTz how D) (i, k)).1 : Int) / W)).toNat, k) := rfl
        rw [this, e3, e4, t1, t2, s5, Int.toNat_natCast]
      rw [hid, hN] at hl2
      cases hl2
  refine kn_cl (fun n => ?_) c
  have e : (mPhi how W D i, k) = psi W (mW how W D) (mTx how W) (mTz how D) (i, k) := rfl
  rw [e]
  have hs : InG (mRows how W D rows).length (lenF (mRows how W D rows)) (i, k) := ⟨hi, hk⟩
  have a1 := kn_fwd hG hf n (i, k) hs
  have a2 := kn_back (fun _ _ => True) hG hf (fun _ s hs _ hN => h0 s hs hN) (fun _ _ _ _ _ _ _ _ => trivial) (fun _ _ _ => trivial) n (i, k) hs trivial
  cases h1 : kn (eightF (mW how W D) (ttF lk 0 0 (mW how W D) (mW how D W) (mRows how W D rows))) n (i, k) with
  | true => rw [a2 h1]
  | false =>
    cases h2 : kn (eightF W (ttF lk X Z W D rows)) n (psi W (mW how W D) (mTx how W) (mTz how D) (i, k)) with
    | true => rw [a1 h2] at h1; cases h1
    | false => rfl
end
end Go.Proofs.Ytcdfojfafnecdaa

/- footpathlaw14.turned and FieldMirrors by walks. No conditions but that the grid lies where it is said to lie. -/
namespace Go.Proofs.Ytcdfojfafnecdaa
open Go Go.RowKit Go.Sx Go.Mp
attribute [local go_sem] Oper.semAt_some
set_option maxHeartbeats 1000000 in
set_option maxRecDepth 100000 in
theorem turned_any (X Z : Int) (W D how : Nat) (F : Value) (x z : Int) (w : World) (hW : W ≤ 64) (hD : D ≤ 64) (hh : how = 0 ∨ how = 1 ∨ how = 2) (h1 : 0 ≤ x) (h2 : x < mW how W D) (h3 : 0 ≤ z) (h4 : z < mW how D W) :
    Calls Try.prog 22 #[.agg #[.int .i64 X, .int .i64 Z, .int .i64 W, .int .i64 D, F], .int .i64 x, .int .i64 z, .int .i64 how] w fun en w' => en = .returned (.int .i64 (mTz how D x z * W + mTx how W x z)) ∧ Below w.heap.size w w' := by
  obtain ⟨u2, eu2, bu2, ku2⟩ := alloc_step w (.cells #[.int .i64 X, .int .i64 Z, .int .i64 W, .int .i64 D, F] 26)
  obtain ⟨g0, g1, g2, g3, g4⟩ := box5 ku2
  have hw : mW how W D ≤ 64 ∧ mW how D W ≤ 64 := by unfold mW; split <;> omega
  have hm : ∀ y : Int, 0 ≤ y → y < 64 → 0 ≤ y * (W : Int) ∧ y * (W : Int) ≤ 64 * 64 := fun y hy1 hy2 => ⟨Int.mul_nonneg hy1 (by omega), Int.mul_le_mul (by omega) (by omega) (by omega) (by omega)⟩
  rcases hh with rfl | rfl | rfl
  · have hz := hm z h3 (by omega)
    have e1 : IntKind.i64.wrap (z * W) = z * W := by rw [IntKind.wrap_i64]; omega
    have e2 : IntKind.i64.wrap (z * W + W) = z * W + W := by rw [IntKind.wrap_i64]; omega
    have e3 : IntKind.i64.wrap (z * W + W - 1) = z * W + W - 1 := by rw [IntKind.wrap_i64]; omega
    have e4 : IntKind.i64.wrap (z * W + W - 1 - x) = z * W + (W - 1 - x) := by rw [IntKind.wrap_i64]; omega
    show Calls _ _ _ _ fun en w' => en = .returned (.int .i64 (z * W + (W - 1 - x))) ∧ _
    refine (callsIn_wide (n := 6)).1 ?_
    refine callsIn_of_wp Try.func22 rfl trivial ?_
    simp only [Try.ntmps22, List.size_toArray, List.length_cons, List.length_nil, Nat.reduceAdd, Nat.reduceSub, Array.replicate_succ, Array.replicate_zero, List.push_toArray, List.append_toArray, List.nil_append, List.cons_append]
    gi_wp2
    go_ret
    exact ⟨rfl, bu2⟩
  · have hmw : mW 1 W D = W ∧ mW 1 D W = D := ⟨rfl, rfl⟩
    have hz := hm (D - 1 - z) (by omega) (by omega)
    have e1 : IntKind.i64.wrap ((D : Int) - 1) = D - 1 := by rw [IntKind.wrap_i64]; omega
    have e2 : IntKind.i64.wrap ((D : Int) - 1 - z) = D - 1 - z := by rw [IntKind.wrap_i64]; omega
    have e3 : IntKind.i64.wrap (((D : Int) - 1 - z) * W) = (D - 1 - z) * W := by rw [IntKind.wrap_i64]; omega
    have e4 : IntKind.i64.wrap (((D : Int) - 1 - z) * W + x) = (D - 1 - z) * W + x := by rw [IntKind.wrap_i64]; omega
    show Calls _ _ _ _ fun en w' => en = .returned (.int .i64 ((D - 1 - z) * W + x)) ∧ _
    refine (callsIn_wide (n := 6)).1 ?_
    refine callsIn_of_wp Try.func22 rfl trivial ?_
    simp only [Try.ntmps22, List.size_toArray, List.length_cons, List.length_nil, Nat.reduceAdd, Nat.reduceSub, Array.replicate_succ, Array.replicate_zero, List.push_toArray, List.append_toArray, List.nil_append, List.cons_append]
    gi_wp2
    go_ret
    exact ⟨rfl, bu2⟩
  · have hz := hm x h1 (by omega)
    have e1 : IntKind.i64.wrap (x * W) = x * W := by rw [IntKind.wrap_i64]; omega
    have e4 : IntKind.i64.wrap (x * W + z) = x * W + z := by rw [IntKind.wrap_i64]; omega
    show Calls _ _ _ _ fun en w' => en = .returned (.int .i64 (x * W + z)) ∧ _
    refine (callsIn_wide (n := 6)).1 ?_
    refine callsIn_of_wp Try.func22 rfl trivial ?_
    simp only [Try.ntmps22, List.size_toArray, List.length_cons, List.length_nil, Nat.reduceAdd, Nat.reduceSub, Array.replicate_succ, Array.replicate_zero, List.push_toArray, List.append_toArray, List.nil_append, List.cons_append]
    gi_wp2
    go_ret
    exact ⟨rfl, bu2⟩
/-- A store of a whole value into a block of its own. -/
theorem wpIn_store_box {P : Program} {n : Nat} {o : Oper} {a : Act} {w : World} {K : Act → World → Prop} {Q : Exit → Act → World → Prop} {t : TypeId} (x y : Operand) (ho : o.op = .store t x y) {inf : TypeInfo} (hi : P.info? t = some inf) {g : Nat} {T : TypeId} {cur : Array Value} (hx : a.eval x = .pointer (some ⟨g, 0, none⟩)) {v : Value} (hy : a.eval y = v)
    (cs : List Value) (hc : v.cells.toList = cs) (hl : cs.length = inf.size) (h1 : ∀ u ∈ cs, u.oneCell' = true) (hg : w.heap[g]? = some (.cells cur T (0, 0))) (hfit : cur.size = cs.length)
    (h : ∀ w', w'.heap[g]? = some (.cells cs.toArray T (0, 0)) → Below g w w' → K (a.put o.dst undef) w') : o.wpIn Fence.wide n P a w K Q := by
  refine wpIn_store_block x y ho hi hx hy cs hc hl h1 hg (by omega) (h _ ?_ ?_)
  · have e : (cur.toList.take 0 ++ cs ++ cur.toList.drop (0 + cs.length)).toArray = cs.toArray := by
      rw [List.drop_eq_nil_of_le (by simp [hfit])]
      simp
    rw [e]
    exact setRow_heap _ _ _ _ _ _ hg
  · exact ⟨rfl, rfl, rfl, by simp [World.setRow], fun k hk => setRow_other w g k _ (by omega)⟩
theorem own_set {w : World} {b k e s n : Nat} {v u : Value} {xs : List Value} (h : w.ownsRow (b + 1) e s v n xs) : (w.setCell ⟨b, k, none⟩ u).ownsRow (b + 1) e s v n xs := by
  refine h.kept (row := some b) ⟨rfl, rfl, rfl, by simp [World.setCell], fun j hj hne => ?_⟩ ?_
  · unfold World.setCell
    simp only [Array.getElem?_modify]
    rw [if_neg (fun e => hne (by rw [e]))]
  · cases hv : v.ownBlock with
    | none => exact .inl rfl
    | some j => exact .inr (fun e => by have := (h.lt j hv).1; injection e with e; omega)
/-- The columns' heads of the grid that is turned about. -/
def mHeads (how W D : Nat) (HD : List Value) (i : Nat) : List Value := (List.range i).map fun j => HD.getD (mPhi how W D j) undef
theorem mHeads_succ (how W D : Nat) (HD : List Value) (i : Nat) : mHeads how W D HD (i + 1) = mHeads how W D HD i ++ [HD.getD (mPhi how W D i) undef] := by
  unfold mHeads
  rw [List.range_succ, List.map_append]
  rfl
theorem mirror_rows {w : World} {Am : Option Addr} {n base capm how W D : Nat} {T : TypeId} {rows : List (List V3)} {HD : List Value} (hn : n = W * D) (hown : w.ownsRow base T 1 (.slice Am n capm) n (mHeads how W D HD n)) (hphi : ∀ i, i < n → mPhi how W D i < rows.length)
    (hHD : ∀ (i : Nat) (r : List V3), rows[i]? = some r → ∃ (Ai : Option Addr) (ci : Nat), HD[i]? = some (Value.slice Ai r.length ci) ∧ Reads w w.heap.size 3 Ai r.length (vcs r)) : RowsAt w w.heap.size Am (mRows how W D rows) := by
  refine ⟨mHeads how W D HD n, by rw [mRows_length, ← hn]; exact Reads.of_own hown, fun i r hr => ?_⟩
  have hi : i < n := by
    have := (List.getElem?_eq_some_iff.1 hr).1
    rw [mRows_length] at this
    omega
  have hp := hphi i hi
  have e : r = rows[mPhi how W D i] := by
    have h1 := mRows_get (how := how) (W := W) (D := D) (rows := rows) (i := i) (by omega)
    rw [List.getD_eq_getElem?_getD, hr, List.getD_eq_getElem?_getD, List.getElem?_eq_getElem hp] at h1
    exact h1
  obtain ⟨Ai, ci, h2, h3⟩ := hHD (mPhi how W D i) rows[mPhi how W D i] (List.getElem?_eq_getElem hp)
  rw [← e] at h2 h3
  refine ⟨Ai, ci, ?_, h3⟩
  unfold mHeads
  rw [List.getElem?_map, List.getElem?_range hi]
  simp [List.getD_eq_getElem?_getD, h2]
theorem infoCol : (Try.prog.info? 40).map (fun i => (i.zero, i.size, i.bytes)) = some (some (.slice none 0 0), 1, 24) := by kernel_rfl
theorem infoGrid : (Try.prog.info? 26).map (fun i => (i.zero, i.size, i.bytes)) = some (some (.agg #[.int .i64 0, .int .i64 0, .int .i64 0, .int .i64 0, .slice none 0 0]), 5, 56) := by kernel_rfl
theorem how_bd (x : Int) : 0 ≤ (x.tmod 3 + 3).tmod 3 ∧ (x.tmod 3 + 3).tmod 3 ≤ 2 ∧ -3 < x.tmod 3 ∧ x.tmod 3 < 3 := by
  have h1 := Int.lt_tmod_of_pos x (by decide : (0 : Int) < 3)
  have h2 := Int.tmod_lt_of_pos x (by decide : (0 : Int) < 3)
  have e : (x.tmod 3 + 3).tmod 3 = (x.tmod 3 + 3) % 3 := Int.tmod_eq_emod_of_nonneg (by omega)
  omega
set_option maxHeartbeats 4000000 in
set_option maxRecDepth 100000 in
theorem fmirrors_any (a b c d e f g X Z W D how : Int) (rows : List (List V3)) (A : Option Addr) (cap : Nat) (w : World) (hr : RowsAt w w.heap.size A rows) (hl : lensOk rows) :
    Calls Try.prog 7 #[cfgv a b c d e f g, gridv X Z W D A rows.length cap, .int .i64 how] w fun en w' => en = .returned (.bool true) ∧ Below w.heap.size w w' := by
  obtain ⟨u1, eu1, bu1, ku1⟩ := alloc_step w (.cells #[.int .i64 a, .int .i64 b, .int .i64 c, .int .i64 d, .int .i64 e, .int .i64 f, .int .i64 g] 23)
  obtain ⟨u2, eu2, bu2, ku2⟩ := alloc_step u1 (.cells #[.int .i64 X, .int .i64 Z, .int .i64 W, .int .i64 D, .slice A rows.length cap] 26)
  have hba : Below w.heap.size w u2 := bu1.trans (bu2.mono bu1.size)
  have hB0 := (bu2.block _ (lt_of_block ku1)).trans ku1
  have hgr := great14_any X Z W D rows A cap u2 ((hr.below hba).more hba.size) hl
  have hwk := fun w => wakes14_any w
  unfold gridv at hgr
  obtain ⟨g0, g1, g2, g3, g4⟩ := box5 ku2
  have hbd := how_bd how
  unfold cfgv gridv
  refine (callsIn_wide (n := 6)).1 ?_
  refine callsIn_of_wp Try.func7 rfl trivial ?_
  simp only [Try.ntmps7, List.size_toArray, List.length_cons, List.length_nil, Nat.reduceAdd, Nat.reduceSub, Array.replicate_succ, Array.replicate_zero, List.push_toArray, List.append_toArray, List.nil_append, List.cons_append]
  gi_wp2
  refine ⟨trivial, (callsIn_wide.2 hgr).mono ?_⟩
  rintro en w1 ⟨⟨bg, rfl⟩, hb1⟩
  clear g0 g1 g2 g3 g4 hgr
  have p0 := (hb1.block _ (lt_of_block hB0)).trans hB0
  have p1 := (hb1.block _ (lt_of_block ku2)).trans ku2
  have hb01 := hba.trans (hb1.mono hba.size)
  cases bg with
  | true =>
    gi_wp2_with (refine wpListIn_off rfl ?_)
    refine ⟨trivial, (callsIn_wide.2 (hwk _)).mono ?_⟩
    rintro en w2 ⟨rfl, hb2⟩
    gi_wp2
    go_ret
    exact ⟨rfl, hb01.trans (hb2.mono hb01.size)⟩
  | false =>
    obtain ⟨g0, g1, g2, g3, g4⟩ := box5 p1
    have hch := rcheck_any X Z W D rows A cap w1 ((hr.below hb01).more hb01.size) hl
    unfold gridv at hch
    gi_wp2
    refine ⟨trivial, (callsIn_wide.2 hch).mono ?_⟩
    rintro en w2 ⟨⟨er, rfl, hei⟩, hb2⟩
    clear hch g0 g1 g2 g3 g4
    have hb02 := hb01.trans (hb2.mono hb01.size)
    have m0 := (hb2.block _ (lt_of_block p0)).trans p0
    have m1 := (hb2.block _ (lt_of_block p1)).trans p1
    by_cases ho : gridOk X Z W D rows
    · obtain rfl : er = 0 := hei.2 ho
      clear hei
      obtain ⟨Wn, rfl⟩ : ∃ Wn : Nat, W = Wn := ⟨W.toNat, by have := ho.2.2.2.2.1; omega⟩
      obtain ⟨Dn, rfl⟩ : ∃ Dn : Nat, D = Dn := ⟨D.toNat, by have := ho.2.2.2.2.2.2.1; omega⟩
      obtain ⟨hw, hhw⟩ : ∃ hw : Nat, (how.tmod 3 + 3).tmod 3 = hw := ⟨((how.tmod 3 + 3).tmod 3).toNat, by omega⟩
      have hh : hw = 0 ∨ hw = 1 ∨ hw = 2 := by omega
      have ew1 : IntKind.i64.wrap (how.tmod 3) = how.tmod 3 := by rw [IntKind.wrap_i64]; omega
      have ew2 : IntKind.i64.wrap (how.tmod 3 + 3) = how.tmod 3 + 3 := by rw [IntKind.wrap_i64]; omega
      have ew3 : IntKind.i64.wrap ((how.tmod 3 + 3).tmod 3) = hw := by rw [hhw, IntKind.wrap_i64]; omega
      clear hbd
      obtain ⟨HD, hHD1, hHD2⟩ := id hr
      have hW64 : Wn ≤ 64 := by have := ho.2.2.2.2.2.1; omega
      have hD64 : Dn ≤ 64 := by have := ho.2.2.2.2.2.2.2.1; omega
      have ho' := mirror_ok ho hh
      have hmm := mirror_map (W := Wn) (D := Dn) (rows := rows) hh
      have hmlen := mRows_length hw Wn Dn rows
      have hphi0 := fun (i : Nat) (hi : i < (mRows hw Wn Dn rows).length) => mPhi_lt ho hh hi
      have hpsi0 := fun (i : Nat) (hi : i < (mRows hw Wn Dn rows).length) => (psi_in hmm ho ho' hi 0).1
      have hcl0 := fun (i k : Nat) hi hk c' => mirror_cl (lk := lkF a b c d e f g) ho hh (i := i) (k := k) hi hk c'
      have hml0 := fun (i : Nat) hi => mirror_len ho hh (i := i) hi
      obtain ⟨Wm, hWm⟩ : ∃ Wm, mW hw Wn Dn = Wm := ⟨_, rfl⟩
      obtain ⟨Dm, hDm⟩ : ∃ Dm, mW hw Dn Wn = Dm := ⟨_, rfl⟩
      have hWD : Wm * Dm = Wn * Dn := by rw [← hWm, ← hDm]; exact mW_mul
      obtain ⟨nn, hnn⟩ : ∃ nn, Wm * Dm = nn := ⟨_, rfl⟩
      rw [hnn] at hWD
      rw [← hWD] at hmlen
      have hWDle : nn ≤ 4096 := by rw [hWD]; exact Nat.mul_le_mul hW64 hD64
      rw [hWm, hDm] at ho' hcl0
      have hWm64 : Wm ≤ 64 := by have := ho'.2.2.2.2.2.1; omega
      have hDm64 : Dm ≤ 64 := by have := ho'.2.2.2.2.2.2.2.1; omega
      have hlen2 : rows.length = nn := by
        rw [hWD]
        have h1 := ho.2.2.2.2.2.2.2.2.1
        have h2 : ((Wn * Dn : Nat) : Int) = (Wn : Int) * Dn := by simp
        omega
      replace hlen2 := Lib.hid hlen2
      have hlenN := Lib.hid hWD
      clear hWD
      have hphi : ∀ i, i < nn → mPhi hw Wn Dn i < rows.length := fun i hi => hphi0 i (by rw [hmlen]; exact hi)
      have hpsi : ∀ i, i < (mRows hw Wn Dn rows).length → ((mPhi hw Wn Dn i : Nat) : Int) = mTz hw Dn ((i : Int) % Wm) ((i : Int) / Wm) * Wn + mTx hw Wn ((i : Int) % Wm) ((i : Int) / Wm) := fun i hi => by rw [← hWm]; exact hpsi0 i hi
      clear hphi0 hpsi0 hmm
      replace hmlen := Lib.hid hmlen
      obtain ⟨g0, g1, g2, g3, g4⟩ := box5 m1
      obtain ⟨u3, eu3, bu3, ku3⟩ := alloc_step w2 (.cells #[.int .i64 0, .int .i64 0, .int .i64 0, .int .i64 0, .slice none 0 0] 26)
      obtain ⟨iG, hiG, hzG0, hzG1, hzG2⟩ := info_parts infoGrid
      by_cases h2 : hw = 2
      · have h2' : ((hw : Int) == 2) = true := by simp; omega
        replace h2 := Lib.hid h2
        have lg0 : u1.heap.size < w2.heap.size := lt_of_block m1
        have b2 := (bu3.cell (p := ⟨u1.heap.size, 2, none⟩) lg0).trans g2
        have b3 := (bu3.cell (p := ⟨u1.heap.size, 3, none⟩) lg0).trans g3
        gi_wp2_with (first | (refine wpListIn_plain rfl fun K' hK' => ?_; refine wpIn_store_box (.tmp 7) (.tmp 30) rfl hiG rfl rfl [.int .i64 0, .int .i64 0, .int .i64 Wn, .int .i64 Dn, .slice none 0 0] rfl hzG1.symm (by simp [Value.oneCell']) ku3 rfl ?_; intro w9 hk9 hb9; have y2 := (hb9.cell (p := ⟨u1.heap.size, 2, none⟩) lg0).trans b2; have y3 := (hb9.cell (p := ⟨u1.heap.size, 3, none⟩) lg0).trans b3; refine hK' _ _ ?_) | (refine wpListIn_plain rfl fun K' hK' => ?_; refine wpIn_store_box (.tmp 7) (.tmp 37) rfl hiG rfl rfl [.int .i64 0, .int .i64 0, .int .i64 Dn, .int .i64 Wn, .slice none 0 0] rfl hzG1.symm (by simp [Value.oneCell']) hk9 rfl ?_; intro w3 hkm hbs; refine hK' _ _ ?_))
        have hb23 : Below w2.heap.size w2 w3 := bu3.trans (hb9.trans hbs)
        have eW : Wm = Dn := by rw [← hWm]; unfold mW; rw [if_pos h2.out]
        have eD : Dm = Wn := by rw [← hDm]; unfold mW; rw [if_pos h2.out]
        rw [← eW, ← eD] at hkm
        clear eD eW g0 g1 g2 g3 g4 b2 b3 y2 y3 hk9
        · skip
          have hs3 : w2.heap.size < w3.heap.size := lt_of_block hkm
          have hb03 := hb02.trans (hb23.mono hb02.size)
          gi_loopw [8] (fun x wr => ∃ (i : Nat) (v : Value), x = .int .i64 i ∧ i ≤ nn ∧ wr.heap[w2.heap.size]? = some (.cells #[.int .i64 0, .int .i64 0, .int .i64 Wm, .int .i64 Dm, v] 26 (0, 0)) ∧ wr.ownsRow (w2.heap.size + 1) 40 1 v i (mHeads hw Wn Dn HD i) ∧ Below w2.heap.size w2 wr) (fun x _ => nn - (intOf x).toNat)
          case atStart => exact ⟨0, _, rfl, Nat.zero_le _, hkm, World.ownsRow_nil _ _ _ _, hb23⟩
          case round =>
            clear hkm hb03 hs3
            obtain ⟨i, v, rfl, hi, hkm, hown, hlow⟩ := hrel
            have hlowW := hb02.trans (hlow.mono hb02.size)
            have hsz := lt_of_block hkm
            obtain ⟨n0, n1, n2, n3, n4⟩ := box5 hkm
            have hmul : IntKind.i64.wrap ((Wm : Int) * Dm) = ((nn : Nat) : Int) := by
              have e : (Wm : Int) * Dm = (nn : Int) := by rw [← hnn]; simp
              rw [e, IntKind.wrap_i64]; omega
            by_cases hin : i < nn
            · have hin' : (i : Int) < ((nn : Nat) : Int) := by omega
              have hwi : IntKind.i64.wrap ((i : Int) + 1) = (i : Int) + 1 := by rw [IntKind.wrap_i64]; omega
              have hi' : i < (mRows hw Wn Dn rows).length := by rw [hmlen.out]; exact hin
              obtain ⟨s1, s2, s3, s4, s5⟩ := spot_in ho' hi'
              have hph := hphi i hin
              have he1 := hpsi i hi'
              have hW0 : Wm ≠ 0 := by omega
              have hi0 : (0 : Int) ≤ (i : Int) := by omega
              have eD : IntKind.i64.wrap ((i : Int) / Wm) = (i : Int) / Wm := by rw [IntKind.wrap_i64]; omega
              have eM : IntKind.i64.wrap ((i : Int) % Wm) = (i : Int) % Wm := by rw [IntKind.wrap_i64]; omega
              obtain ⟨ad, u, rfl, hbl, hu, hcu⟩ := (hHD1.below hlowW).at_ hph
              have hHg : HD.getD (mPhi hw Wn Dn i) undef = u := by rw [List.getD_eq_getElem?_getD, hu]; rfl
              obtain ⟨Ai, ci, hu2, _⟩ := hHD2 (mPhi hw Wn Dn i) _ (List.getElem?_eq_getElem hph)
              obtain rfl : u = .slice Ai rows[mPhi hw Wn Dn i].length ci := by rw [hu] at hu2; injection hu2
              have hphI : ((mPhi hw Wn Dn i : Nat) : Int) < (rows.length : Int) := by omega
              have hb1 := turned_any X Z Wn Dn hw (.slice (some ad) rows.length cap) ((i : Int) % Wm) ((i : Int) / Wm) wr.drew hW64 hD64 hh s1 (by rw [hWm]; exact s2) s3 (by rw [hDm]; exact s4)
              rw [← he1] at hb1
              generalize rows[mPhi hw Wn Dn i].length = lu at hcu hHg
              generalize mPhi hw Wn Dn i = ph at hcu hb1 hphI hph
              obtain ⟨g0, g1, g2, g3, g4⟩ := box5 ((hlow.block _ (lt_of_block m1)).trans m1)
              obtain ⟨i0, hii, hz0, hz1, hz2⟩ := info_parts infoCol
              have lg : u1.heap.size < w2.heap.size := lt_of_block m1
              gi_wp2
              have hS : (CellsL [(⟨u1.heap.size, 0, none⟩, .int .i64 X), (⟨u1.heap.size, 1, none⟩, .int .i64 Z), (⟨u1.heap.size, 2, none⟩, .int .i64 Wn), (⟨u1.heap.size, 3, none⟩, .int .i64 Dn), (⟨u1.heap.size, 4, none⟩, .slice (some ad) rows.length cap), (⟨w2.heap.size, 2, none⟩, .int .i64 Wm), (⟨w2.heap.size, 4, none⟩, v), (ad.add ph, .slice Ai lu ci)]) (wr.drew) := ⟨g0, g1, g2, g3, g4, n2, n4, hcu, trivial⟩
              refine wpIn_region_ord [(0, true), (1, true), (2, true), (3, true), (4, true), (5, true), (6, true), (7, true), (8, true), (9, true), (10, true), (11, true), (12, true), (13, true), (14, false), (15, true), (16, true), (17, false), (18, false), (19, true)] (CellsL [(⟨u1.heap.size, 0, none⟩, .int .i64 X), (⟨u1.heap.size, 1, none⟩, .int .i64 Z), (⟨u1.heap.size, 2, none⟩, .int .i64 Wn), (⟨u1.heap.size, 3, none⟩, .int .i64 Dn), (⟨u1.heap.size, 4, none⟩, .slice (some ad) rows.length cap), (⟨w2.heap.size, 2, none⟩, .int .i64 Wm), (⟨w2.heap.size, 4, none⟩, v), (ad.add ph, .slice Ai lu ci)]) (fun _ => trivial) rfl (by first | exact then_put rfl | (intro c d v a w h; cases d <;> exact h)) (by kernel_rfl) ?_
              simp only [List.length_cons, List.length_nil, Nat.reduceAdd, List.drop_succ_cons, List.drop_zero]
              iterate 14 (apply wpOrd_quiet rfl hS rfl; (intro w' hw'; obtain ⟨q0, q1, q2, q3, q4, q5, q6, q7, _⟩ := hw'; go_simp; first | exact rfl | (rw [if_neg hW0, Int.tmod_eq_emod_of_nonneg hi0]; exact rfl) | (rw [if_neg hW0, Int.tdiv_eq_ediv_of_nonneg hi0]; exact rfl)); go_simp)
              refine wpOrd_move rfl rfl ?_
              go_simp
              refine ⟨trivial, (callsIn_wide.2 hb1).mono ?_⟩
              rintro en w5 ⟨rfl, hb5⟩
              have hs5 : wr.heap.size ≤ w5.heap.size := hb5.size
              have hown5 := own_below hown.drew hb5
              have hkm5 := (hb5.block _ hsz).trans (show wr.drew.heap[w2.heap.size]? = _ from hkm)
              have hl5 : Below w2.heap.size w2 w5 := hlow.drew.trans (hb5.mono hlow.size)
              have la : ad.block < w2.heap.size := Nat.lt_of_lt_of_le hbl hb02.size
              have lg1 : u1.heap.size < wr.heap.size := by omega
              replace hS := CellsL.keep hb5 hS ⟨lg1, lg1, lg1, lg1, lg1, hsz, hsz, by rw [block_of_add]; show _ < wr.heap.size; omega, trivial⟩
              refine ⟨hS, ?_⟩
              go_simp
              iterate 2 (apply wpOrd_quiet rfl hS rfl; (intro w' hw'; obtain ⟨q0, q1, q2, q3, q4, q5, q6, q7, _⟩ := hw'; go_simp; first | exact rfl | (rw [if_neg hW0, Int.tmod_eq_emod_of_nonneg hi0]; exact rfl) | (rw [if_neg hW0, Int.tdiv_eq_ediv_of_nonneg hi0]; exact rfl)); go_simp)
              refine wpOrd_move rfl rfl ?_
              go_simp
              have hS3 := hS
              have lg2 : u1.heap.size < w5.heap.size := by omega
              have lm2 : w2.heap.size < w5.heap.size := by omega
              replace hS := CellsL.keep ((Below.refl w5.heap.size w5).alloc (Nat.le_refl _) (.cells #[.slice Ai lu ci] 40)) hS ⟨lg2, lg2, lg2, lg2, lg2, lm2, lm2, by rw [block_of_add]; omega, trivial⟩
              refine ⟨hS, ?_⟩
              go_simp
              refine wpOrd_move rfl rfl ?_
              refine wpIn_append_at (.tmp 48) (.tmp 64) 24 rfl (w2.heap.size + 1) 40 i0 _ 1 24 Try.underlying24 hii hz0 hz1 hz2 (by decide) (by decide) _ i (mHeads hw Wn Dn HD i) rfl (hown5.alloc _) ⟨w5.heap.size, 0, none⟩ 1 1 [.slice Ai lu ci] rfl rfl (cell_one_new _ _ _) (by simp [Value.oneCell']) (by unfold maxLen; omega) (by omega) (by simp; omega) ?_
              intro v8 w8 hown8 hg8 hloc8
              have hkeep : ∀ j, j < w5.heap.size → j ≤ w2.heap.size → w8.heap[j]? = w5.heap[j]? := fun j hj hj2 => (hg8.block j (by simp; omega) (fun e => by have := (hown5.lt j e.symm).1; omega)).trans (Below.heap_alloc _ _ _ hj)
              have hkm8 := (hkeep _ (by omega) (Nat.le_refl _)).trans hkm5
              have hB8 := hkeep u1.heap.size (by omega) (by omega)
              have hA8 := hkeep ad.block (by omega) (by omega)
              have hM8 := hkeep w2.heap.size (by omega) (Nat.le_refl _)
              replace hS : CellsL [(⟨u1.heap.size, 0, none⟩, .int .i64 X), (⟨u1.heap.size, 1, none⟩, .int .i64 Z), (⟨u1.heap.size, 2, none⟩, .int .i64 Wn), (⟨u1.heap.size, 3, none⟩, .int .i64 Dn), (⟨u1.heap.size, 4, none⟩, .slice (some ad) rows.length cap), (⟨w2.heap.size, 2, none⟩, .int .i64 Wm), (⟨w2.heap.size, 4, none⟩, v), (ad.add ph, .slice Ai lu ci)] w8 :=
                ⟨(World.cell?_of_block hB8).trans hS3.1, (World.cell?_of_block hB8).trans hS3.2.1, (World.cell?_of_block hB8).trans hS3.2.2.1, (World.cell?_of_block hB8).trans hS3.2.2.2.1, (World.cell?_of_block hB8).trans hS3.2.2.2.2.1, (World.cell?_of_block hM8).trans hS3.2.2.2.2.2.1, (World.cell?_of_block hM8).trans hS3.2.2.2.2.2.2.1, (World.cell?_of_block (by rw [block_of_add]; exact hA8)).trans hS3.2.2.2.2.2.2.2.1, trivial⟩
              refine ⟨hS, ?_⟩
              go_simp
              iterate 1 (apply wpOrd_quiet rfl hS rfl; (intro w' hw'; obtain ⟨q0, q1, q2, q3, q4, q5, q6, q7, _⟩ := hw'; go_simp; first | exact rfl | (rw [if_neg hW0, Int.tmod_eq_emod_of_nonneg hi0]; exact rfl) | (rw [if_neg hW0, Int.tdiv_eq_ediv_of_nonneg hi0]; exact rfl)); go_simp)
              refine wpOrd_nil ?_
              obtain ⟨A8, c8, rfl⟩ := own_rowS hown8
              clear hS hS3 g0 g1 g2 g3 g4 n0 n1 n2 n3 n4 hB8 hA8 hM8
              have hl8 : Below w2.heap.size w2 w8 := (hl5.alloc (by omega) _).grown hg8 (by simp; omega) (fun q e => by have := (hown5.lt q e).1; omega)
              have z8 : w8.frozen? ⟨w2.heap.size, 4, none⟩ = false := not_frozen hkm8
              have z9 : w8.cell? ⟨w2.heap.size, 4, none⟩ = some v := cell_of hkm8 rfl
              have hO9 := set_block (k := 4) hkm8 (.slice A8 (i + 1) c8)
              have hown9 := own_set (k := 4) (u := .slice A8 (i + 1) c8) hown8
              have hl9 := hl8.setCell (p := ⟨w2.heap.size, 4, none⟩) (Nat.le_refl _) (.slice A8 (i + 1) c8)
              gi_wp2
              go_roundw
              case rel => exact ⟨i + 1, _, by go_num, by omega, hO9, by rw [mHeads_succ, hHg]; exact hown9, hl9⟩
              case measure => simp [intOf]; omega
            · obtain rfl : nn = i := by omega
              obtain ⟨Am, capm, rfl⟩ := own_rowS hown
              have hM : RowsAt wr wr.heap.size Am (mRows hw Wn Dn rows) := mirror_rows hlenN.out hown hphi (fun i r h => by
                obtain ⟨Ai, ci, h1, h2⟩ := hHD2 i r h
                exact ⟨Ai, ci, h1, (h2.below hlowW).more hlowW.size⟩)
              have k0 := (hlow.block _ (lt_of_block m0)).trans m0
              have k1 := (hlow.block _ (lt_of_block m1)).trans m1
              obtain ⟨q0, q1, q2, q3, q4, q5, q6⟩ := box7 k0
              obtain ⟨g0, g1, g2, g3, g4⟩ := box5 k1
              have hr4 := (hr.below hlowW).more hlowW.size
              by_cases hk : checkF a b c d e f g = 0
              · have hf1 := fbuild_ok a b c d e f g X Z Wn Dn rows A cap wr hr4 hl hk ho
                rw [Int.toNat_natCast] at hf1
                obtain ⟨fg, hfg⟩ : ∃ fg : Nat → Nat → Int, (fun i k => ((cl (eightF Wn (ttF (lkF a b c d e f g) X Z Wn Dn rows)) (a + 3).toNat (i, k) : Nat) : Int)) = fg := ⟨_, rfl⟩
                rw [hfg] at hf1
                unfold cfgv at hf1
                gi_wp2
                refine ⟨trivial, (callsIn_wide.2 hf1).mono ?_⟩
                rintro en w5 ⟨A5, c5, rfl, hI5, hb5⟩
                clear q0 q1 q2 q3 q4 q5 q6 g0 g1 g2 g3 g4 n0 n1 n2 n3 n4 hf1
                have v0 := (hb5.block _ (lt_of_block k0)).trans k0
                have v1 := (hb5.block _ (lt_of_block k1)).trans k1
                have vm := (hb5.block _ (lt_of_block hkm)).trans hkm
                obtain ⟨q0, q1, q2, q3, q4, q5, q6⟩ := box7 v0
                obtain ⟨n0, n1, n2, n3, n4⟩ := box5 vm
                have hf2 := fbuild_ok a b c d e f g 0 0 Wm Dm (mRows hw Wn Dn rows) Am capm w5 ((hM.below hb5).more hb5.size) (lensOk_g ho') hk ho'
                rw [Int.toNat_natCast] at hf2
                obtain ⟨fm, hfm⟩ : ∃ fm : Nat → Nat → Int, (fun i k => ((cl (eightF Wm (ttF (lkF a b c d e f g) 0 0 Wm Dm (mRows hw Wn Dn rows))) (a + 3).toNat (i, k) : Nat) : Int)) = fm := ⟨_, rfl⟩
                rw [hfm, hmlen.out] at hf2
                have hff : ∀ i k, i < (mRows hw Wn Dn rows).length → k < lenF (mRows hw Wn Dn rows) i → fm i k = fg (mPhi hw Wn Dn i) k := fun i k h1 h2 => by
                  rw [← hfm, ← hfg]
                  exact congrArg _ (hcl0 i k h1 h2 (a + 3).toNat)
                unfold cfgv at hf2
                gi_wp2
                refine ⟨trivial, (callsIn_wide.2 hf2).mono ?_⟩
                rintro en w6 ⟨A6, c6, rfl, hI6, hb6⟩
                clear q0 q1 q2 q3 q4 q5 q6 n0 n1 n2 n3 n4 hf2 hfg hfm hcl0
                have hbr6 := hb5.trans (hb6.mono hb5.size)
                have y1 := (hb6.block _ (lt_of_block v1)).trans v1
                have ym := (hb6.block _ (lt_of_block vm)).trans vm
                have hI56 := (hI5.below hb6).more hb6.size
                have hb06 := hlowW.trans (hbr6.mono hlowW.size)
                have hneq : (((rows.length : Nat) : Int) != ((nn : Nat) : Int)) = false := by rw [hlen2.out]; simp
                clear hI5
                gi_wp2
                gi_loopw [13] (fun x wr => ∃ i : Nat, x = .int .i64 i ∧ i ≤ nn ∧ Below w6.heap.size w6 wr) (fun x _ => nn - (intOf x).toNat)
                case atStart => exact ⟨0, rfl, Nat.zero_le _, Below.refl _ _⟩
                case round =>
                  obtain ⟨i, rfl, hi, hlow2⟩ := hrel
                  by_cases hin : i < nn
                  · have hin' : (i : Int) < ((nn : Nat) : Int) := by omega
                    have hwi : IntKind.i64.wrap ((i : Int) + 1) = (i : Int) + 1 := by rw [IntKind.wrap_i64]; omega
                    have hi' : i < (mRows hw Wn Dn rows).length := by rw [hmlen.out]; exact hin
                    obtain ⟨s1, s2, s3, s4, s5⟩ := spot_in ho' hi'
                    have hph := hphi i hin
                    have he1 := hpsi i hi'
                    have hW0 : Wm ≠ 0 := by omega
                    have hi0 : (0 : Int) ≤ (i : Int) := by omega
                    have eD : IntKind.i64.wrap ((i : Int) / Wm) = (i : Int) / Wm := by rw [IntKind.wrap_i64]; omega
                    have eM : IntKind.i64.wrap ((i : Int) % Wm) = (i : Int) % Wm := by rw [IntKind.wrap_i64]; omega
                    have hphI : ((mPhi hw Wn Dn i : Nat) : Int) < (rows.length : Int) := by omega
                    obtain ⟨bd, Bi, di, rfl, hbb, hcb, hrb⟩ := (hI6.below hlow2).at_ hin
                    obtain ⟨ad, Ai, ci, rfl, hbl, hca, hra⟩ := (hI56.below hlow2).at_ hph
                    have hlen := hml0 i hi'
                    have h8 := lenF_le ho (mPhi hw Wn Dn i)
                    have hrow : intRow (lenF (mRows hw Wn Dn rows) i) (fm i) = intRow (lenF rows (mPhi hw Wn Dn i)) (fg (mPhi hw Wn Dn i)) := by
                      rw [hlen]
                      exact intRow_ext fun k hk2 => hff i k hi' (by rw [hlen]; exact hk2)
                    rw [hrow] at hrb
                    rw [hlen] at hcb hrb
                    have hb1 := turned_any X Z Wn Dn hw (.slice A rows.length cap) ((i : Int) % Wm) ((i : Int) / Wm) wr.drew hW64 hD64 hh s1 (by rw [hWm]; exact s2) s3 (by rw [hDm]; exact s4)
                    rw [← he1] at hb1
                    clear hrow hlen he1 s5
                    generalize lenF rows (mPhi hw Wn Dn i) = li at hca hcb hra hrb h8
                    generalize mPhi hw Wn Dn i = ph at hca hra hrb hb1 hphI hph
                    obtain ⟨g0, g1, g2, g3, g4⟩ := box5 ((hlow2.block _ (lt_of_block y1)).trans y1)
                    obtain ⟨n0, n1, n2, n3, n4⟩ := box5 ((hlow2.block _ (lt_of_block ym)).trans ym)
                    have lg : u1.heap.size < w6.heap.size := lt_of_block y1
                    have lm : w2.heap.size < w6.heap.size := lt_of_block ym
                    have hs2 := hlow2.size
                    have lg1 : u1.heap.size < wr.heap.size := by omega
                    have lm1 : w2.heap.size < wr.heap.size := by omega
                    gi_wp2
                    have hS : (CellsL [(bd.add i, .slice Bi li di), (⟨u1.heap.size, 0, none⟩, .int .i64 X), (⟨u1.heap.size, 1, none⟩, .int .i64 Z), (⟨u1.heap.size, 2, none⟩, .int .i64 Wn), (⟨u1.heap.size, 3, none⟩, .int .i64 Dn), (⟨u1.heap.size, 4, none⟩, .slice A rows.length cap), (⟨w2.heap.size, 2, none⟩, .int .i64 Wm), (ad.add ph, .slice Ai li ci)]) (wr.drew) := ⟨hcb, g0, g1, g2, g3, g4, n2, hca, trivial⟩
                    refine wpIn_region_ord [(0, true), (1, true), (2, true), (3, true), (4, true), (5, true), (6, true), (7, true), (8, true), (9, true), (10, true), (11, true), (12, true), (13, true), (14, true), (15, false), (16, true), (17, true), (18, false)] (CellsL [(bd.add i, .slice Bi li di), (⟨u1.heap.size, 0, none⟩, .int .i64 X), (⟨u1.heap.size, 1, none⟩, .int .i64 Z), (⟨u1.heap.size, 2, none⟩, .int .i64 Wn), (⟨u1.heap.size, 3, none⟩, .int .i64 Dn), (⟨u1.heap.size, 4, none⟩, .slice A rows.length cap), (⟨w2.heap.size, 2, none⟩, .int .i64 Wm), (ad.add ph, .slice Ai li ci)]) (fun _ => trivial) rfl (by first | exact then_put rfl | (intro c d v a w h; cases d <;> exact h)) (by kernel_rfl) ?_
                    simp only [List.length_cons, List.length_nil, Nat.reduceAdd, List.drop_succ_cons, List.drop_zero]
                    iterate 15 (apply wpOrd_quiet rfl hS rfl; (intro w' hw'; obtain ⟨q0, q1, q2, q3, q4, q5, q6, q7, _⟩ := hw'; go_simp; first | exact rfl | (rw [if_neg hW0, Int.tmod_eq_emod_of_nonneg hi0]; exact rfl) | (rw [if_neg hW0, Int.tdiv_eq_ediv_of_nonneg hi0]; exact rfl)); go_simp)
                    refine wpOrd_move rfl rfl ?_
                    go_simp
                    refine ⟨trivial, (callsIn_wide.2 hb1).mono ?_⟩
                    rintro en w7 ⟨rfl, hb7⟩
                    replace hS := CellsL.keep hb7 hS ⟨by rw [block_of_add]; show _ < wr.heap.size; omega, lg1, lg1, lg1, lg1, lg1, lm1, by rw [block_of_add]; show _ < wr.heap.size; omega, trivial⟩
                    refine ⟨hS, ?_⟩
                    go_simp
                    iterate 2 (apply wpOrd_quiet rfl hS rfl; (intro w' hw'; obtain ⟨q0, q1, q2, q3, q4, q5, q6, q7, _⟩ := hw'; go_simp; first | exact rfl | (rw [if_neg hW0, Int.tmod_eq_emod_of_nonneg hi0]; exact rfl) | (rw [if_neg hW0, Int.tdiv_eq_ediv_of_nonneg hi0]; exact rfl)); go_simp)
                    refine wpOrd_move rfl rfl ?_
                    go_simp
                    have hs7 : wr.heap.size ≤ w7.heap.size := hb7.size
                    have lg2 : u1.heap.size < w7.heap.size := by omega
                    have lm2 : w2.heap.size < w7.heap.size := by omega
                    have hin1 := rints_any li (fg ph) Bi Ai di ci w7 (by omega) (((hrb.more hs2).drew.below hb7).more hb7.size) (((hra.more hs2).drew.below hb7).more hb7.size)
                    refine ⟨trivial, (callsIn_wide.2 hin1).mono ?_⟩
                    rintro en w8 ⟨rfl, hb8⟩
                    replace hS := CellsL.keep hb8 hS ⟨by rw [block_of_add]; omega, lg2, lg2, lg2, lg2, lg2, lm2, by rw [block_of_add]; omega, trivial⟩
                    refine ⟨hS, ?_⟩
                    go_simp
                    refine wpOrd_nil ?_
                    clear hS g0 g1 g2 g3 g4 n0 n1 n2 n3 n4
                    gi_wp2
                    go_roundw
                    case rel => exact ⟨i + 1, by go_num, by omega, hlow2.drew.trans ((hb7.trans (hb8.mono hb7.size)).mono hlow2.size)⟩
                    case measure => simp [intOf]; omega
                  · obtain rfl : nn = i := by omega
                    gi_wp2
                    refine ⟨trivial, (callsIn_wide.2 (hwk _)).mono ?_⟩
                    rintro en w7 ⟨rfl, hb7⟩
                    gi_wp2
                    go_ret
                    exact ⟨rfl, hb06.trans ((hlow2.trans (hb7.mono hlow2.size)).mono hb06.size)⟩
              · have hf1 := fbuild_no a b c d e f g X Z Wn Dn rows A cap wr hr4 hl (fun h => hk h.1)
                rw [if_neg hk] at hf1
                unfold cfgv at hf1
                gi_wp2
                refine ⟨trivial, (callsIn_wide.2 hf1).mono ?_⟩
                rintro en w5 ⟨rfl, hb5⟩
                clear q0 q1 q2 q3 q4 q5 q6 g0 g1 g2 g3 g4 n0 n1 n2 n3 n4 hf1
                have v0 := (hb5.block _ (lt_of_block k0)).trans k0
                have vm := (hb5.block _ (lt_of_block hkm)).trans hkm
                obtain ⟨q0, q1, q2, q3, q4, q5, q6⟩ := box7 v0
                obtain ⟨n0, n1, n2, n3, n4⟩ := box5 vm
                have hf2 := fbuild_no a b c d e f g 0 0 Wm Dm (mRows hw Wn Dn rows) Am capm w5 ((hM.below hb5).more hb5.size) (lensOk_g ho') (fun h => hk h.1)
                rw [if_neg hk, hmlen.out] at hf2
                unfold cfgv at hf2
                gi_wp2
                refine ⟨trivial, (callsIn_wide.2 hf2).mono ?_⟩
                rintro en w6 ⟨rfl, hb6⟩
                clear q0 q1 q2 q3 q4 q5 q6 n0 n1 n2 n3 n4 hf2
                have hbr6 := hb5.trans (hb6.mono hb5.size)
                have hb06 := hlowW.trans (hbr6.mono hlowW.size)
                gi_wp2
                gi_loopw [13] (fun x wr => x = .int .i64 0 ∧ Below w6.heap.size w6 wr) (fun _ _ => 0)
                case atStart => exact ⟨rfl, Below.refl _ _⟩
                case round =>
                  obtain ⟨rfl, hlow2⟩ := hrel
                  gi_wp2
                  refine ⟨trivial, (callsIn_wide.2 (hwk _)).mono ?_⟩
                  rintro en w7 ⟨rfl, hb7⟩
                  gi_wp2
                  go_ret
                  exact ⟨rfl, hb06.trans ((hlow2.trans (hb7.mono hlow2.size)).mono hb06.size)⟩
      · have h2' : ((hw : Int) == 2) = false := by simp; omega
        gi_wp2_with (refine wpListIn_plain rfl fun K' hK' => ?_; refine wpIn_store_box (.tmp 7) (.tmp 30) rfl hiG rfl rfl [.int .i64 0, .int .i64 0, .int .i64 Wn, .int .i64 Dn, .slice none 0 0] rfl hzG1.symm (by simp [Value.oneCell']) ku3 rfl ?_; intro w3 hkm hbs; refine hK' _ _ ?_)
        have hb23 : Below w2.heap.size w2 w3 := bu3.trans hbs
        have eW : Wn = Wm := by rw [← hWm]; unfold mW; rw [if_neg h2]
        have eD : Dn = Dm := by rw [← hDm]; unfold mW; rw [if_neg h2]
        rw [eW, eD] at hkm
        clear eD eW g0 g1 g2 g3 g4
        · skip
          have hs3 : w2.heap.size < w3.heap.size := lt_of_block hkm
          have hb03 := hb02.trans (hb23.mono hb02.size)
          gi_loopw [8] (fun x wr => ∃ (i : Nat) (v : Value), x = .int .i64 i ∧ i ≤ nn ∧ wr.heap[w2.heap.size]? = some (.cells #[.int .i64 0, .int .i64 0, .int .i64 Wm, .int .i64 Dm, v] 26 (0, 0)) ∧ wr.ownsRow (w2.heap.size + 1) 40 1 v i (mHeads hw Wn Dn HD i) ∧ Below w2.heap.size w2 wr) (fun x _ => nn - (intOf x).toNat)
          case atStart => exact ⟨0, _, rfl, Nat.zero_le _, hkm, World.ownsRow_nil _ _ _ _, hb23⟩
          case round =>
            clear hkm hb03 hs3
            obtain ⟨i, v, rfl, hi, hkm, hown, hlow⟩ := hrel
            have hlowW := hb02.trans (hlow.mono hb02.size)
            have hsz := lt_of_block hkm
            obtain ⟨n0, n1, n2, n3, n4⟩ := box5 hkm
            have hmul : IntKind.i64.wrap ((Wm : Int) * Dm) = ((nn : Nat) : Int) := by
              have e : (Wm : Int) * Dm = (nn : Int) := by rw [← hnn]; simp
              rw [e, IntKind.wrap_i64]; omega
            by_cases hin : i < nn
            · have hin' : (i : Int) < ((nn : Nat) : Int) := by omega
              have hwi : IntKind.i64.wrap ((i : Int) + 1) = (i : Int) + 1 := by rw [IntKind.wrap_i64]; omega
              have hi' : i < (mRows hw Wn Dn rows).length := by rw [hmlen.out]; exact hin
              obtain ⟨s1, s2, s3, s4, s5⟩ := spot_in ho' hi'
              have hph := hphi i hin
              have he1 := hpsi i hi'
              have hW0 : Wm ≠ 0 := by omega
              have hi0 : (0 : Int) ≤ (i : Int) := by omega
              have eD : IntKind.i64.wrap ((i : Int) / Wm) = (i : Int) / Wm := by rw [IntKind.wrap_i64]; omega
              have eM : IntKind.i64.wrap ((i : Int) % Wm) = (i : Int) % Wm := by rw [IntKind.wrap_i64]; omega
              obtain ⟨ad, u, rfl, hbl, hu, hcu⟩ := (hHD1.below hlowW).at_ hph
              have hHg : HD.getD (mPhi hw Wn Dn i) undef = u := by rw [List.getD_eq_getElem?_getD, hu]; rfl
              obtain ⟨Ai, ci, hu2, _⟩ := hHD2 (mPhi hw Wn Dn i) _ (List.getElem?_eq_getElem hph)
              obtain rfl : u = .slice Ai rows[mPhi hw Wn Dn i].length ci := by rw [hu] at hu2; injection hu2
              have hphI : ((mPhi hw Wn Dn i : Nat) : Int) < (rows.length : Int) := by omega
              have hb1 := turned_any X Z Wn Dn hw (.slice (some ad) rows.length cap) ((i : Int) % Wm) ((i : Int) / Wm) wr.drew hW64 hD64 hh s1 (by rw [hWm]; exact s2) s3 (by rw [hDm]; exact s4)
              rw [← he1] at hb1
              generalize rows[mPhi hw Wn Dn i].length = lu at hcu hHg
              generalize mPhi hw Wn Dn i = ph at hcu hb1 hphI hph
              obtain ⟨g0, g1, g2, g3, g4⟩ := box5 ((hlow.block _ (lt_of_block m1)).trans m1)
              obtain ⟨i0, hii, hz0, hz1, hz2⟩ := info_parts infoCol
              have lg : u1.heap.size < w2.heap.size := lt_of_block m1
              gi_wp2
              have hS : (CellsL [(⟨u1.heap.size, 0, none⟩, .int .i64 X), (⟨u1.heap.size, 1, none⟩, .int .i64 Z), (⟨u1.heap.size, 2, none⟩, .int .i64 Wn), (⟨u1.heap.size, 3, none⟩, .int .i64 Dn), (⟨u1.heap.size, 4, none⟩, .slice (some ad) rows.length cap), (⟨w2.heap.size, 2, none⟩, .int .i64 Wm), (⟨w2.heap.size, 4, none⟩, v), (ad.add ph, .slice Ai lu ci)]) (wr.drew) := ⟨g0, g1, g2, g3, g4, n2, n4, hcu, trivial⟩
              refine wpIn_region_ord [(0, true), (1, true), (2, true), (3, true), (4, true), (5, true), (6, true), (7, true), (8, true), (9, true), (10, true), (11, true), (12, true), (13, true), (14, false), (15, true), (16, true), (17, false), (18, false), (19, true)] (CellsL [(⟨u1.heap.size, 0, none⟩, .int .i64 X), (⟨u1.heap.size, 1, none⟩, .int .i64 Z), (⟨u1.heap.size, 2, none⟩, .int .i64 Wn), (⟨u1.heap.size, 3, none⟩, .int .i64 Dn), (⟨u1.heap.size, 4, none⟩, .slice (some ad) rows.length cap), (⟨w2.heap.size, 2, none⟩, .int .i64 Wm), (⟨w2.heap.size, 4, none⟩, v), (ad.add ph, .slice Ai lu ci)]) (fun _ => trivial) rfl (by first | exact then_put rfl | (intro c d v a w h; cases d <;> exact h)) (by kernel_rfl) ?_
              simp only [List.length_cons, List.length_nil, Nat.reduceAdd, List.drop_succ_cons, List.drop_zero]
              iterate 14 (apply wpOrd_quiet rfl hS rfl; (intro w' hw'; obtain ⟨q0, q1, q2, q3, q4, q5, q6, q7, _⟩ := hw'; go_simp; first | exact rfl | (rw [if_neg hW0, Int.tmod_eq_emod_of_nonneg hi0]; exact rfl) | (rw [if_neg hW0, Int.tdiv_eq_ediv_of_nonneg hi0]; exact rfl)); go_simp)
              refine wpOrd_move rfl rfl ?_
              go_simp
              refine ⟨trivial, (callsIn_wide.2 hb1).mono ?_⟩
              rintro en w5 ⟨rfl, hb5⟩
              have hs5 : wr.heap.size ≤ w5.heap.size := hb5.size
              have hown5 := own_below hown.drew hb5
              have hkm5 := (hb5.block _ hsz).trans (show wr.drew.heap[w2.heap.size]? = _ from hkm)
              have hl5 : Below w2.heap.size w2 w5 := hlow.drew.trans (hb5.mono hlow.size)
              have la : ad.block < w2.heap.size := Nat.lt_of_lt_of_le hbl hb02.size
              have lg1 : u1.heap.size < wr.heap.size := by omega
              replace hS := CellsL.keep hb5 hS ⟨lg1, lg1, lg1, lg1, lg1, hsz, hsz, by rw [block_of_add]; show _ < wr.heap.size; omega, trivial⟩
              refine ⟨hS, ?_⟩
              go_simp
              iterate 2 (apply wpOrd_quiet rfl hS rfl; (intro w' hw'; obtain ⟨q0, q1, q2, q3, q4, q5, q6, q7, _⟩ := hw'; go_simp; first | exact rfl | (rw [if_neg hW0, Int.tmod_eq_emod_of_nonneg hi0]; exact rfl) | (rw [if_neg hW0, Int.tdiv_eq_ediv_of_nonneg hi0]; exact rfl)); go_simp)
              refine wpOrd_move rfl rfl ?_
              go_simp
              have hS3 := hS
              have lg2 : u1.heap.size < w5.heap.size := by omega
              have lm2 : w2.heap.size < w5.heap.size := by omega
              replace hS := CellsL.keep ((Below.refl w5.heap.size w5).alloc (Nat.le_refl _) (.cells #[.slice Ai lu ci] 40)) hS ⟨lg2, lg2, lg2, lg2, lg2, lm2, lm2, by rw [block_of_add]; omega, trivial⟩
              refine ⟨hS, ?_⟩
              go_simp
              refine wpOrd_move rfl rfl ?_
              refine wpIn_append_at (.tmp 48) (.tmp 64) 24 rfl (w2.heap.size + 1) 40 i0 _ 1 24 Try.underlying24 hii hz0 hz1 hz2 (by decide) (by decide) _ i (mHeads hw Wn Dn HD i) rfl (hown5.alloc _) ⟨w5.heap.size, 0, none⟩ 1 1 [.slice Ai lu ci] rfl rfl (cell_one_new _ _ _) (by simp [Value.oneCell']) (by unfold maxLen; omega) (by omega) (by simp; omega) ?_
              intro v8 w8 hown8 hg8 hloc8
              have hkeep : ∀ j, j < w5.heap.size → j ≤ w2.heap.size → w8.heap[j]? = w5.heap[j]? := fun j hj hj2 => (hg8.block j (by simp; omega) (fun e => by have := (hown5.lt j e.symm).1; omega)).trans (Below.heap_alloc _ _ _ hj)
              have hkm8 := (hkeep _ (by omega) (Nat.le_refl _)).trans hkm5
              have hB8 := hkeep u1.heap.size (by omega) (by omega)
              have hA8 := hkeep ad.block (by omega) (by omega)
              have hM8 := hkeep w2.heap.size (by omega) (Nat.le_refl _)
              replace hS : CellsL [(⟨u1.heap.size, 0, none⟩, .int .i64 X), (⟨u1.heap.size, 1, none⟩, .int .i64 Z), (⟨u1.heap.size, 2, none⟩, .int .i64 Wn), (⟨u1.heap.size, 3, none⟩, .int .i64 Dn), (⟨u1.heap.size, 4, none⟩, .slice (some ad) rows.length cap), (⟨w2.heap.size, 2, none⟩, .int .i64 Wm), (⟨w2.heap.size, 4, none⟩, v), (ad.add ph, .slice Ai lu ci)] w8 :=
                ⟨(World.cell?_of_block hB8).trans hS3.1, (World.cell?_of_block hB8).trans hS3.2.1, (World.cell?_of_block hB8).trans hS3.2.2.1, (World.cell?_of_block hB8).trans hS3.2.2.2.1, (World.cell?_of_block hB8).trans hS3.2.2.2.2.1, (World.cell?_of_block hM8).trans hS3.2.2.2.2.2.1, (World.cell?_of_block hM8).trans hS3.2.2.2.2.2.2.1, (World.cell?_of_block (by rw [block_of_add]; exact hA8)).trans hS3.2.2.2.2.2.2.2.1, trivial⟩
              refine ⟨hS, ?_⟩
              go_simp
              iterate 1 (apply wpOrd_quiet rfl hS rfl; (intro w' hw'; obtain ⟨q0, q1, q2, q3, q4, q5, q6, q7, _⟩ := hw'; go_simp; first | exact rfl | (rw [if_neg hW0, Int.tmod_eq_emod_of_nonneg hi0]; exact rfl) | (rw [if_neg hW0, Int.tdiv_eq_ediv_of_nonneg hi0]; exact rfl)); go_simp)
              refine wpOrd_nil ?_
              obtain ⟨A8, c8, rfl⟩ := own_rowS hown8
              clear hS hS3 g0 g1 g2 g3 g4 n0 n1 n2 n3 n4 hB8 hA8 hM8
              have hl8 : Below w2.heap.size w2 w8 := (hl5.alloc (by omega) _).grown hg8 (by simp; omega) (fun q e => by have := (hown5.lt q e).1; omega)
              have z8 : w8.frozen? ⟨w2.heap.size, 4, none⟩ = false := not_frozen hkm8
              have z9 : w8.cell? ⟨w2.heap.size, 4, none⟩ = some v := cell_of hkm8 rfl
              have hO9 := set_block (k := 4) hkm8 (.slice A8 (i + 1) c8)
              have hown9 := own_set (k := 4) (u := .slice A8 (i + 1) c8) hown8
              have hl9 := hl8.setCell (p := ⟨w2.heap.size, 4, none⟩) (Nat.le_refl _) (.slice A8 (i + 1) c8)
              gi_wp2
              go_roundw
              case rel => exact ⟨i + 1, _, by go_num, by omega, hO9, by rw [mHeads_succ, hHg]; exact hown9, hl9⟩
              case measure => simp [intOf]; omega
            · obtain rfl : nn = i := by omega
              obtain ⟨Am, capm, rfl⟩ := own_rowS hown
              have hM : RowsAt wr wr.heap.size Am (mRows hw Wn Dn rows) := mirror_rows hlenN.out hown hphi (fun i r h => by
                obtain ⟨Ai, ci, h1, h2⟩ := hHD2 i r h
                exact ⟨Ai, ci, h1, (h2.below hlowW).more hlowW.size⟩)
              have k0 := (hlow.block _ (lt_of_block m0)).trans m0
              have k1 := (hlow.block _ (lt_of_block m1)).trans m1
              obtain ⟨q0, q1, q2, q3, q4, q5, q6⟩ := box7 k0
              obtain ⟨g0, g1, g2, g3, g4⟩ := box5 k1
              have hr4 := (hr.below hlowW).more hlowW.size
              by_cases hk : checkF a b c d e f g = 0
              · have hf1 := fbuild_ok a b c d e f g X Z Wn Dn rows A cap wr hr4 hl hk ho
                rw [Int.toNat_natCast] at hf1
                obtain ⟨fg, hfg⟩ : ∃ fg : Nat → Nat → Int, (fun i k => ((cl (eightF Wn (ttF (lkF a b c d e f g) X Z Wn Dn rows)) (a + 3).toNat (i, k) : Nat) : Int)) = fg := ⟨_, rfl⟩
                rw [hfg] at hf1
                unfold cfgv at hf1
                gi_wp2
                refine ⟨trivial, (callsIn_wide.2 hf1).mono ?_⟩
                rintro en w5 ⟨A5, c5, rfl, hI5, hb5⟩
                clear q0 q1 q2 q3 q4 q5 q6 g0 g1 g2 g3 g4 n0 n1 n2 n3 n4 hf1
                have v0 := (hb5.block _ (lt_of_block k0)).trans k0
                have v1 := (hb5.block _ (lt_of_block k1)).trans k1
                have vm := (hb5.block _ (lt_of_block hkm)).trans hkm
                obtain ⟨q0, q1, q2, q3, q4, q5, q6⟩ := box7 v0
                obtain ⟨n0, n1, n2, n3, n4⟩ := box5 vm
                have hf2 := fbuild_ok a b c d e f g 0 0 Wm Dm (mRows hw Wn Dn rows) Am capm w5 ((hM.below hb5).more hb5.size) (lensOk_g ho') hk ho'
                rw [Int.toNat_natCast] at hf2
                obtain ⟨fm, hfm⟩ : ∃ fm : Nat → Nat → Int, (fun i k => ((cl (eightF Wm (ttF (lkF a b c d e f g) 0 0 Wm Dm (mRows hw Wn Dn rows))) (a + 3).toNat (i, k) : Nat) : Int)) = fm := ⟨_, rfl⟩
                rw [hfm, hmlen.out] at hf2
                have hff : ∀ i k, i < (mRows hw Wn Dn rows).length → k < lenF (mRows hw Wn Dn rows) i → fm i k = fg (mPhi hw Wn Dn i) k := fun i k h1 h2 => by
                  rw [← hfm, ← hfg]
                  exact congrArg _ (hcl0 i k h1 h2 (a + 3).toNat)
                unfold cfgv at hf2
                gi_wp2
                refine ⟨trivial, (callsIn_wide.2 hf2).mono ?_⟩
                rintro en w6 ⟨A6, c6, rfl, hI6, hb6⟩
                clear q0 q1 q2 q3 q4 q5 q6 n0 n1 n2 n3 n4 hf2 hfg hfm hcl0
                have hbr6 := hb5.trans (hb6.mono hb5.size)
                have y1 := (hb6.block _ (lt_of_block v1)).trans v1
                have ym := (hb6.block _ (lt_of_block vm)).trans vm
                have hI56 := (hI5.below hb6).more hb6.size
                have hb06 := hlowW.trans (hbr6.mono hlowW.size)
                have hneq : (((rows.length : Nat) : Int) != ((nn : Nat) : Int)) = false := by rw [hlen2.out]; simp
                clear hI5
                gi_wp2
                gi_loopw [13] (fun x wr => ∃ i : Nat, x = .int .i64 i ∧ i ≤ nn ∧ Below w6.heap.size w6 wr) (fun x _ => nn - (intOf x).toNat)
                case atStart => exact ⟨0, rfl, Nat.zero_le _, Below.refl _ _⟩
                case round =>
                  obtain ⟨i, rfl, hi, hlow2⟩ := hrel
                  by_cases hin : i < nn
                  · have hin' : (i : Int) < ((nn : Nat) : Int) := by omega
                    have hwi : IntKind.i64.wrap ((i : Int) + 1) = (i : Int) + 1 := by rw [IntKind.wrap_i64]; omega
                    have hi' : i < (mRows hw Wn Dn rows).length := by rw [hmlen.out]; exact hin
                    obtain ⟨s1, s2, s3, s4, s5⟩ := spot_in ho' hi'
                    have hph := hphi i hin
                    have he1 := hpsi i hi'
                    have hW0 : Wm ≠ 0 := by omega
                    have hi0 : (0 : Int) ≤ (i : Int) := by omega
                    have eD : IntKind.i64.wrap ((i : Int) / Wm) = (i : Int) / Wm := by rw [IntKind.wrap_i64]; omega
                    have eM : IntKind.i64.wrap ((i : Int) % Wm) = (i : Int) % Wm := by rw [IntKind.wrap_i64]; omega
                    have hphI : ((mPhi hw Wn Dn i : Nat) : Int) < (rows.length : Int) := by omega
                    obtain ⟨bd, Bi, di, rfl, hbb, hcb, hrb⟩ := (hI6.below hlow2).at_ hin
                    obtain ⟨ad, Ai, ci, rfl, hbl, hca, hra⟩ := (hI56.below hlow2).at_ hph
                    have hlen := hml0 i hi'
                    have h8 := lenF_le ho (mPhi hw Wn Dn i)
                    have hrow : intRow (lenF (mRows hw Wn Dn rows) i) (fm i) = intRow (lenF rows (mPhi hw Wn Dn i)) (fg (mPhi hw Wn Dn i)) := by
                      rw [hlen]
                      exact intRow_ext fun k hk2 => hff i k hi' (by rw [hlen]; exact hk2)
                    rw [hrow] at hrb
                    rw [hlen] at hcb hrb
                    have hb1 := turned_any X Z Wn Dn hw (.slice A rows.length cap) ((i : Int) % Wm) ((i : Int) / Wm) wr.drew hW64 hD64 hh s1 (by rw [hWm]; exact s2) s3 (by rw [hDm]; exact s4)
                    rw [← he1] at hb1
                    clear hrow hlen he1 s5
                    generalize lenF rows (mPhi hw Wn Dn i) = li at hca hcb hra hrb h8
                    generalize mPhi hw Wn Dn i = ph at hca hra hrb hb1 hphI hph
                    obtain ⟨g0, g1, g2, g3, g4⟩ := box5 ((hlow2.block _ (lt_of_block y1)).trans y1)
                    obtain ⟨n0, n1, n2, n3, n4⟩ := box5 ((hlow2.block _ (lt_of_block ym)).trans ym)
                    have lg : u1.heap.size < w6.heap.size := lt_of_block y1
                    have lm : w2.heap.size < w6.heap.size := lt_of_block ym
                    have hs2 := hlow2.size
                    have lg1 : u1.heap.size < wr.heap.size := by omega
                    have lm1 : w2.heap.size < wr.heap.size := by omega
                    gi_wp2
                    have hS : (CellsL [(bd.add i, .slice Bi li di), (⟨u1.heap.size, 0, none⟩, .int .i64 X), (⟨u1.heap.size, 1, none⟩, .int .i64 Z), (⟨u1.heap.size, 2, none⟩, .int .i64 Wn), (⟨u1.heap.size, 3, none⟩, .int .i64 Dn), (⟨u1.heap.size, 4, none⟩, .slice A rows.length cap), (⟨w2.heap.size, 2, none⟩, .int .i64 Wm), (ad.add ph, .slice Ai li ci)]) (wr.drew) := ⟨hcb, g0, g1, g2, g3, g4, n2, hca, trivial⟩
                    refine wpIn_region_ord [(0, true), (1, true), (2, true), (3, true), (4, true), (5, true), (6, true), (7, true), (8, true), (9, true), (10, true), (11, true), (12, true), (13, true), (14, true), (15, false), (16, true), (17, true), (18, false)] (CellsL [(bd.add i, .slice Bi li di), (⟨u1.heap.size, 0, none⟩, .int .i64 X), (⟨u1.heap.size, 1, none⟩, .int .i64 Z), (⟨u1.heap.size, 2, none⟩, .int .i64 Wn), (⟨u1.heap.size, 3, none⟩, .int .i64 Dn), (⟨u1.heap.size, 4, none⟩, .slice A rows.length cap), (⟨w2.heap.size, 2, none⟩, .int .i64 Wm), (ad.add ph, .slice Ai li ci)]) (fun _ => trivial) rfl (by first | exact then_put rfl | (intro c d v a w h; cases d <;> exact h)) (by kernel_rfl) ?_
                    simp only [List.length_cons, List.length_nil, Nat.reduceAdd, List.drop_succ_cons, List.drop_zero]
                    iterate 15 (apply wpOrd_quiet rfl hS rfl; (intro w' hw'; obtain ⟨q0, q1, q2, q3, q4, q5, q6, q7, _⟩ := hw'; go_simp; first | exact rfl | (rw [if_neg hW0, Int.tmod_eq_emod_of_nonneg hi0]; exact rfl) | (rw [if_neg hW0, Int.tdiv_eq_ediv_of_nonneg hi0]; exact rfl)); go_simp)
                    refine wpOrd_move rfl rfl ?_
                    go_simp
                    refine ⟨trivial, (callsIn_wide.2 hb1).mono ?_⟩
                    rintro en w7 ⟨rfl, hb7⟩
                    replace hS := CellsL.keep hb7 hS ⟨by rw [block_of_add]; show _ < wr.heap.size; omega, lg1, lg1, lg1, lg1, lg1, lm1, by rw [block_of_add]; show _ < wr.heap.size; omega, trivial⟩
                    refine ⟨hS, ?_⟩
                    go_simp
                    iterate 2 (apply wpOrd_quiet rfl hS rfl; (intro w' hw'; obtain ⟨q0, q1, q2, q3, q4, q5, q6, q7, _⟩ := hw'; go_simp; first | exact rfl | (rw [if_neg hW0, Int.tmod_eq_emod_of_nonneg hi0]; exact rfl) | (rw [if_neg hW0, Int.tdiv_eq_ediv_of_nonneg hi0]; exact rfl)); go_simp)
                    refine wpOrd_move rfl rfl ?_
                    go_simp
                    have hs7 : wr.heap.size ≤ w7.heap.size := hb7.size
                    have lg2 : u1.heap.size < w7.heap.size := by omega
                    have lm2 : w2.heap.size < w7.heap.size := by omega
                    have hin1 := rints_any li (fg ph) Bi Ai di ci w7 (by omega) (((hrb.more hs2).drew.below hb7).more hb7.size) (((hra.more hs2).drew.below hb7).more hb7.size)
                    refine ⟨trivial, (callsIn_wide.2 hin1).mono ?_⟩
                    rintro en w8 ⟨rfl, hb8⟩
                    replace hS := CellsL.keep hb8 hS ⟨by rw [block_of_add]; omega, lg2, lg2, lg2, lg2, lg2, lm2, by rw [block_of_add]; omega, trivial⟩
                    refine ⟨hS, ?_⟩
                    go_simp
                    refine wpOrd_nil ?_
                    clear hS g0 g1 g2 g3 g4 n0 n1 n2 n3 n4
                    gi_wp2
                    go_roundw
                    case rel => exact ⟨i + 1, by go_num, by omega, hlow2.drew.trans ((hb7.trans (hb8.mono hb7.size)).mono hlow2.size)⟩
                    case measure => simp [intOf]; omega
                  · obtain rfl : nn = i := by omega
                    gi_wp2
                    refine ⟨trivial, (callsIn_wide.2 (hwk _)).mono ?_⟩
                    rintro en w7 ⟨rfl, hb7⟩
                    gi_wp2
                    go_ret
                    exact ⟨rfl, hb06.trans ((hlow2.trans (hb7.mono hlow2.size)).mono hb06.size)⟩
              · have hf1 := fbuild_no a b c d e f g X Z Wn Dn rows A cap wr hr4 hl (fun h => hk h.1)
                rw [if_neg hk] at hf1
                unfold cfgv at hf1
                gi_wp2
                refine ⟨trivial, (callsIn_wide.2 hf1).mono ?_⟩
                rintro en w5 ⟨rfl, hb5⟩
                clear q0 q1 q2 q3 q4 q5 q6 g0 g1 g2 g3 g4 n0 n1 n2 n3 n4 hf1
                have v0 := (hb5.block _ (lt_of_block k0)).trans k0
                have vm := (hb5.block _ (lt_of_block hkm)).trans hkm
                obtain ⟨q0, q1, q2, q3, q4, q5, q6⟩ := box7 v0
                obtain ⟨n0, n1, n2, n3, n4⟩ := box5 vm
                have hf2 := fbuild_no a b c d e f g 0 0 Wm Dm (mRows hw Wn Dn rows) Am capm w5 ((hM.below hb5).more hb5.size) (lensOk_g ho') (fun h => hk h.1)
                rw [if_neg hk, hmlen.out] at hf2
                unfold cfgv at hf2
                gi_wp2
                refine ⟨trivial, (callsIn_wide.2 hf2).mono ?_⟩
                rintro en w6 ⟨rfl, hb6⟩
                clear q0 q1 q2 q3 q4 q5 q6 n0 n1 n2 n3 n4 hf2
                have hbr6 := hb5.trans (hb6.mono hb5.size)
                have hb06 := hlowW.trans (hbr6.mono hlowW.size)
                gi_wp2
                gi_loopw [13] (fun x wr => x = .int .i64 0 ∧ Below w6.heap.size w6 wr) (fun _ _ => 0)
                case atStart => exact ⟨rfl, Below.refl _ _⟩
                case round =>
                  obtain ⟨rfl, hlow2⟩ := hrel
                  gi_wp2
                  refine ⟨trivial, (callsIn_wide.2 (hwk _)).mono ?_⟩
                  rintro en w7 ⟨rfl, hb7⟩
                  gi_wp2
                  go_ret
                  exact ⟨rfl, hb06.trans ((hlow2.trans (hb7.mono hlow2.size)).mono hb06.size)⟩
    · have hne : (er != 0) = true := by
        have : er ≠ 0 := fun h => ho (hei.1 h)
        simpa using this
      clear hei
      gi_wp2
      refine ⟨trivial, (callsIn_wide.2 (hwk _)).mono ?_⟩
      rintro en w3 ⟨rfl, hb3⟩
      gi_wp2
      go_ret
      exact ⟨rfl, hb02.trans (hb3.mono hb02.size)⟩
theorem fieldMirrors_calls (a b c d e f g X Z W D how : Int) (rows : List (List V3)) (A : Option Addr) (cap : Nat) (w : World) (hr : RowsAt w w.heap.size A rows) (hl : lensOk rows) :
    Calls Try.prog 7 #[.agg #[.int .i64 a, .int .i64 b, .int .i64 c, .int .i64 d, .int .i64 e, .int .i64 f, .int .i64 g], .agg #[.int .i64 X, .int .i64 Z, .int .i64 W, .int .i64 D, .slice A rows.length cap], .int .i64 how] w fun en w' => en = .returned (.bool true) ∧ Below w.heap.size w w' :=
  fmirrors_any a b c d e f g X Z W D how rows A cap w hr hl
end Go.Proofs.Ytcdfojfafnecdaa
