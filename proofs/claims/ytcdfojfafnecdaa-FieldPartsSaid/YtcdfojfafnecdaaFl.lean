/- field.Build by a walk. No conditions but that the grid lies where it is said to lie. -/
import Derived.Test.YtcdfojfafnecdaaFm
import Derived.Scope
namespace Go.Proofs.Ytcdfojfafnecdaa
open Go Go.RowKit Go.Sx Go.Mp
attribute [local go_sem] Oper.semAt_some
/-- Rows of rows of ints. -/
def IntsAt (w : World) (B : Nat) (A : Option Addr) (n : Nat) (len : Nat → Nat) (f : Nat → Nat → Int) : Prop :=
  ∃ hd : List Value, Reads w B 1 A n hd ∧ ∀ i, i < n → ∃ (Ai : Option Addr) (ci : Nat), hd[i]? = some (Value.slice Ai (len i) ci) ∧ Reads w B 1 Ai (len i) (intRow (len i) (f i))
theorem box7 {w : World} {B : Nat} {v0 v1 v2 v3 v4 v5 v6 : Value} {T : TypeId} (h : w.heap[B]? = some (.cells #[v0, v1, v2, v3, v4, v5, v6] T (0, 0))) : w.cell? ⟨B, 0, none⟩ = some v0 ∧ w.cell? ⟨B, 1, none⟩ = some v1 ∧ w.cell? ⟨B, 2, none⟩ = some v2 ∧ w.cell? ⟨B, 3, none⟩ = some v3 ∧ w.cell? ⟨B, 4, none⟩ = some v4 ∧ w.cell? ⟨B, 5, none⟩ = some v5 ∧ w.cell? ⟨B, 6, none⟩ = some v6 :=
  ⟨cell_of h rfl, cell_of h rfl, cell_of h rfl, cell_of h rfl, cell_of h rfl, cell_of h rfl, cell_of h rfl⟩
theorem box5 {w : World} {B : Nat} {v0 v1 v2 v3 v4 : Value} {T : TypeId} (h : w.heap[B]? = some (.cells #[v0, v1, v2, v3, v4] T (0, 0))) : w.cell? ⟨B, 0, none⟩ = some v0 ∧ w.cell? ⟨B, 1, none⟩ = some v1 ∧ w.cell? ⟨B, 2, none⟩ = some v2 ∧ w.cell? ⟨B, 3, none⟩ = some v3 ∧ w.cell? ⟨B, 4, none⟩ = some v4 :=
  ⟨cell_of h rfl, cell_of h rfl, cell_of h rfl, cell_of h rfl, cell_of h rfl⟩
theorem alloc_step (w : World) (o : Obj) : ∃ x, w.alloc o = x ∧ Below w.heap.size w x ∧ x.heap[w.heap.size]? = some o := ⟨_, rfl, (Below.refl _ _).alloc (Nat.le_refl _) _, World.alloc_heap_new _ _⟩
theorem rows_len {X Z W D : Int} {rows : List (List V3)} (ho : gridOk X Z W D rows) : rows.length ≤ 4096 := by
  obtain ⟨o1, o2, o3, o4, o5, o6, o7, o8, o9, o10⟩ := ho
  have := Int.mul_le_mul o6 o8 o7 (by omega : (0 : Int) ≤ 64)
  omega
theorem lenF_le {X Z W D : Int} {rows : List (List V3)} (ho : gridOk X Z W D rows) (i : Nat) : lenF rows i ≤ 8 := by
  unfold lenF
  rw [List.getD_eq_getElem?_getD]
  cases h : rows[i]? with
  | none => simp
  | some r => exact (ho.2.2.2.2.2.2.2.2.2 r (List.mem_of_getElem? h)).2
theorem eight_in {W n : Nat} {len : Nat → Nat} {tt : Nat → Nat → Nat → Option Nat} (hi : Inside W n len tt) {s : Nat × Nat} (hs : InG n len s) {l : List (Nat × Nat)} (h : eightF W tt s = some l) : ∀ t ∈ l, InG n len t := by
  have hD : ∀ d m, eightD W tt s d = some m → ∀ t ∈ m, InG n len t := fun d m hm t ht => by
    unfold eightD at hm
    cases hA : stepS W tt s d with
    | none => rw [hA] at hm; cases hm
    | some a =>
      cases hB : stepS W tt s ((d + 1) % 4) with
      | none => rw [hA, hB] at hm; cases hm
      | some b =>
        rw [hA, hB] at hm
        simp only at hm
        have ha := stepS_in hi hs hA
        cases hX : stepS W tt a ((d + 1) % 4) with
        | none => rw [hX] at hm; cases hm
        | some x =>
          cases hY : stepS W tt b d with
          | none => rw [hX, hY] at hm; cases hm
          | some y =>
            rw [hX, hY] at hm
            simp only at hm
            split at hm
            · injection hm with hm
              subst hm
              rcases List.mem_cons.1 ht with rfl | ht
              · exact ha
              · rcases List.mem_cons.1 ht with rfl | ht
                · exact stepS_in hi ha hX
                · cases ht
            · cases hm
  have hq : ∀ (q : Nat) (m : List (Nat × Nat)), eightN W tt s q = some m → ∀ t ∈ m, InG n len t := by
    intro q
    induction q with
    | zero =>
      intro m hm t ht
      injection hm with hm
      subst hm
      cases ht
    | succ q ih =>
      intro m hm t ht
      rw [eightN] at hm
      cases h1 : eightN W tt s q with
      | none => rw [h1] at hm; cases hm
      | some l1 =>
        cases h2 : eightD W tt s q with
        | none => rw [h1, h2] at hm; cases hm
        | some m2 =>
          rw [h1, h2] at hm
          injection hm with hm
          subst hm
          rcases List.mem_append.1 ht with ht | ht
          · exact ih l1 h1 t ht
          · exact hD q m2 h2 t ht
  exact hq 4 l h
theorem _root_.Go.Mp.ItAt.iblk {w : World} {r b : Nat} {m : List ((Nat × Nat) × Value)} {done : List (Nat × Nat)} (h : ItAt spv w r b m done) : ∃ o, w.heap[r]? = some o ∧ ∀ cur, o ≠ .cells cur 67 (0, 0) := by
  obtain ⟨es, c, si, se, c0, h1, _, _, h4, _⟩ := h
  exact ⟨_, h4, fun cur e => by cases e⟩
theorem sp1_one (a : Nat × Nat) : ∀ u ∈ spcs [a], u.oneCell' = true := by
  intro u hu
  simp only [spcs, List.flatMap_cons, List.flatMap_nil, List.append_nil, List.mem_cons, List.not_mem_nil, or_false] at hu
  rcases hu with rfl | rfl <;> rfl
theorem sp1_new (w : World) (a : Nat × Nat) (T : TypeId) : ∀ j u, (spcs [a])[j]? = some u → (w.alloc (.cells #[.int .i64 a.1, .int .i64 a.2] T)).cell? ((⟨w.heap.size, 0, none⟩ : Addr).add j) = some u := by
  intro j u hu
  have h := World.alloc_heap_new w (.cells #[.int .i64 a.1, .int .i64 a.2] T)
  match j, hu with
  | 0, hu => injection hu with hu; subst hu; exact cell_of h rfl
  | 1, hu => injection hu with hu; subst hu; exact cell_of h rfl
theorem own_ne_blk {w : World} {B : Nat} {v : Value} {q : Nat} {xs : List Value} {b : Nat} {o : Obj} (h : w.ownsRow B 67 2 v q xs) (hb : w.heap[b]? = some o) (ho : ∀ cur, o ≠ .cells cur 67 (0, 0)) : some b ≠ v.ownBlock := by
  rcases h.2 with ⟨rfl, _⟩ | ⟨g, cap, cur, rfl, _, hgb, _⟩
  · intro e; cases e
  · intro e
    have e : b = g := Option.some.inj e
    rw [e, hgb] at hb
    injection hb with hb
    exact ho _ hb.symm
theorem _root_.Go.Mp.ItAt.mem {w : World} {r b : Nat} {m : List ((Nat × Nat) × Value)} {done : List (Nat × Nat)} (h : ItAt spv w r b m done) {k : Nat × Nat} (hk : k ∈ done) : ∃ v, (k, v) ∈ m := by
  obtain ⟨es, c, si, se, c0, _, _, _, _, _, _, _, _, h9, _⟩ := h
  exact h9 k hk
theorem OutS.ints {w : World} {B O n : Nat} {bl len : Nat → Nat} {f g : Nat → Nat → Int} (h : OutS w B O n n bl len f) (hfg : ∀ i k, i < n → k < len i → f i k = g i k) : IntsAt w w.heap.size (some ⟨O, 0, none⟩) n len g := by
  have hadd : ∀ b j : Nat, (⟨b, 0, none⟩ : Addr).add j = ⟨b, j, none⟩ := fun b j => by
    unfold Addr.add
    split
    · rename_i h0; subst h0; rfl
    · simp
  refine ⟨outHd n n bl len, ⟨by rw [outHd_length]; omega, fun _ => ⟨_, rfl, lt_of_block h.hd, fun j u hu => ?_⟩⟩, fun i hi => ⟨some ⟨bl i, 0, none⟩, len i, by rw [outHd_get hi, if_pos hi], ⟨by rw [intRow_length]; omega, fun _ => ⟨_, rfl, lt_of_block (h.row i hi), fun j u hu => ?_⟩⟩⟩⟩
  · rw [hadd]
    exact cell_of h.hd (by rw [List.getElem?_toArray]; exact hu)
  · rw [hadd]
    rw [← intRow_ext (fun k hk => hfg i k hi hk)] at hu
    exact cell_of (h.row i hi) (by rw [List.getElem?_toArray]; exact hu)
theorem infoRow : (Try.prog.info? 46).map (fun i => (i.zero, i.size, i.bytes)) = some (some (.slice none 0 0), 1, 24) := by kernel_rfl
theorem infoInt : (Try.prog.info? 3).map (fun i => (i.zero, i.size, i.bytes)) = some (some (.int .i64 0), 1, 8) := by kernel_rfl
set_option maxHeartbeats 4000000 in
set_option maxRecDepth 100000 in
theorem fbuild_ok (a b c d e f g X Z W D : Int) (rows : List (List V3)) (A : Option Addr) (cap : Nat) (w : World) (hr : RowsAt w w.heap.size A rows) (hl : lensOk rows) (hk : checkF a b c d e f g = 0) (ho : gridOk X Z W D rows) :
    Calls Try.prog 10 #[cfgv a b c d e f g, .agg #[.int .i64 X, .int .i64 Z, .int .i64 W, .int .i64 D, .slice A rows.length cap]] w fun en w' =>
      ∃ A' c', en = .returned (.tuple #[.slice A' rows.length c', .int .i64 0]) ∧ IntsAt w' w'.heap.size A' rows.length (lenF rows) (fun i k => (cl (eightF W.toNat (ttF (lkF a b c d e f g) X Z W D rows)) (a + 3).toNat (i, k) : Nat)) ∧ Below w.heap.size w w' := by
  obtain ⟨Wn, rfl⟩ : ∃ Wn : Nat, W = Wn := ⟨W.toNat, by have := ho.2.2.2.2.1; omega⟩
  have hin := tt_inside (lkF a b c d e f g) ho rfl
  have hW64 : Wn ≤ 64 := by have := ho.2.2.2.2.2.1; omega
  have hn4 : rows.length ≤ 4096 := rows_len ho
  have hlen8 : ∀ i, lenF rows i ≤ 8 := lenF_le ho
  have hclr := check_clear hk
  obtain ⟨cp, hcp⟩ : ∃ cp : Nat, a + 3 = cp := ⟨(a + 3).toNat, by omega⟩
  have hcapv : capF a b c d e f g = cp := by unfold capF; rw [if_pos hk, hcp]
  obtain ⟨tt, httF⟩ : ∃ tt, ttF (lkF a b c d e f g) X Z Wn D rows = tt := ⟨_, rfl⟩
  rw [Int.toNat_natCast, hcp, Int.toNat_natCast, httF]
  rw [httF] at hin
  obtain ⟨N, hN⟩ : ∃ N, eightF Wn tt = N := ⟨_, rfl⟩
  rw [hN]
  have hba := ((Below.refl w.heap.size w).alloc (Nat.le_refl _) (.cells #[.int .i64 a, .int .i64 b, .int .i64 c, .int .i64 d, .int .i64 e, .int .i64 f, .int .i64 g] 23)).alloc (by simp) (.cells #[.int .i64 X, .int .i64 Z, .int .i64 Wn, .int .i64 D, .slice A rows.length cap] 26)
  have hB0 := two_alloc w (.cells #[.int .i64 a, .int .i64 b, .int .i64 c, .int .i64 d, .int .i64 e, .int .i64 f, .int .i64 g] 23) (.cells #[.int .i64 X, .int .i64 Z, .int .i64 Wn, .int .i64 D, .slice A rows.length cap] 26)
  have hB1 := alloc2_new w (.cells #[.int .i64 a, .int .i64 b, .int .i64 c, .int .i64 d, .int .i64 e, .int .i64 f, .int .i64 g] 23) (.cells #[.int .i64 X, .int .i64 Z, .int .i64 Wn, .int .i64 D, .slice A rows.length cap] 26)
  obtain ⟨W2, hW2⟩ : ∃ W2, (w.alloc (.cells #[.int .i64 a, .int .i64 b, .int .i64 c, .int .i64 d, .int .i64 e, .int .i64 f, .int .i64 g] 23)).alloc (.cells #[.int .i64 X, .int .i64 Z, .int .i64 Wn, .int .i64 D, .slice A rows.length cap] 26) = W2 := ⟨_, rfl⟩
  rw [hW2] at hba hB0 hB1
  have hlb := lbuild_any a b c d e f g X Z Wn D rows A cap W2 ((hr.below hba).more hba.size) hl
  have hcap := fun w => cap_any a b c d e f g w
  rw [hcapv] at hcap
  have hmm := @run_makeMap Try.prog
  obtain ⟨q0, q1, q2, q3, q4, q5, q6⟩ := box7 hB0
  obtain ⟨g0, g1, g2, g3, g4⟩ := box5 hB1
  unfold cfgv at hlb hcap ⊢
  refine (callsIn_wide (n := 6)).1 ?_
  refine callsIn_of_wp Try.func10 rfl trivial ?_
  simp only [Try.ntmps10, List.size_toArray, List.length_cons, List.length_nil, Nat.reduceAdd, Nat.reduceSub, Array.replicate_succ, Array.replicate_zero, List.push_toArray, List.append_toArray, List.nil_append, List.cons_append]
  gi_wp2
  refine wpIn_wide.2 (wp_scope_straight ((wpIn_wide (n := 6)).1 ?_))
  gi_wp2
  refine ⟨trivial, (callsIn_wide.2 hlb).mono ?_⟩
  rintro en w3 ⟨hres, hb3⟩
  rcases hres with ⟨_, v3, rfl, hL⟩ | ⟨hno, _⟩
  · obtain ⟨A3, c3, rfl, hLA⟩ := LinksAt.of (len := lenF rows) (tt := tt) hL (fun i _ => by rw [← httF]; rfl)
    have fB0 := (hb3.block _ (lt_of_block hB0)).trans hB0
    have fB1 := (hb3.block _ (lt_of_block hB1)).trans hB1
    have hr3 := ((((hr.below hba).more hba.size).below hb3).more hb3.size)
    clear q0 q1 q2 q3 q4 q5 q6 g0 g1 g2 g3 g4
    obtain ⟨g0, g1, g2, g3, g4⟩ := box5 fB1
    obtain ⟨u1, e1, b1, k1⟩ := alloc_step w3 (.cells #[.int .i64 X, .int .i64 Z, .int .i64 Wn, .int .i64 D, .slice A rows.length cap, .slice A3 rows.length c3] 63)
    obtain ⟨u2, e2, b2, k2⟩ := alloc_step u1 (.map #[] 0)
    obtain ⟨u3, e3, b3, k3⟩ := alloc_step u2 (.cells #[.map (some u1.heap.size)] 64)
    obtain ⟨u4, e4, b4, k4⟩ := alloc_step u3 (.map #[] 0)
    obtain ⟨u5, e5, b5, k5⟩ := alloc_step u4 (.cells #[.map (some u3.heap.size)] 65)
    obtain ⟨u6, e6, b6, k6⟩ := alloc_step u5 (.cells (madeCells #[.slice none 0 0] rows.length) 46)
    have h5 : Below w3.heap.size w3 u5 := b1.trans ((b2.trans ((b3.trans ((b4.trans (b5.mono b4.size)).mono b3.size)).mono b2.size)).mono b1.size)
    have hmk := run_make_row' (P := Try.prog) 29 46 (.slice none 0 0) 24 Try.underlying29 infoRow rfl .i64 .i64 rows.length (by omega) (by omega) u5
    have g45 := (h5.cell (p := ⟨w.heap.size + 1, 4, none⟩) (lt_of_block fB1)).trans g4
    have h6 : Below w3.heap.size w3 u6 := h5.trans (b6.mono h5.size)
    have g46 := (h6.cell (p := ⟨w.heap.size + 1, 4, none⟩) (lt_of_block fB1)).trans g4
    gi_wp2
    have hFS := FS.new (n := rows.length) (lenF rows) N (f1 N (lenF rows) cp 0 0) b1 k1 e2 b3 k3 e4 b5 k5 b6 k6 (lt_of_block k1) (lt_of_block k3) (lt_of_block k5)
    generalize hBw : w3.heap.size = Bw at hFS ⊢
    generalize hT9 : u2.heap.size = T9 at hFS ⊢
    generalize hM9 : u1.heap.size = M9 at hFS ⊢
    generalize hT10 : u4.heap.size = T10 at hFS ⊢
    generalize hM10 : u3.heap.size = M10 at hFS ⊢
    generalize hO : u5.heap.size = O at hFS ⊢
    clear e1 e2 e3 e4 e5 e6 k1 k2 k3 k4 k5 k6 hmk g45 g46 b1 b2 b3 b4 b5 b6 h5
    gi_loopw [47] (fun x wr => ∃ (col : Nat) (bl : Nat → Nat) (nr ar : List ((Nat × Nat) × Value)), x = .int .i64 col ∧ col ≤ rows.length ∧ FS w3 wr Bw T9 M9 T10 M10 O #[.int .i64 X, .int .i64 Z, .int .i64 Wn, .int .i64 D, .slice A rows.length cap, .slice A3 rows.length c3] rows.length col bl (lenF rows) (f1 N (lenF rows) cp col 0) N nr ar ∧ P1 N (lenF rows) col 0 nr ar) (fun x _ => rows.length - (intOf x).toNat)
    case atStart => exact ⟨0, fun _ => 0, [], [], rfl, Nat.zero_le _, hFS, P1.start⟩
    case round =>
      obtain ⟨col, bl, nr, ar, rfl, hcol, hF, hP⟩ := hrel
      by_cases hcn : col < rows.length
      · have hcn' : (col : Int) < (rows.length : Int) := by omega
        obtain ⟨ad, Ai, ci, rfl, hbl, hca, hrd⟩ := (hr3.below hF.low).at_ hcn
        have hlf : rows[col].length = lenF rows col := by simp [lenF, List.getD, hcn]
        rw [hlf] at hca
        have h8 := hlen8 col
        obtain ⟨x1, ex1, bx1, kx1⟩ := alloc_step wr (.cells (madeCells #[.int .i64 0] (lenF rows col)) 3)
        have hmk := run_make_row' (P := Try.prog) 46 3 (.int .i64 0) 8 Try.underlying46 infoInt rfl .i64 .i64 (lenF rows col) (by omega) (by omega) wr
        have hF1 := hF.below bx1
        have o1 : x1.cell? ⟨O, col, none⟩ = some (.slice none 0 0) := cell_of hF1.out.hd (by rw [List.getElem?_toArray, outHd_get hcn, if_neg (by omega)])
        have o2 : x1.frozen? ⟨O, col, none⟩ = false := not_frozen hF1.out.hd
        rw [made_row] at kx1
        have hF2 := hF1.push hcn (Nat.le_trans hF.low.size (Nat.le_refl _)) kx1 (fun i hi e => by have := lt_of_block (hF.out.row i hi); omega)
        generalize hlc : lenF rows col = lc at *
        obtain ⟨y1, hy1⟩ : ∃ y1, x1.setCell ⟨O, col, none⟩ (.slice (some ⟨wr.heap.size, 0, none⟩) lc lc) = y1 := ⟨_, rfl⟩
        rw [hy1] at hF2
        obtain ⟨bl2, hbl2⟩ : ∃ bl2, (fun i => if i = col then wr.heap.size else bl i) = bl2 := ⟨_, rfl⟩
        rw [hbl2] at hF2
        replace hF2 := hF2.ext (g := f1 N (lenF rows) cp col 0) (fun i k _ _ => f1_push i k)
        have hblc : bl2 col = wr.heap.size := by rw [← hbl2]; simp
        clear hbl2 hblc
        gi_wp2
        clear o1 o2 ex1 hy1 hmk kx1 hca
        gi_loopw [60] (fun x wt => ∃ (k : Nat) (nr ar : List ((Nat × Nat) × Value)), x = .int .i64 k ∧ k ≤ lc ∧ FS w3 wt Bw T9 M9 T10 M10 O #[.int .i64 X, .int .i64 Z, .int .i64 Wn, .int .i64 D, .slice (some ad) rows.length cap, .slice A3 rows.length c3] rows.length (col + 1) bl2 (lenF rows) (f1 N (lenF rows) cp col k) N nr ar ∧ P1 N (lenF rows) col k nr ar) (fun x _ => lc - (intOf x).toNat)
        case atStart => exact ⟨0, nr, ar, rfl, Nat.zero_le _, hF2, hP⟩
        case round =>
          clear hF hF1 hF2 hP
          obtain ⟨k, nr, ar, rfl, hkl, hF, hP⟩ := hrel
          by_cases hkn : k < lc
          · have hkn' : (k : Int) < (lc : Int) := by omega
            have hs : InG rows.length (lenF rows) (col, k) := ⟨hcn, by show k < lenF rows col; omega⟩
            have hwk : IntKind.i64.wrap ((k : Int) + 1) = (k : Int) + 1 := by rw [IntKind.wrap_i64]; omega
            obtain ⟨x2, ex2, bx2, kx2⟩ := alloc_step wr (.cells #[.int .i64 col, .int .i64 k] 67)
            have hF1 := hF.below bx2
            have hL2 := (hLA.below hF1.low).more hF1.low.size
            have h28 := eight_any X Z D Wn (.slice (some ad) rows.length cap) A3 c3 rows.length (lenF rows) tt x2 hL2 hW64 hn4 hin col k hs
            rw [hN] at h28
            obtain ⟨c0, c1, c2, c3', c4, c5⟩ := box6 hF1.bw
            obtain ⟨k0, k1⟩ := box2 kx2
            cases hNs : N (col, k) with
            | none =>
              rw [hNs] at h28
              gi_wp2
              refine ⟨trivial, (callsIn_wide.2 h28).mono ?_⟩
              rintro en w4 ⟨rfl, hb4⟩
              have hF4 := hF1.below hb4
              have m0 : w4.cell? ⟨T9, 0, none⟩ = some (.map (some M9)) := cell_of hF4.t9 rfl
              obtain ⟨m1, m2⟩ := box2 ((hb4.block _ (lt_of_block kx2)).trans kx2)
              clear c0 c1 c2 c3' c4 c5 k0 k1
              gi_wp2_with (refine wpListIn_plain rfl fun K' hK' => ?_; refine wpIn_mapUpdate (.tmp 84) (.tmp 85) (.const (.int .i64 0)) rfl spot_keys Try.underlying64 hF4.near (k := (col, k)) (v := .int .i64 0) rfl rfl rfl ?_; intro w5 hm5 hg5; have hF5 := hF4.near_upd hm5 hg5; refine hK' _ _ ?_)
              go_roundw
              case rel => exact ⟨k + 1, _, ar, by go_num, by omega, hF5.ext (fun i j _ _ => f1_no hNs i j), hP.no hNs⟩
              case measure => simp [intOf]; omega
            | some l =>
              rw [hNs] at h28
              gi_wp2
              refine ⟨trivial, (callsIn_wide.2 h28).mono ?_⟩
              rintro en w4 ⟨⟨v4, rfl, hv4⟩, hb4⟩
              have hF4 := hF1.below hb4
              have hl8 : l.length = 8 := eightN_len (show eightN Wn tt (col, k) 4 = some l by rw [← hNs, ← hN]; rfl)
              have he4 : ERow w4 w3.heap.size v4 l := ERow.of (own_base hv4 hF1.low.size) (by omega)
              have m0 : w4.cell? ⟨T10, 0, none⟩ = some (.map (some M10)) := cell_of hF4.t10 rfl
              obtain ⟨m1, m2⟩ := box2 ((hb4.block _ (lt_of_block kx2)).trans kx2)
              clear c0 c1 c2 c3' c4 c5 k0 k1
              gi_wp2_with (refine wpListIn_plain rfl fun K' hK' => ?_; refine wpIn_mapUpdate (.tmp 73) (.tmp 74) (.tmp 75) rfl spot_keys Try.underlying65 hF4.around (k := (col, k)) (v := v4) rfl rfl rfl ?_; intro w5 hm5 hg5; have hF5 := hF4.around_upd hm5 hg5 hNs he4; refine hK' _ _ ?_)
              have n0 : w5.drew.cell? ⟨O, col, none⟩ = some (.slice (some ⟨bl2 col, 0, none⟩) lc lc) := cell_of hF5.out.hd (by rw [List.getElem?_toArray, outHd_get hcn, if_pos (by omega), hlc])
              obtain ⟨r0, r1, r2, r3, r4, r5, r6⟩ := box7 (show w5.drew.heap[w.heap.size]? = _ from (hF5.low.block _ (lt_of_block fB0)).trans fB0)
              have hlO : O < w5.drew.heap.size := lt_of_block hF5.out.hd
              have hlW : w.heap.size < w5.drew.heap.size := Nat.lt_of_lt_of_le (lt_of_block fB0) hF5.low.size
              have hS : (CellsL [(⟨O, col, none⟩, .slice (some ⟨bl2 col, 0, none⟩) lc lc), (⟨w.heap.size, 0, none⟩, .int .i64 a), (⟨w.heap.size, 1, none⟩, .int .i64 b), (⟨w.heap.size, 2, none⟩, .int .i64 c), (⟨w.heap.size, 3, none⟩, .int .i64 d), (⟨w.heap.size, 4, none⟩, .int .i64 e), (⟨w.heap.size, 5, none⟩, .int .i64 f), (⟨w.heap.size, 6, none⟩, .int .i64 g)]) (w5.drew) := ⟨n0, r0, r1, r2, r3, r4, r5, r6, trivial⟩
              refine wpIn_region_ord [(0, true), (1, true), (2, true), (3, true), (4, true), (5, true), (6, false), (7, true)] (CellsL [(⟨O, col, none⟩, .slice (some ⟨bl2 col, 0, none⟩) lc lc), (⟨w.heap.size, 0, none⟩, .int .i64 a), (⟨w.heap.size, 1, none⟩, .int .i64 b), (⟨w.heap.size, 2, none⟩, .int .i64 c), (⟨w.heap.size, 3, none⟩, .int .i64 d), (⟨w.heap.size, 4, none⟩, .int .i64 e), (⟨w.heap.size, 5, none⟩, .int .i64 f), (⟨w.heap.size, 6, none⟩, .int .i64 g)]) (fun _ => trivial) rfl (by first | exact then_put rfl | (intro c d v a w h; cases d <;> exact h)) (by kernel_rfl) ?_
              simp only [List.length_cons, List.length_nil, Nat.reduceAdd, List.drop_succ_cons, List.drop_zero]
              iterate 6 (apply wpOrd_quiet rfl hS rfl; (intro w' hw'; obtain ⟨q0, q1, q2, q3, q4, q5, q6, q7, _⟩ := hw'; go_simp; exact rfl); go_simp)
              refine wpOrd_move rfl rfl ?_
              go_simp
              refine ⟨trivial, (callsIn_wide.2 (hcap _)).mono ?_⟩
              rintro en w6 ⟨rfl, hb6⟩
              replace hS := CellsL.keep hb6 hS ⟨hlO, hlW, hlW, hlW, hlW, hlW, hlW, hlW, trivial⟩
              refine ⟨hS, ?_⟩
              go_simp
              iterate 1 (apply wpOrd_quiet rfl hS rfl; (intro w' hw'; obtain ⟨q0, q1, q2, q3, q4, q5, q6, q7, _⟩ := hw'; go_simp; exact rfl); go_simp)
              refine wpOrd_nil ?_
              clear hS n0 r0 r1 r2 r3 r4 r5 r6
              have hF6 := (hF5.below (Below.refl _ _).drew).below hb6
              have hrow6 := hF6.out.row col (Nat.lt_succ_self _)
              have z0 : w6.frozen? ⟨bl2 col, k, none⟩ = false := not_frozen hrow6
              have z1 : w6.cell? ⟨bl2 col, k, none⟩ = some _ := cell_of hrow6 (by rw [List.getElem?_toArray, intRow_get (by omega)])
              have hF7 := hF6.set (Nat.lt_succ_self col) k cp
              gi_wp2
              go_roundw
              case rel => exact ⟨k + 1, nr, _, by go_num, by omega, hF7.ext (fun i j _ _ => f1_yes hNs i j), hP.yes hNs v4⟩
              case measure => simp [intOf]; omega
          · obtain rfl : k = lc := by omega
            gi_wp2
            go_roundw
            case rel => exact ⟨col + 1, bl2, nr, ar, by go_num, by omega, hF.ext (fun i j _ _ => by rw [← hlc]; exact f1_next i j), by have := hP; rw [← hlc] at this; exact this.next⟩
            case measure => simp [intOf]; omega
      · obtain rfl : col = rows.length := by omega
        gi_wp2
        refine wpIn_label ?_
        replace hF := hF.ext (g := f2 N rows.length (lenF rows) cp 0) (fun i j hi hj => f1_second hi hj)
        have hP2 := hP.second
        have harlen : ar.length ≤ 32768 := by
          have := keys_le hF.around.nodup hlen8 (fun p hp => hP.keys (mem_look hF.around.nodup (k := p.1) (v := p.2) hp))
          omega
        have hG : ∀ s l, InG rows.length (lenF rows) s → N s = some l → ∀ t ∈ l, InG rows.length (lenF rows) t := fun s l hs hNs t ht => eight_in hin hs (by rw [hN]; exact hNs) t ht
        gi_wp2
        gi_loopw [19] (fun x wr => ∃ (q : Nat) (nr : List ((Nat × Nat) × Value)), x = .int .i64 (q + 1) ∧ q + 1 ≤ cp ∧ FS w3 wr Bw T9 M9 T10 M10 O #[.int .i64 X, .int .i64 Z, .int .i64 Wn, .int .i64 D, .slice A rows.length cap, .slice A3 rows.length c3] rows.length rows.length bl (lenF rows) (f2 N rows.length (lenF rows) cp q) N nr ar ∧ P2 N rows.length (lenF rows) q nr) (fun x _ => cp + 1 - (intOf x).toNat)
        case atStart => exact ⟨0, nr, rfl, by omega, hF, hP2⟩
        case round =>
          clear hF hP2
          obtain ⟨q, nr, rfl, hqc, hF, hP2⟩ := hrel
          obtain ⟨r0, r1, r2, r3, r4, r5, r6⟩ := box7 ((hF.low.block _ (lt_of_block fB0)).trans fB0)
          have hlW : w.heap.size < wr.heap.size := Nat.lt_of_lt_of_le (lt_of_block fB0) hF.low.size
          gi_wp2
          refine ⟨trivial, (callsIn_wide.2 (hcap _)).mono ?_⟩
          rintro en w4 ⟨rfl, hb4⟩
          have hF4 := hF.below hb4
          by_cases hq : q + 1 < cp
          · have hq' : (q : Int) + 1 < cp := by omega
            have t0 : w4.cell? ⟨T10, 0, none⟩ = some (.map (some M10)) := cell_of hF4.t10 rfl
            gi_wp2_with (gi_at_range; refine wpListIn_range_map _ rfl _ 65 rfl Try.underlying65 rfl hF4.around ?_; intro w5 hit5 hg5 hs5)
            go_frame
            have hb5 : Below w4.heap.size w4 w5 := (Below.refl _ _).grown hg5 (Nat.le_refl _) (fun k e => by cases e)
            obtain ⟨i0, hii, hz0, hz1, hz2⟩ := info_parts infoS
            have hP' := hP
            clear t0 hg5 r0 r1 r2 r3 r4 r5 r6
            gi_loopw [20] (fun u20 wt => ∃ (done L : List (Nat × Nat)), ItAt spv wt w4.heap.size M10 ar done ∧ Below w4.heap.size w4 wt ∧ w4.heap.size < wt.heap.size ∧ wt.ownsRow w4.heap.size 67 2 u20 L.length (spcs L) ∧ (∀ s, s ∈ L ↔ s ∈ done ∧ kn N (q + 1) s = true ∧ kn N q s = false) ∧ L.length ≤ done.length) (fun _ wt => wt.rangeLeft M10 w4.heap.size)
            case atStart => exact ⟨[], [], hit5, hb5, by omega, World.ownsRow_nil _ _ _ _, fun s => by simp, Nat.le_refl _⟩
            case round =>
              obtain ⟨done, L, hit, hlow, hlt, hrow, hL, hLd⟩ := hrel
              gi_wp2_with (gi_at_next; refine wpListIn_next_map _ rfl _ rfl spot_keys rfl hit ?_ ?_)
              · intro hdone
                obtain ⟨AL, cL, rfl⟩ := own_rowS hrow
                have hLf : ∀ s, s ∈ L ↔ InG rows.length (lenF rows) s ∧ kn N (q + 1) s = true ∧ kn N q s = false := fun s => by
                  rw [hL s]
                  constructor
                  · rintro ⟨h1, h2, h3⟩
                    obtain ⟨v, hv⟩ := hit.mem h1
                    exact ⟨hP'.keys (mem_look hit.map.nodup hv), h2, h3⟩
                  · rintro ⟨h1, h2, h3⟩
                    refine ⟨?_, h2, h3⟩
                    cases hNs : N s with
                    | none => rw [kn_none hNs] at h3; cases h3
                    | some l =>
                      obtain ⟨v, hv⟩ := hP'.has h1 hNs
                      exact hdone s.1 s.2 v (look_mem hv)
                have hFr := hF4.below hlow
                have hLb : L.length ≤ 32768 := by have := hit.le; omega
                clear hL hLd hdone hit hlow hlt hF hit5 hb5
                by_cases hL0 : L.length = 0
                · obtain rfl : L = [] := List.length_eq_zero_iff.1 hL0
                  have hstop : ∀ s, InG rows.length (lenF rows) s → kn N (q + 1) s = kn N q s := fun s hs => by
                    cases h1 : kn N q s with
                    | true => exact kn_succ h1
                    | false =>
                      cases h2 : kn N (q + 1) s with
                      | false => rfl
                      | true => have := (hLf s).2 ⟨hs, h2, h1⟩; cases this
                  gi_wp2
                  rw [Exit.noGoto_ret]
                  go_ret2
                  exact ⟨some ⟨O, 0, none⟩, rows.length, rfl, hFr.out.ints (fun i k hi hk => f2_stop hG hstop hi hk hqc), hba.trans ((hb3.trans (hFr.low.mono hb3.size)).mono hba.size)⟩
                · have hL0' : ((L.length : Int) == 0) = false := by
                    cases hb : ((L.length : Int) == 0) with
                    | false => rfl
                    | true => rw [beq_iff_eq] at hb; omega
                  gi_wp2
                  gi_loopw [123] (fun x wt => ∃ (j : Nat) (nr : List ((Nat × Nat) × Value)), x = .int .i64 j ∧ j ≤ L.length ∧ FS w3 wt Bw T9 M9 T10 M10 O #[.int .i64 X, .int .i64 Z, .int .i64 Wn, .int .i64 D, .slice A rows.length cap, .slice A3 rows.length c3] rows.length rows.length bl (lenF rows) (fl N rows.length (lenF rows) cp q (L.take j)) N nr ar ∧ PL N rows.length (lenF rows) q (L.take j) nr ∧ wt.ownsRow w4.heap.size 67 2 (.slice AL L.length cL) L.length (spcs L)) (fun x _ => L.length - (intOf x).toNat)
                  case atStart => exact ⟨0, nr, rfl, Nat.zero_le _, hFr.ext (fun i j _ _ => fl_start), PL.start hP2, hrow⟩
                  case round =>
                    clear hFr hrow hP2
                    obtain ⟨j, nr, rfl, hjl, hF, hPL, hrow⟩ := hrel
                    by_cases hjn : j < L.length
                    · have hjn' : (j : Int) < (L.length : Int) := by omega
                      have hLj := (hLf L[j]).1 (List.getElem_mem hjn)
                      have hIj := hLj.1
                      have hwj : IntKind.i64.wrap ((j : Int) + 1) = (j : Int) + 1 := by rw [IntKind.wrap_i64]; omega
                      obtain ⟨adL, rfl, hbL, y0, y1⟩ := spot_at (Reads.of_own hrow) hjn
                      have htk : L.take (j + 1) = L.take j ++ [L[j]] := List.take_succ_eq_append_getElem hjn
                      generalize hPa : adL.add (j * 2) = Pa at hbL y0 y1
                      generalize hsp : L[j] = sp at *
                      obtain ⟨s1, s2⟩ := sp
                      obtain ⟨x5, ex5, bx5, kx5⟩ := alloc_step wr (.cells #[.int .i64 s1, .int .i64 s2] 67)
                      have hF5 := hF.below bx5
                      have hrow5 := own_below hrow bx5
                      obtain ⟨p0, p1⟩ := box2 kx5
                      have m0 : x5.cell? ⟨T9, 0, none⟩ = some (.map (some M9)) := cell_of hF5.t9 rfl
                      obtain ⟨es9, cc9, hm9⟩ := mapBlk hF5.near
                      gi_wp2_with (refine wpListIn_plain rfl fun K' hK' => ?_; refine wpIn_mapUpdate (.tmp 127) (.tmp 128) (.tmp 129) rfl spot_keys Try.underlying64 hF5.near (k := (s1, s2)) (v := .int .i64 ((q : Int) + 1)) rfl rfl rfl ?_; intro w7 hm7 hg7; have hF7 := hF5.near_upd hm7 hg7; refine hK' _ _ ?_)
                      have hrow7 := spots_kept hrow5 hg7 hm9 (fun cur e => by cases e)
                      have hx7 : w7.heap[wr.heap.size]? = _ := (hg7.block _ (lt_of_block kx5) (fun e => by injection e with e; exact blk_ne kx5 hm9 (by simp) e)).trans kx5
                      have n0 : w7.drew.cell? ⟨O, s1, none⟩ = some (.slice (some ⟨bl s1, 0, none⟩) (lenF rows s1) (lenF rows s1)) := cell_of hF7.out.hd (by rw [List.getElem?_toArray, outHd_get hIj.1, if_pos hIj.1])
                      have hi1 : (s1 : Int) < (rows.length : Int) := by have := hIj.1; simp only at this; omega
                      have hi2 : (s2 : Int) < (lenF rows s1 : Int) := by have := hIj.2; simp only at this; omega
                      generalize hlen1 : lenF rows s1 = ln1 at n0 hi2
                      have hS : (CellsL [(⟨O, s1, none⟩, .slice (some ⟨bl s1, 0, none⟩) ln1 ln1), (⟨wr.heap.size, 0, none⟩, .int .i64 s1), (⟨wr.heap.size, 1, none⟩, .int .i64 s2)]) (w7.drew) := ⟨n0, cell_of hx7 rfl, cell_of hx7 rfl, trivial⟩
                      refine wpIn_region_ord [(0, true), (1, true), (2, true), (3, true), (4, true), (5, true), (6, true), (7, true), (8, true)] (CellsL [(⟨O, s1, none⟩, .slice (some ⟨bl s1, 0, none⟩) ln1 ln1), (⟨wr.heap.size, 0, none⟩, .int .i64 s1), (⟨wr.heap.size, 1, none⟩, .int .i64 s2)]) (fun _ => trivial) rfl (by first | exact then_put rfl | (intro c d v a w h; cases d <;> exact h)) (by kernel_rfl) ?_
                      simp only [List.length_cons, List.length_nil, Nat.reduceAdd, List.drop_succ_cons, List.drop_zero]
                      iterate 9 (apply wpOrd_quiet rfl hS rfl; (intro w' hw'; obtain ⟨q0, q1, q2, _⟩ := hw'; go_simp; exact rfl); go_simp)
                      refine wpOrd_nil ?_
                      clear hS n0
                      have hF8 := hF7.below (Below.refl _ _).drew
                      have hrw8 := hF8.out.row s1 hIj.1
                      have z0 : w7.drew.frozen? ⟨bl s1, s2, none⟩ = false := not_frozen hrw8
                      have z1 : w7.drew.cell? ⟨bl s1, s2, none⟩ = some _ := cell_of hrw8 (by rw [List.getElem?_toArray, intRow_get hIj.2])
                      have hF9 := hF8.set hIj.1 s2 ((q : Int) + 1)
                      have hrow9 := spots_kept (own_below hrow7 (Below.refl _ _).drew) (grownBy_set w7.drew (bl s1) s2 (.int .i64 ((q : Int) + 1))) hrw8 (fun cur e => by cases e)
                      generalize w7.drew = w8 at z0 z1 hF9 hrow9 ⊢
                      clear hF7 hF5 hrow7 hrow5 hm7 hg7
                      gi_wp2
                      go_roundw
                      case rel => exact ⟨j + 1, _, by go_num, by omega, by rw [htk]; exact hF9.ext (fun i k _ _ => fl_step (t := (s1, s2))), by rw [htk]; exact hPL.step, hrow9⟩
                      case measure => simp [intOf]; omega
                    · obtain rfl : j = L.length := by omega
                      rw [List.take_length] at hF hPL
                      gi_wp2
                      go_roundw
                      case rel => exact ⟨q + 1, nr, by go_num, by omega, hF.ext (fun i j _ _ => fl_done hLf), hPL.done hLf⟩
                      case measure => simp [intOf]; omega
              · intro k1 k2 v w6 hm hnd hit6 hlt6 hg6 hs6 hen
                have hb6 : Below w4.heap.size w4 w6 := hlow.grown hg6 (Nat.le_of_lt hlt) (fun j e => by injection e with e; omega)
                have hF6 := hF4.below hb6
                have hmk := mem_look hF6.around.nodup hm
                have hInG := hP'.keys hmk
                obtain ⟨l, hNk, g', cap', rfl, hro, _⟩ := hF6.rows _ _ hmk
                have hl8 : l.length = 8 := eightN_len (show eightN Wn tt (k1, k2) 4 = some l by rw [← hNk, ← hN]; rfl)
                unfold spv at hen
                clear hs6
                obtain ⟨x7, ex7, bx7, kx7⟩ := alloc_step w6 (.cells #[.int .i64 k1, .int .i64 k2] 67)
                have hF7 := hF6.below bx7
                obtain ⟨k0, k1'⟩ := box2 kx7
                obtain ⟨n1, n2, n3⟩ := hF7.nearAt
                have hit7 := hit6.of_blocks (bx7.block _ hF6.around.lt) (bx7.block _ hit6.ltr)
                have hlt7 : x7.rangeLeft M10 w4.heap.size < wr.rangeLeft M10 w4.heap.size := by rw [left_of_blocks (bx7.block _ hF6.around.lt) (bx7.block _ hit6.ltr)]; exact hlt6
                have hlow7 : Below w4.heap.size w4 x7 := hb6.trans (bx7.mono hb6.size)
                obtain ⟨oi, hoi, hoi2⟩ := hit.iblk
                have hrow7 := own_below (spots_kept hrow hg6 hoi hoi2) bx7
                clear hoi hoi2
                obtain ⟨z, hz⟩ : ∃ z, (lookM nr (k1, k2)).getD (.int .i64 0) = z := ⟨_, rfl⟩
                have hkn := hP2.known hInG
                cases hk : kn N q (k1, k2) with
                | true =>
                  rw [hk] at hkn
                  have hlk := look_near n2 (k1, k2) z true hz hkn
                  gi_wp2_with (refine wpListIn_skip rfl rfl ?_)
                  go_roundw
                  case rel =>
                    refine ⟨(k1, k2) :: done, L, hit7, hlow7, hit7.ltr, hrow7, fun s => ?_, by simp; omega⟩
                    rw [hL s, List.mem_cons]
                    constructor
                    · rintro ⟨h1, h2⟩; exact ⟨.inr h1, h2⟩
                    · rintro ⟨rfl | h1, h2, h3⟩
                      · rw [hk] at h3; cases h3
                      · exact ⟨h1, h2, h3⟩
                  case measure => exact hlt7
                | false =>
                  rw [hk] at hkn
                  have hlk := look_near n2 (k1, k2) z false hz hkn
                  have hedge := edge_any T9 M9 T10 M10 nr ar (k1, k2) l (some ⟨g', 0, none⟩) cap' x7 hF7.nearAt hF7.aroundAt hmk ((Reads.of_own hro).below (bx7) |>.more bx7.size) (by omega)
                  rw [hP2.any (hG _ _ hInG hNk)] at hedge
                  have hks : kn N (q + 1) (k1, k2) = l.any (kn N q) := by rw [kn_some hNk, hk]; rfl
                  rw [← hks] at hedge
                  cases hk1 : kn N (q + 1) (k1, k2) with
                  | false =>
                    rw [hk1] at hedge
                    clear hks
                    gi_wp2
                    refine ⟨trivial, (callsIn_wide.2 hedge).mono ?_⟩
                    rintro en w8 ⟨rfl, hb8⟩
                    gi_wp2
                    go_roundw
                    case rel =>
                      refine ⟨(k1, k2) :: done, L, hit7.of_blocks (hb8.block _ hF7.around.lt) (hb8.block _ hit7.ltr), hlow7.trans (hb8.mono hlow7.size), Nat.lt_of_lt_of_le hit7.ltr hb8.size, own_below hrow7 hb8, fun s => ?_, by simp; omega⟩
                      rw [hL s, List.mem_cons]
                      constructor
                      · rintro ⟨h1, h2⟩; exact ⟨.inr h1, h2⟩
                      · rintro ⟨rfl | h1, h2, h3⟩
                        · rw [hk1] at h2; cases h2
                        · exact ⟨h1, h2, h3⟩
                    case measure => rw [left_of_blocks (hb8.block _ hF7.around.lt) (hb8.block _ hit7.ltr)]; exact hlt7
                  | true =>
                    rw [hk1] at hedge
                    clear hks
                    gi_wp2
                    refine ⟨trivial, (callsIn_wide.2 hedge).mono ?_⟩
                    rintro en w8 ⟨rfl, hb8⟩
                    obtain ⟨p0, p1⟩ := box2 ((hb8.block _ (lt_of_block kx7)).trans kx7)
                    have hrow8 := own_below hrow7 hb8
                    have hlow8 := hlow7.trans (hb8.mono hlow7.size)
                    have hlt8 := Nat.lt_of_lt_of_le hit7.ltr hb8.size
                    gi_wp2_with (gi_at_builtin; refine wpListIn_append_own_at _ rfl (.tmp 114) (.tmp 116) 68 rfl w4.heap.size 67 i0 _ 2 16 Try.underlying68 hii hz0 hz1 hz2 (by decide) (by decide) u20 L.length (spcs L) rfl (hrow8.alloc _) ⟨w8.heap.size, 0, none⟩ 1 1 (spcs [(k1, k2)]) rfl rfl (sp1_new _ _ _) (sp1_one _) (by have := hit7.le; simp at this; unfold maxLen; omega) (by have := hit7.le; simp at this; omega) (by simp; omega) ?_; intro v9 w9 hown9 hg9 hnil9 hloc9)
                    have hb10 : (w8.alloc (.cells #[.int .i64 k1, .int .i64 k2] 67)).heap[M10]? = w8.heap[M10]? := ((Below.refl _ _).alloc (Nat.le_refl _) _).block _ (lt_of_block (mapBlk (hF7.below hb8).around).choose_spec.choose_spec)
                    have hbr : (w8.alloc (.cells #[.int .i64 k1, .int .i64 k2] 67)).heap[w4.heap.size]? = w8.heap[w4.heap.size]? := ((Below.refl _ _).alloc (Nat.le_refl _) _).block _ hlt8
                    have hit8 := hit7.of_blocks (hb8.block _ hF7.around.lt) (hb8.block _ hit7.ltr)
                    obtain ⟨oi, hoi, hoi2⟩ := hit8.iblk
                    obtain ⟨es8, cc8, hmb⟩ := mapBlk hit8.map
                    have h910 : w9.heap[M10]? = w8.heap[M10]? := (hg9.block _ (by simp; have := lt_of_block hmb; omega) (own_ne_blk hrow8 hmb (fun cur e => by cases e))).trans hb10
                    have h9r : w9.heap[w4.heap.size]? = w8.heap[w4.heap.size]? := (hg9.block _ (by simp; omega) (own_ne_blk hrow8 hoi hoi2)).trans hbr
                    have hit9 := hit8.of_blocks h910 h9r
                    have hlow9 : Below w4.heap.size w4 w9 := (hlow8.alloc hlow8.size _).grown hg9 (by simp; omega) (fun j e => (hrow8.lt j e).1)
                    go_roundw
                    case rel =>
                      refine ⟨(k1, k2) :: done, L ++ [(k1, k2)], hit9, hlow9, hit9.ltr, by rw [spcs_append, List.length_append]; exact hown9, fun s => ?_, by simp; omega⟩
                      simp only [List.mem_append, List.mem_cons, List.not_mem_nil, or_false, hL s]
                      constructor
                      · rintro (⟨h1, h2⟩ | rfl)
                        · exact ⟨.inr h1, h2⟩
                        · exact ⟨.inl rfl, hk1, hk⟩
                      · rintro ⟨rfl | h1, h2⟩
                        · exact .inr rfl
                        · exact .inl ⟨h1, h2⟩
                    case measure => rw [left_of_blocks h910 h9r, left_of_blocks (hb8.block _ hF7.around.lt) (hb8.block _ hit7.ltr)]; exact hlt7
          · have hq' : ¬ (q : Int) + 1 < cp := by omega
            obtain rfl : cp = q + 1 := by omega
            gi_wp2
            rw [Exit.noGoto_ret]
            go_ret2
            exact ⟨some ⟨O, 0, none⟩, rows.length, rfl, hF4.out.ints (fun i k hi hk => f2_last (N := N) hi hk (Nat.succ_pos q)), hba.trans ((hb3.trans (hF4.low.mono hb3.size)).mono hba.size)⟩
  · exact absurd ⟨hk, ho⟩ hno
set_option maxHeartbeats 1000000 in
set_option maxRecDepth 100000 in
theorem fbuild_no (a b c d e f g X Z W D : Int) (rows : List (List V3)) (A : Option Addr) (cap : Nat) (w : World) (hr : RowsAt w w.heap.size A rows) (hl : lensOk rows) (hno : ¬ (checkF a b c d e f g = 0 ∧ gridOk X Z W D rows)) :
    Calls Try.prog 10 #[cfgv a b c d e f g, .agg #[.int .i64 X, .int .i64 Z, .int .i64 W, .int .i64 D, .slice A rows.length cap]] w fun en w' =>
      en = .returned (.tuple #[.slice none 0 0, .int .i64 (if checkF a b c d e f g = 0 then 2 else 20)]) ∧ Below w.heap.size w w' := by
  have hba := ((Below.refl w.heap.size w).alloc (Nat.le_refl _) (.cells #[.int .i64 a, .int .i64 b, .int .i64 c, .int .i64 d, .int .i64 e, .int .i64 f, .int .i64 g] 23)).alloc (by simp) (.cells #[.int .i64 X, .int .i64 Z, .int .i64 W, .int .i64 D, .slice A rows.length cap] 26)
  have hB0 := two_alloc w (.cells #[.int .i64 a, .int .i64 b, .int .i64 c, .int .i64 d, .int .i64 e, .int .i64 f, .int .i64 g] 23) (.cells #[.int .i64 X, .int .i64 Z, .int .i64 W, .int .i64 D, .slice A rows.length cap] 26)
  have hB1 := alloc2_new w (.cells #[.int .i64 a, .int .i64 b, .int .i64 c, .int .i64 d, .int .i64 e, .int .i64 f, .int .i64 g] 23) (.cells #[.int .i64 X, .int .i64 Z, .int .i64 W, .int .i64 D, .slice A rows.length cap] 26)
  obtain ⟨W2, hW2⟩ : ∃ W2, (w.alloc (.cells #[.int .i64 a, .int .i64 b, .int .i64 c, .int .i64 d, .int .i64 e, .int .i64 f, .int .i64 g] 23)).alloc (.cells #[.int .i64 X, .int .i64 Z, .int .i64 W, .int .i64 D, .slice A rows.length cap] 26) = W2 := ⟨_, rfl⟩
  rw [hW2] at hba hB0 hB1
  have hlb := lbuild_any a b c d e f g X Z W D rows A cap W2 ((hr.below hba).more hba.size) hl
  obtain ⟨q0, q1, q2, q3, q4, q5, q6⟩ := box7 hB0
  obtain ⟨g0, g1, g2, g3, g4⟩ := box5 hB1
  obtain ⟨er, her⟩ : ∃ er : Int, (if checkF a b c d e f g = 0 then 2 else 20) = er := ⟨_, rfl⟩
  have hne : (er != 0) = true := by rw [← her]; split <;> rfl
  unfold cfgv at hlb ⊢
  rw [her] at hlb ⊢
  clear her
  refine (callsIn_wide (n := 6)).1 ?_
  refine callsIn_of_wp Try.func10 rfl trivial ?_
  simp only [Try.ntmps10, List.size_toArray, List.length_cons, List.length_nil, Nat.reduceAdd, Nat.reduceSub, Array.replicate_succ, Array.replicate_zero, List.push_toArray, List.append_toArray, List.nil_append, List.cons_append]
  gi_wp2
  refine wpIn_wide.2 (wp_scope_straight ((wpIn_wide (n := 6)).1 ?_))
  gi_wp2
  refine ⟨trivial, (callsIn_wide.2 hlb).mono ?_⟩
  rintro en w3 ⟨hres, hb3⟩
  rcases hres with ⟨h, _⟩ | ⟨_, rfl⟩
  · exact absurd h hno
  · clear q0 q1 q2 q3 q4 q5 q6 g0 g1 g2 g3 g4 hlb
    gi_wp2
    rw [Exit.noGoto_ret]
    go_ret2
    exact ⟨rfl, hba.trans (hb3.mono hba.size)⟩
end Go.Proofs.Ytcdfojfafnecdaa
