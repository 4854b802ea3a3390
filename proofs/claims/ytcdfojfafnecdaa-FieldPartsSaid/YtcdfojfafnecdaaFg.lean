/- world.eight by a walk: where a floor's eight lead. No conditions but that the links lie where they are said to lie, and lead into the grid. -/
import Derived.Test.YtcdfojfafnecdaaFf
namespace Go.Proofs.Ytcdfojfafnecdaa
open Go Go.RowKit Go.Sx Go.Mp
attribute [local go_sem] Oper.semAt_some
/-- A step. -/
def stepS (W : Nat) (tt : Nat → Nat → Nat → Option Nat) (s : Nat × Nat) (d : Nat) : Option (Nat × Nat) :=
  match stepD d, tt s.1 s.2 d with
  | some (dx, dz), some m => some (((s.1 : Int) + dz * W + dx).toNat, m)
  | _, _ => none
/-- Two of the eight. -/
def eightD (W : Nat) (tt : Nat → Nat → Nat → Option Nat) (s : Nat × Nat) (d : Nat) : Option (List (Nat × Nat)) :=
  match stepS W tt s d, stepS W tt s ((d + 1) % 4) with
  | some a, some b => match stepS W tt a ((d + 1) % 4), stepS W tt b d with
    | some x, some y => if x = y then some [a, x] else none
    | _, _ => none
  | _, _ => none
def eightN (W : Nat) (tt : Nat → Nat → Nat → Option Nat) (s : Nat × Nat) : Nat → Option (List (Nat × Nat))
  | 0 => some []
  | q + 1 => match eightN W tt s q, eightD W tt s q with
    | some l, some m => some (l ++ m)
    | _, _ => none
/-- Where a floor's eight lead. -/
def eightF (W : Nat) (tt : Nat → Nat → Nat → Option Nat) (s : Nat × Nat) : Option (List (Nat × Nat)) := eightN W tt s 4
theorem eightN_none {W : Nat} {tt : Nat → Nat → Nat → Option Nat} {s : Nat × Nat} {q : Nat} (h : eightN W tt s q = none) : ∀ j, eightN W tt s (q + j) = none
  | 0 => h
  | j + 1 => by rw [show q + (j + 1) = (q + j) + 1 by omega, eightN, eightN_none h j]
theorem eightF_no {W : Nat} {tt : Nat → Nat → Nat → Option Nat} {s : Nat × Nat} {q : Nat} (hq : q < 4) (h : eightD W tt s q = none) : eightF W tt s = none := by
  have h1 : eightN W tt s (q + 1) = none := by rw [eightN, h]; cases eightN W tt s q <;> rfl
  have := eightN_none h1 (4 - (q + 1))
  rwa [show q + 1 + (4 - (q + 1)) = 4 by omega] at this
theorem eightN_len {W : Nat} {tt : Nat → Nat → Nat → Option Nat} {s : Nat × Nat} : ∀ {q : Nat} {l : List (Nat × Nat)}, eightN W tt s q = some l → l.length = 2 * q
  | 0, l, h => by injection h with h; subst h; rfl
  | q + 1, l, h => by
    rw [eightN] at h
    cases h1 : eightN W tt s q with
    | none => rw [h1] at h; cases h
    | some l1 =>
      cases h2 : eightD W tt s q with
      | none => rw [h1, h2] at h; cases h
      | some m =>
        rw [h1, h2] at h
        injection h with h
        have e1 := eightN_len h1
        have e2 : m.length = 2 := by
          unfold eightD at h2
          split at h2
          · split at h2
            · split at h2
              · injection h2 with h2; subst h2; rfl
              · cases h2
            · cases h2
          · cases h2
        subst h
        simp [e1, e2]
        omega
/-- Spots' cells. -/
def spcs (l : List (Nat × Nat)) : List Value := l.flatMap fun p => [.int .i64 p.1, .int .i64 p.2]
theorem spcs_length (l : List (Nat × Nat)) : (spcs l).length = l.length * 2 := by
  induction l with
  | nil => rfl
  | cons v l ih => simp [spcs] at *; omega
theorem spcs_append (l m : List (Nat × Nat)) : spcs (l ++ m) = spcs l ++ spcs m := by simp [spcs]
theorem spcs_get (l : List (Nat × Nat)) (j : Nat) (h : j < l.length) : (spcs l)[j * 2]? = some (.int .i64 (l[j].1)) ∧ (spcs l)[j * 2 + 1]? = some (.int .i64 (l[j].2)) := by
  induction l generalizing j with
  | nil => simp at h
  | cons v l ih =>
    cases j with
    | zero => simp [spcs]
    | succ j =>
      have := ih j (by simpa using h)
      have e : spcs (v :: l) = .int .i64 v.1 :: .int .i64 v.2 :: spcs l := rfl
      rw [e, show (j + 1) * 2 = j * 2 + 1 + 1 by omega]
      simpa using this
section
variable {X Z D : Int} {W : Nat} {F : Value} {A : Option Addr} {cap n : Nat} {len : Nat → Nat} {tt : Nat → Nat → Nat → Option Nat}
/-- A floor of the grid. -/
def InG (n : Nat) (len : Nat → Nat) (s : Nat × Nat) : Prop := s.1 < n ∧ s.2 < len s.1
theorem stepD_some {d : Nat} (hd : d < 4) : ∃ dx dz, stepD d = some (dx, dz) := by
  have h : d = 0 ∨ d = 1 ∨ d = 2 ∨ d = 3 := by omega
  rcases h with rfl | rfl | rfl | rfl <;> exact ⟨_, _, rfl⟩
theorem stepS_in (hi : Inside W n len tt) {s p : Nat × Nat} {d : Nat} (hs : InG n len s) (h : stepS W tt s d = some p) : InG n len p := by
  unfold stepS at h
  cases h1 : stepD d with
  | none => rw [h1] at h; cases h
  | some q =>
    obtain ⟨dx, dz⟩ := q
    cases h2 : tt s.1 s.2 d with
    | none => rw [h1, h2] at h; cases h
    | some m =>
      rw [h1, h2] at h
      injection h with h
      subst h
      have := hi s.1 s.2 d m dx dz hs.1 hs.2 h1 h2
      exact ⟨by simp only; omega, this.2.2⟩
theorem wstep_none (X Z D : Int) (F : Value) (cap : Nat) (hW : W ≤ 64) (hn : n ≤ 4096) {s : Nat × Nat} {d : Nat} (hs : InG n len s) (hd : d < 4) (h : stepS W tt s d = none) (w : World) (hl : LinksAt w w.heap.size A n len tt) :
    Calls Try.prog 41 #[.agg #[.int .i64 X, .int .i64 Z, .int .i64 W, .int .i64 D, F, .slice A n cap], spv s, .int .i64 d] w fun en w' =>
      (∃ i j : Int, en = .returned (.tuple #[.agg #[.int .i64 i, .int .i64 j], .bool false])) ∧ Below w.heap.size w w' := by
  obtain ⟨dx, dz, e⟩ := stepD_some hd
  refine (wstep_any X Z D W F A cap n len tt w hl hW hn s.1 s.2 d hs.1 hs.2 dx dz e).mono fun en w' ⟨h1, h2⟩ => ⟨?_, h2⟩
  have h0 : tt s.1 s.2 d = none := by
    unfold stepS at h
    rw [e] at h
    cases h2 : tt s.1 s.2 d with
    | none => rfl
    | some m => rw [h2] at h; cases h
  rw [h0] at h1
  exact ⟨_, _, h1⟩
theorem wstep_gen (X Z D : Int) (F : Value) (cap : Nat) (hW : W ≤ 64) (hn : n ≤ 4096) {s : Nat × Nat} {d : Nat} (hs : InG n len s) (hd : d < 4) (w : World) (hl : LinksAt w w.heap.size A n len tt) :
    Calls Try.prog 41 #[.agg #[.int .i64 X, .int .i64 Z, .int .i64 W, .int .i64 D, F, .slice A n cap], spv s, .int .i64 d] w fun en w' =>
      (∃ (i j : Int) (b : Bool), en = .returned (.tuple #[.agg #[.int .i64 i, .int .i64 j], .bool b])) ∧ Below w.heap.size w w' := by
  obtain ⟨dx, dz, e⟩ := stepD_some hd
  exact (wstep_any X Z D W F A cap n len tt w hl hW hn s.1 s.2 d hs.1 hs.2 dx dz e).mono fun en w' ⟨h1, h2⟩ => ⟨⟨_, _, _, h1⟩, h2⟩
theorem wstep_some (X Z D : Int) (F : Value) (cap : Nat) (hW : W ≤ 64) (hn : n ≤ 4096) (hi : Inside W n len tt) {s p : Nat × Nat} {d : Nat} (hs : InG n len s) (hd : d < 4) (h : stepS W tt s d = some p) (w : World) (hl : LinksAt w w.heap.size A n len tt) :
    Calls Try.prog 41 #[.agg #[.int .i64 X, .int .i64 Z, .int .i64 W, .int .i64 D, F, .slice A n cap], spv s, .int .i64 d] w fun en w' =>
      en = .returned (.tuple #[.agg #[.int .i64 p.1, .int .i64 p.2], .bool true]) ∧ Below w.heap.size w w' := by
  obtain ⟨dx, dz, e⟩ := stepD_some hd
  refine (wstep_any X Z D W F A cap n len tt w hl hW hn s.1 s.2 d hs.1 hs.2 dx dz e).mono fun en w' ⟨h1, h2⟩ => ⟨?_, h2⟩
  unfold stepS at h
  rw [e] at h
  cases h2 : tt s.1 s.2 d with
  | none => rw [h2] at h; cases h
  | some m =>
    rw [h2] at h
    injection h with h
    subst h
    have := (hi s.1 s.2 d m dx dz hs.1 hs.2 e h2).1
    have hdd : decide (0 ≤ optI (some m)) = true := decide_eq_true (by show (0 : Int) ≤ (m : Int); omega)
    rw [h1, h2, hdd]
    simp only
    rw [Int.toNat_of_nonneg this]
    rfl
end
theorem infoS : (Try.prog.info? 67).map (fun i => (i.zero, i.size, i.bytes)) = some (some (.agg #[.int .i64 0, .int .i64 0]), 2, 16) := by kernel_rfl
theorem sp2_one (a x : Nat × Nat) : ∀ u ∈ spcs [a, x], u.oneCell' = true := by
  intro u hu
  simp only [spcs, List.flatMap_cons, List.flatMap_nil, List.append_nil, List.cons_append, List.nil_append, List.mem_cons, List.not_mem_nil, or_false] at hu
  rcases hu with rfl | rfl | rfl | rfl <;> rfl
theorem sp2_new (w : World) (a x : Nat × Nat) (T : TypeId) : ∀ j u, (spcs [a, x])[j]? = some u → (w.alloc (.cells #[.int .i64 a.1, .int .i64 a.2, .int .i64 x.1, .int .i64 x.2] T)).cell? ((⟨w.heap.size, 0, none⟩ : Addr).add j) = some u := by
  intro j u hu
  have h := World.alloc_heap_new w (.cells #[.int .i64 a.1, .int .i64 a.2, .int .i64 x.1, .int .i64 x.2] T)
  match j, hu with
  | 0, hu => injection hu with hu; subst hu; exact cell_of h rfl
  | 1, hu => injection hu with hu; subst hu; exact cell_of h rfl
  | 2, hu => injection hu with hu; subst hu; exact cell_of h rfl
  | 3, hu => injection hu with hu; subst hu; exact cell_of h rfl
/-- What eight tells. -/
def EightRet (B : Nat) (w' : World) (en : Ending) : Option (List (Nat × Nat)) → Prop
  | none => en = .returned (.tuple #[.slice none 0 0, .bool false])
  | some l => ∃ v, en = .returned (.tuple #[v, .bool true]) ∧ w'.ownsRow B 67 2 v l.length (spcs l)
theorem after_call {w w3 : World} (hb : Below w.heap.size w w3) (o : Obj) : ∃ x, w3.alloc o = x ∧ Below w.heap.size w x ∧ x.heap[w3.heap.size]? = some o ∧ w.heap.size ≤ w3.heap.size ∧ x.heap.size = w3.heap.size + 1 :=
  ⟨_, rfl, hb.alloc hb.size _, World.alloc_heap_new _ _, hb.size, by simp⟩
theorem box6 {w : World} {B : Nat} {v0 v1 v2 v3 v4 v5 : Value} {T : TypeId} (h : w.heap[B]? = some (.cells #[v0, v1, v2, v3, v4, v5] T (0, 0))) : w.cell? ⟨B, 0, none⟩ = some v0 ∧ w.cell? ⟨B, 1, none⟩ = some v1 ∧ w.cell? ⟨B, 2, none⟩ = some v2 ∧ w.cell? ⟨B, 3, none⟩ = some v3 ∧ w.cell? ⟨B, 4, none⟩ = some v4 ∧ w.cell? ⟨B, 5, none⟩ = some v5 :=
  ⟨cell_of h rfl, cell_of h rfl, cell_of h rfl, cell_of h rfl, cell_of h rfl, cell_of h rfl⟩
theorem box2 {w : World} {B : Nat} {v0 v1 : Value} {T : TypeId} (h : w.heap[B]? = some (.cells #[v0, v1] T (0, 0))) : w.cell? ⟨B, 0, none⟩ = some v0 ∧ w.cell? ⟨B, 1, none⟩ = some v1 :=
  ⟨cell_of h rfl, cell_of h rfl⟩
set_option maxHeartbeats 2000000 in
set_option maxRecDepth 100000 in
theorem eight_any (X Z D : Int) (W : Nat) (F : Value) (A : Option Addr) (cap n : Nat) (len : Nat → Nat) (tt : Nat → Nat → Nat → Option Nat) (w : World) (hl : LinksAt w w.heap.size A n len tt) (hW : W ≤ 64) (hn : n ≤ 4096) (hi : Inside W n len tt) (c k : Nat) (hs : InG n len (c, k)) :
    Calls Try.prog 28 #[.agg #[.int .i64 X, .int .i64 Z, .int .i64 W, .int .i64 D, F, .slice A n cap], spv (c, k)] w fun en w' =>
      EightRet w.heap.size w' en (eightF W tt (c, k)) ∧ Below w.heap.size w w' := by
  have b0 := two_alloc w (.cells #[.int .i64 X, .int .i64 Z, .int .i64 W, .int .i64 D, F, .slice A n cap] 63) (.cells #[.int .i64 c, .int .i64 k] 67)
  have b1 := alloc2_new w (.cells #[.int .i64 X, .int .i64 Z, .int .i64 W, .int .i64 D, F, .slice A n cap] 63) (.cells #[.int .i64 c, .int .i64 k] 67)
  have bb : Below w.heap.size w ((w.alloc (.cells #[.int .i64 X, .int .i64 Z, .int .i64 W, .int .i64 D, F, .slice A n cap] 63)).alloc (.cells #[.int .i64 c, .int .i64 k] 67)) := ((Below.refl _ _).alloc (Nat.le_refl _) _).alloc (by simp) _
  have bs : ((w.alloc (.cells #[.int .i64 X, .int .i64 Z, .int .i64 W, .int .i64 D, F, .slice A n cap] 63)).alloc (.cells #[.int .i64 c, .int .i64 k] 67)).heap.size = w.heap.size + 2 := by simp
  obtain ⟨W2, hW2⟩ : ∃ W2, (w.alloc (.cells #[.int .i64 X, .int .i64 Z, .int .i64 W, .int .i64 D, F, .slice A n cap] 63)).alloc (.cells #[.int .i64 c, .int .i64 k] 67) = W2 := ⟨_, rfl⟩
  rw [hW2] at b0 b1 bb bs
  have hl2 := (hl.below bb).more bb.size
  generalize hEE : eightF W tt (c, k) = E
  unfold spv
  refine (callsIn_wide (n := 6)).1 ?_
  refine callsIn_of_wp Try.func28 rfl trivial ?_
  simp only [Try.ntmps28, List.size_toArray, List.length_cons, List.length_nil, Nat.reduceAdd, Nat.reduceSub, Array.replicate_succ, Array.replicate_zero, List.push_toArray, List.append_toArray, List.nil_append, List.cons_append]
  gi_wp2
  gi_loopw [4, 16] (fun u4 u16 wr => ∃ (q : Nat) (l : List (Nat × Nat)), u16 = .int .i64 q ∧ q ≤ 4 ∧ eightN W tt (c, k) q = some l ∧ wr.ownsRow W2.heap.size 67 2 u4 l.length (spcs l) ∧ Below W2.heap.size W2 wr) (fun _ x _ => 4 - (intOf x).toNat)
  case atStart => exact ⟨0, [], rfl, by omega, rfl, World.ownsRow_nil _ _ _ _, Below.refl _ _⟩
  case round =>
    obtain ⟨q, l, rfl, hq, hN, hrow, hlow⟩ := hrel
    have hcs := hlow.size
    have f0 := (hlow.block _ (lt_of_block b0)).trans b0
    have f1 := (hlow.block _ (lt_of_block b1)).trans b1
    have hlr := (hl2.below hlow).more hcs
    clear hl hl2
    by_cases hq4 : q < 4
    · have hq4' : (q : Int) < 4 := by omega
      obtain ⟨d2, hd2⟩ : ∃ d2, (q + 1) % 4 = d2 := ⟨_, rfl⟩
      have hd4 : d2 < 4 := by omega
      have e1 : IntKind.i64.wrap ((q : Int) + 1) = (q : Int) + 1 := by rw [IntKind.wrap_i64]; omega
      have e2 : ((q : Int) + 1) % 4 = (d2 : Int) := by omega
      obtain ⟨c0, c1, c2, c3, c4, c5⟩ := box6 f0
      obtain ⟨k0, k1⟩ := box2 f1
      cases hA : stepS W tt (c, k) q with
      | none =>
        have hE : eightF W tt (c, k) = none := eightF_no hq4 (by unfold eightD; rw [hA])
        gi_wp2
        refine ⟨trivial, (callsIn_wide.2 (wstep_none X Z D F cap hW hn hs hq4 hA wr hlr)).mono ?_⟩
        rintro en w3 ⟨⟨i1, j1, rfl⟩, hb3⟩
        obtain ⟨wa, ea, hba, ha, hs3, hza⟩ := after_call hb3 (.cells #[.int .i64 i1, .int .i64 j1] 67)
        have f0a := (hba.block _ (lt_of_block f0)).trans f0
        have f1a := (hba.block _ (lt_of_block f1)).trans f1
        clear c0 c1 c2 c3 c4 c5 k0 k1
        obtain ⟨c0, c1, c2, c3, c4, c5⟩ := box6 f0a
        obtain ⟨k0, k1⟩ := box2 f1a
        have hla := (hlr.below hba).more hba.size
        gi_wp2
        refine ⟨trivial, (callsIn_wide.2 (wstep_gen X Z D F cap hW hn hs hd4 wa hla)).mono ?_⟩
        rintro en w4 ⟨⟨i2, j2, t2, rfl⟩, hb4⟩
        gi_wp2
        go_ret2
        rw [← hEE, hE]
        exact ⟨rfl, bb.trans ((hlow.trans ((hba.trans ((hb4.alloc hb4.size _).mono hba.size)).mono hcs)).mono bb.size)⟩
      | some a =>
        have hIA := stepS_in hi hs hA
        gi_wp2
        refine ⟨trivial, (callsIn_wide.2 (wstep_some X Z D F cap hW hn hi hs hq4 hA wr hlr)).mono ?_⟩
        rintro en w3 ⟨rfl, hb3⟩
        obtain ⟨wa, ea, hba, ha, hs3, hza⟩ := after_call hb3 (.cells #[.int .i64 a.1, .int .i64 a.2] 67)
        have f0a := (hba.block _ (lt_of_block f0)).trans f0
        have f1a := (hba.block _ (lt_of_block f1)).trans f1
        clear c0 c1 c2 c3 c4 c5 k0 k1
        obtain ⟨c0, c1, c2, c3, c4, c5⟩ := box6 f0a
        obtain ⟨k0, k1⟩ := box2 f1a
        have hla := (hlr.below hba).more hba.size
        gi_wp2
        cases hB : stepS W tt (c, k) d2 with
        | none =>
          have hE : eightF W tt (c, k) = none := eightF_no hq4 (by unfold eightD; rw [hA, hd2, hB])
          refine ⟨trivial, (callsIn_wide.2 (wstep_none X Z D F cap hW hn hs hd4 hB wa hla)).mono ?_⟩
          rintro en w4 ⟨⟨i2, j2, rfl⟩, hb4⟩
          gi_wp2
          go_ret2
          rw [← hEE, hE]
          exact ⟨rfl, bb.trans ((hlow.trans ((hba.trans ((hb4.alloc hb4.size _).mono hba.size)).mono hcs)).mono bb.size)⟩
        | some b =>
          have hIB := stepS_in hi hs hB
          refine ⟨trivial, (callsIn_wide.2 (wstep_some X Z D F cap hW hn hi hs hd4 hB wa hla)).mono ?_⟩
          rintro en w4 ⟨rfl, hb4⟩
          obtain ⟨wb, eb, hbb, hb, hs4, hzb⟩ := after_call hb4 (.cells #[.int .i64 b.1, .int .i64 b.2] 67)
          have f0b := (hbb.block _ (lt_of_block f0a)).trans f0a
          have hab := (hbb.block _ (lt_of_block ha)).trans ha
          clear c0 c1 c2 c3 c4 c5 k0 k1
          obtain ⟨c0, c1, c2, c3, c4, c5⟩ := box6 f0b
          obtain ⟨k0, k1⟩ := box2 hab
          have hlb := (hla.below hbb).more hbb.size
          gi_wp2
          cases hX : stepS W tt a d2 with
          | none =>
            have hE : eightF W tt (c, k) = none := eightF_no hq4 (by unfold eightD; rw [hA, hd2, hB]; simp only; rw [hX])
            refine ⟨trivial, (callsIn_wide.2 (wstep_none X Z D F cap hW hn hIA hd4 hX wb hlb)).mono ?_⟩
            rintro en w5 ⟨⟨i3, j3, rfl⟩, hb5⟩
            obtain ⟨wc, ec, hbc, hc, hs5, hzc⟩ := after_call hb5 (.cells #[.int .i64 i3, .int .i64 j3] 67)
            have f0c := (hbc.block _ (lt_of_block f0b)).trans f0b
            have hbc2 := (hbc.block _ (lt_of_block hb)).trans hb
            clear c0 c1 c2 c3 c4 c5 k0 k1
            obtain ⟨c0, c1, c2, c3, c4, c5⟩ := box6 f0c
            obtain ⟨k0, k1⟩ := box2 hbc2
            have hlc := (hlb.below hbc).more hbc.size
            gi_wp2
            refine ⟨trivial, (callsIn_wide.2 (wstep_gen X Z D F cap hW hn hIB hq4 wc hlc)).mono ?_⟩
            rintro en w6 ⟨⟨i4, j4, t4, rfl⟩, hb6⟩
            gi_wp2
            go_ret2
            rw [← hEE, hE]
            exact ⟨rfl, bb.trans ((hlow.trans ((hba.trans ((hbb.trans ((hbc.trans ((hb6.alloc hb6.size _).mono hbc.size)).mono hbb.size)).mono hba.size)).mono hcs)).mono bb.size)⟩
          | some x =>
            refine ⟨trivial, (callsIn_wide.2 (wstep_some X Z D F cap hW hn hi hIA hd4 hX wb hlb)).mono ?_⟩
            rintro en w5 ⟨rfl, hb5⟩
            obtain ⟨wc, ec, hbc, hc, hs5, hzc⟩ := after_call hb5 (.cells #[.int .i64 x.1, .int .i64 x.2] 67)
            have f0c := (hbc.block _ (lt_of_block f0b)).trans f0b
            have hbc2 := (hbc.block _ (lt_of_block hb)).trans hb
            have hac := (hbc.block _ (lt_of_block hab)).trans hab
            clear c0 c1 c2 c3 c4 c5 k0 k1
            obtain ⟨c0, c1, c2, c3, c4, c5⟩ := box6 f0c
            obtain ⟨k0, k1⟩ := box2 hbc2
            have hlc := (hlb.below hbc).more hbc.size
            gi_wp2
            cases hY : stepS W tt b q with
            | none =>
              have hE : eightF W tt (c, k) = none := eightF_no hq4 (by unfold eightD; rw [hA, hd2, hB]; simp only; rw [hX, hY])
              refine ⟨trivial, (callsIn_wide.2 (wstep_none X Z D F cap hW hn hIB hq4 hY wc hlc)).mono ?_⟩
              rintro en w6 ⟨⟨i4, j4, rfl⟩, hb6⟩
              gi_wp2
              go_ret2
              rw [← hEE, hE]
              exact ⟨rfl, bb.trans ((hlow.trans ((hba.trans ((hbb.trans ((hbc.trans ((hb6.alloc hb6.size _).mono hbc.size)).mono hbb.size)).mono hba.size)).mono hcs)).mono bb.size)⟩
            | some y =>
              refine ⟨trivial, (callsIn_wide.2 (wstep_some X Z D F cap hW hn hi hIB hq4 hY wc hlc)).mono ?_⟩
              rintro en w6 ⟨rfl, hb6⟩
              obtain ⟨wd, ed, hbd, hd, hs6, hzd⟩ := after_call hb6 (.cells #[.int .i64 y.1, .int .i64 y.2] 67)
              have hcd := (hbd.block _ (lt_of_block hc)).trans hc
              have had := (hbd.block _ (lt_of_block hac)).trans hac
              clear c0 c1 c2 c3 c4 c5 k0 k1
              obtain ⟨c0, c1⟩ := box2 hcd
              obtain ⟨c2, c3⟩ := box2 hd
              obtain ⟨c4, c5⟩ := box2 had
              have hwd : Below wr.heap.size wr wd := hba.trans ((hbb.trans ((hbc.trans (hbd.mono hbc.size)).mono hbb.size)).mono hba.size)
              by_cases hxy : x = y
              · subst hxy
                have hD : eightD W tt (c, k) q = some [a, x] := by unfold eightD; rw [hA, hd2, hB]; simp only; rw [hX, hY]; simp
                have hrowd := own_below hrow hwd
                have hl2l := eightN_len hN
                obtain ⟨i0, hii, hz0, hz1, hz2⟩ := info_parts infoS
                clear hza hzb hzc hzd hlr hla hlb hlc f0 f0a f0b f0c f1 f1a b0 b1 ea eb ec ha hab hac had hb hbc2 hc hcd hd
                gi_wp2_with (gi_at_builtin; go_loud (refine wpListIn_append_own_at _ rfl (.tmp 67) (.tmp 70) 68 rfl W2.heap.size 67 i0 _ 2 16 Try.underlying68 hii hz0 hz1 hz2 (by decide) (by decide) u4 l.length (spcs l) rfl (hrowd.alloc _) ⟨wd.heap.size, 0, none⟩ 2 2 (spcs [a, x]) rfl rfl (sp2_new _ _ _ _) (sp2_one _ _) (by unfold maxLen; omega) (by omega) (by simp; have := hwd.size; omega) ?_; intro v8 w8 hown8 hg8 hnil8 hloc8))
                go_roundw
                case rel => exact ⟨q + 1, l ++ [a, x], by go_num, by omega, by rw [eightN, hN, hD], by rw [spcs_append, List.length_append]; exact hown8, ((hlow.trans (hwd.mono hcs)).alloc (Nat.le_trans hcs hwd.size) _).grown hg8 (by simp; have := hwd.size; omega) (fun k e => (hrow.lt k e).1)⟩
                case measure => simp [intOf]; omega
              · have hE : eightF W tt (c, k) = none := eightF_no hq4 (by unfold eightD; rw [hA, hd2, hB]; simp only; rw [hX, hY]; simp only; rw [if_neg hxy])
                by_cases h1 : x.1 = y.1
                · have h2 : ¬ x.2 = y.2 := fun h2 => hxy (Prod.ext h1 h2)
                  have h3 : ¬ (x.2 : Int) = y.2 := by omega
                  rw [h1] at c0
                  gi_wp2
                  go_ret2
                  rw [← hEE, hE]
                  exact ⟨rfl, bb.trans ((hlow.trans (hwd.mono hcs)).mono bb.size)⟩
                · have h3 : ¬ (x.1 : Int) = y.1 := by omega
                  gi_wp2
                  go_ret2
                  rw [← hEE, hE]
                  exact ⟨rfl, bb.trans ((hlow.trans (hwd.mono hcs)).mono bb.size)⟩
    · obtain rfl : q = 4 := by omega
      gi_wp2
      go_ret2
      rw [← hEE, show eightF W tt (c, k) = some l from hN]
      exact ⟨⟨_, rfl, own_base hrow bb.size⟩, bb.trans (hlow.mono bb.size)⟩
end Go.Proofs.Ytcdfojfafnecdaa
