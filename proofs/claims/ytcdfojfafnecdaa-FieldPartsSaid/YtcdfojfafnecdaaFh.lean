/- field.Build's closure edge, by walks: whether one of a floor's eight is known. No conditions but that the maps lie where they are said to lie. -/
import Derived.Test.YtcdfojfafnecdaaFg
namespace Go.Mp
open Go Go.MapKept
section
variable {κ : Type} [DecidableEq κ] {kv : κ → Value}
theorem look_upd (m : List (κ × Value)) (k : κ) (v : Value) (k' : κ) : lookM (updM m k v) k' = if k' = k then some v else lookM m k' := by
  induction m with
  | nil =>
    simp only [updM, lookM]
    by_cases h : k' = k
    · rw [if_pos h, if_pos h.symm]
    · rw [if_neg h, if_neg (fun e => h e.symm)]
  | cons p m ih =>
    obtain ⟨a, u⟩ := p
    simp only [updM]
    by_cases ha : a = k
    · rw [if_pos ha]
      simp only [lookM]
      by_cases h : k' = k
      · rw [if_pos h, if_pos h.symm]
      · rw [if_neg h, if_neg (fun e => h e.symm), if_neg (fun e => h (by rw [← e, ha]))]
    · rw [if_neg ha]
      simp only [lookM]
      by_cases h : a = k'
      · rw [if_pos h, if_pos h, if_neg (fun e => ha (by rw [h, e]))]
      · rw [if_neg h, if_neg h, ih]
theorem look_mem {m : List (κ × Value)} {k : κ} {v : Value} (h : lookM m k = some v) : (k, v) ∈ m := by
  induction m with
  | nil => cases h
  | cons p m ih =>
    obtain ⟨a, u⟩ := p
    simp only [lookM] at h
    by_cases ha : a = k
    · rw [if_pos ha] at h
      injection h with h
      subst ha; subst h
      simp
    · rw [if_neg ha] at h
      exact List.mem_cons_of_mem _ (ih h)
theorem mem_look {m : List (κ × Value)} (hn : (m.map (·.1)).Nodup) {k : κ} {v : Value} (h : (k, v) ∈ m) : lookM m k = some v := by
  induction m with
  | nil => cases h
  | cons p m ih =>
    obtain ⟨a, u⟩ := p
    simp only [List.map_cons, List.nodup_cons] at hn
    simp only [lookM]
    rcases List.mem_cons.1 h with h | h
    · injection h with h1 h2
      subst h1; subst h2
      rw [if_pos rfl]
    · rw [if_neg (fun e => hn.1 (List.mem_map.2 ⟨(k, v), h, e.symm⟩))]
      exact ih hn.2 h
end
end Go.Mp
namespace Go.Proofs.Ytcdfojfafnecdaa
open Go Go.RowKit Go.Sx Go.Mp
attribute [local go_sem] Oper.semAt_some
theorem zeroI (w : World) : (zeroValue 3).run Try.prog w = .ok (.int .i64 0) w := by kernel_rfl
theorem zeroS (w : World) : (zeroValue 68).run Try.prog w = .ok (.slice none 0 0) w := by kernel_rfl
theorem look_near {w : World} {bm : Nat} {m : List ((Nat × Nat) × Value)} (h : MapAt spv w bm m) (k : Nat × Nat) (z : Value) (b : Bool) (hz : (lookM m k).getD (.int .i64 0) = z) (hb : (lookM m k).isSome = b) :
    (Instr.lookup 64 (.map (some bm)) (.agg #[.int .i64 k.1, .int .i64 k.2]) true).run Try.prog w = .ok (.tuple #[z, .bool b]) w := by
  have := h.look spot_keys Try.underlying64 zeroI k true
  rw [← hz, ← hb]
  exact this
theorem look_around {w : World} {bm : Nat} {m : List ((Nat × Nat) × Value)} (h : MapAt spv w bm m) (k : Nat × Nat) (v : Value) (hv : (lookM m k).getD (.slice none 0 0) = v) :
    (Instr.lookup 65 (.map (some bm)) (.agg #[.int .i64 k.1, .int .i64 k.2]) false).run Try.prog w = .ok v w := by
  have := h.look spot_keys Try.underlying65 zeroS k false
  rw [← hv]
  exact this
/-- The map of what is known, in its box. -/
def NearAt (w : World) (T M : Nat) (m : List ((Nat × Nat) × Value)) : Prop := w.cell? ⟨T, 0, none⟩ = some (.map (some M)) ∧ MapAt spv w M m ∧ T < w.heap.size
theorem NearAt.below {w w' : World} {T M : Nat} {m : List ((Nat × Nat) × Value)} (h : NearAt w T M m) (hb : Below w.heap.size w w') : NearAt w' T M m :=
  ⟨(hb.cell h.2.2).trans h.1, h.2.1.of_block (hb.block _ h.2.1.lt), Nat.lt_of_lt_of_le h.2.2 hb.size⟩
set_option maxHeartbeats 1000000 in
set_option maxRecDepth 100000 in
theorem known_any (T M : Nat) (m : List ((Nat × Nat) × Value)) (t : Nat × Nat) (w : World) (h : NearAt w T M m) :
    Calls Try.prog 31 #[.agg #[.int .i64 t.1, .int .i64 t.2], .pointer (some ⟨T, 0, none⟩)] w fun en w' => en = .returned (.bool (lookM m t).isSome) ∧ Below w.heap.size w w' := by
  obtain ⟨b, hb⟩ : ∃ b, (lookM m t).isSome = b := ⟨_, rfl⟩
  obtain ⟨z, hz⟩ : ∃ z, (lookM m t).getD (.int .i64 0) = z := ⟨_, rfl⟩
  have hba : Below w.heap.size w (w.alloc (.cells #[.int .i64 t.1, .int .i64 t.2] 67)) := (Below.refl _ _).alloc (Nat.le_refl _) _
  obtain ⟨n1, n2, n3⟩ := h.below hba
  have hl := look_near n2 t z b hz hb
  rw [hb]
  refine (callsIn_wide (n := 6)).1 ?_
  refine callsIn_of_wp Try.func31 rfl trivial ?_
  simp only [Try.ntmps31, List.size_toArray, List.length_cons, List.length_nil, Nat.reduceAdd, Nat.reduceSub, Array.replicate_succ, Array.replicate_zero, List.push_toArray, List.append_toArray, List.nil_append, List.cons_append]
  gi_wp2
  go_ret
  exact ⟨rfl, hba⟩
/-- A row of spots. -/
theorem spot_at {w : World} {B : Nat} {A : Option Addr} {l : List (Nat × Nat)} (h : Reads w B 2 A l.length (spcs l)) {j : Nat} (hj : j < l.length) :
    ∃ ad, A = some ad ∧ (ad.add (j * 2)).block < B ∧ w.cell? (ad.add (j * 2)) = some (.int .i64 l[j].1) ∧ w.cell? ⟨(ad.add (j * 2)).block, (ad.add (j * 2)).off + 1, none⟩ = some (.int .i64 l[j].2) := by
  obtain ⟨ad, rfl, hb, hc⟩ := h.2 (by omega)
  obtain ⟨g0, g1⟩ := spcs_get l j hj
  refine ⟨ad, rfl, by rw [block_of_add]; exact hb, hc _ _ g0, ?_⟩
  have := hc _ _ g1
  rw [← add_of_add] at this
  exact this
/-- The first of a row of which p is so; -1: none. -/
def ixOf (p : Nat × Nat → Bool) : List (Nat × Nat) → Nat → Int
  | [], _ => -1
  | t :: l, i => if p t then i else ixOf p l (i + 1)
theorem ixOf_any (p : Nat × Nat → Bool) : ∀ (l : List (Nat × Nat)) (i : Nat), decide (0 ≤ ixOf p l i) = l.any p
  | [], i => rfl
  | t :: l, i => by
    unfold ixOf
    rw [List.any_cons]
    by_cases h : p t = true
    · rw [if_pos h, h]
      simp
    · rw [if_neg h, ixOf_any p l (i + 1)]
      simp [h]
set_option maxHeartbeats 1000000 in
set_option maxRecDepth 100000 in
theorem spix_any (T M : Nat) (m : List ((Nat × Nat) × Value)) (l : List (Nat × Nat)) (A : Option Addr) (cap : Nat) (w : World) (h : NearAt w T M m) (hr : Reads w w.heap.size 2 A l.length (spcs l)) (hl : l.length ≤ 100) :
    Calls Try.prog 42 #[.slice A l.length cap, .func (.func 31) #[] #[.pointer (some ⟨T, 0, none⟩)]] w fun en w' => en = .returned (.int .i64 (ixOf (fun t => (lookM m t).isSome) l 0)) ∧ Below w.heap.size w w' := by
  obtain ⟨res, hres⟩ : ∃ res, ixOf (fun t => (lookM m t).isSome) l 0 = res := ⟨_, rfl⟩
  rw [hres]
  refine (callsIn_wide (n := 6)).1 ?_
  refine callsIn_of_wp Try.func42 rfl trivial ?_
  simp only [Try.ntmps42, List.size_toArray, List.length_cons, List.length_nil, Nat.reduceAdd, Nat.reduceSub, Array.replicate_succ, Array.replicate_zero, List.push_toArray, List.append_toArray, List.nil_append, List.cons_append]
  gi_wp2
  gi_loopw [8] (fun x wr => ∃ i : Nat, x = .int .i64 i ∧ i ≤ l.length ∧ ixOf (fun t => (lookM m t).isSome) (l.drop i) i = res ∧ Below w.heap.size w wr) (fun x _ => l.length - (intOf x).toNat)
  case atStart => exact ⟨0, rfl, Nat.zero_le _, hres, Below.refl _ _⟩
  case round =>
    obtain ⟨i, rfl, hi, hix, hb⟩ := hrel
    by_cases hin : i < l.length
    · have hin' : (i : Int) < (l.length : Int) := by omega
      obtain ⟨ad, rfl, hbl, y0, y1⟩ := spot_at (hr.below hb) hin
      generalize hP : ad.add (i * 2) = P at hbl y0 y1
      have hk := known_any T M m l[i] wr (h.below hb)
      rw [List.drop_eq_getElem_cons hin] at hix
      unfold ixOf at hix
      have hwi : IntKind.i64.wrap ((i : Int) + 1) = ((i + 1 : Nat) : Int) := by rw [IntKind.wrap_i64]; omega
      cases hbb : (lookM m l[i]).isSome with
      | true =>
        rw [hbb, if_pos rfl] at hix
        rw [hbb] at hk
        subst hix
        gi_wp2_with (refine ⟨trivial, ?_⟩; gi_at_call 31; refine (callsIn_wide.2 hk).mono ?_; rintro en w3 ⟨rfl, hb3⟩)
        go_ret
        exact ⟨rfl, hb.trans (hb3.mono hb.size)⟩
      | false =>
        rw [hbb, if_neg (by decide)] at hix
        rw [hbb] at hk
        gi_wp2_with (refine ⟨trivial, ?_⟩; gi_at_call 31; refine (callsIn_wide.2 hk).mono ?_; rintro en w3 ⟨rfl, hb3⟩)
        go_roundw
        case rel => exact ⟨i + 1, rfl, by omega, hix, hb.trans (hb3.mono hb.size)⟩
        case measure => simp [intOf]; omega
    · obtain rfl : i = l.length := by omega
      rw [List.drop_length] at hix
      unfold ixOf at hix
      subst hix
      gi_wp2
      go_ret
      exact ⟨rfl, hb⟩
set_option maxHeartbeats 1000000 in
set_option maxRecDepth 100000 in
theorem spcont_any (T M : Nat) (m : List ((Nat × Nat) × Value)) (l : List (Nat × Nat)) (A : Option Addr) (cap : Nat) (w : World) (h : NearAt w T M m) (hr : Reads w w.heap.size 2 A l.length (spcs l)) (hl : l.length ≤ 100) :
    Calls Try.prog 30 #[.slice A l.length cap, .func (.func 31) #[] #[.pointer (some ⟨T, 0, none⟩)]] w fun en w' => en = .returned (.bool (l.any fun t => (lookM m t).isSome)) ∧ Below w.heap.size w w' := by
  have hi := spix_any T M m l A cap w h hr hl
  have ha := ixOf_any (fun t => (lookM m t).isSome) l 0
  generalize ixOf (fun t => (lookM m t).isSome) l 0 = r at hi ha
  rw [← ha]
  clear ha
  refine (callsIn_wide (n := 6)).1 ?_
  refine callsIn_of_wp Try.func30 rfl trivial ?_
  simp only [Try.ntmps30, List.size_toArray, List.length_cons, List.length_nil, Nat.reduceAdd, Nat.reduceSub, Array.replicate_succ, Array.replicate_zero, List.push_toArray, List.append_toArray, List.nil_append, List.cons_append]
  gi_wp2_with (refine ⟨trivial, ?_⟩; gi_at_call 42; refine (callsIn_wide.2 hi).mono ?_; rintro en w3 ⟨rfl, hb3⟩)
  go_ret
  exact ⟨rfl, hb3⟩
set_option maxHeartbeats 1000000 in
set_option maxRecDepth 100000 in
theorem edge_any (T M T' M' : Nat) (m m' : List ((Nat × Nat) × Value)) (s : Nat × Nat) (l : List (Nat × Nat)) (A : Option Addr) (cap : Nat) (w : World) (h : NearAt w T M m) (h' : NearAt w T' M' m') (hs : lookM m' s = some (.slice A l.length cap)) (hr : Reads w w.heap.size 2 A l.length (spcs l)) (hl : l.length ≤ 100) :
    Calls Try.prog 29 #[.agg #[.int .i64 s.1, .int .i64 s.2], .pointer (some ⟨T', 0, none⟩), .pointer (some ⟨T, 0, none⟩)] w fun en w' => en = .returned (.bool (l.any fun t => (lookM m t).isSome)) ∧ Below w.heap.size w w' := by
  have hba : Below w.heap.size w (w.alloc (.cells #[.int .i64 s.1, .int .i64 s.2] 67)) := (Below.refl _ _).alloc (Nat.le_refl _) _
  obtain ⟨n1, n2, n3⟩ := h'.below hba
  have hk := look_around n2 s _ (by rw [hs]; first | done | rfl)
  have hc := spcont_any T M m l A cap _ (h.below hba) ((hr.below hba).more hba.size) hl
  clear n2
  generalize (l.any fun t => (lookM m t).isSome) = r at hc ⊢
  refine (callsIn_wide (n := 6)).1 ?_
  refine callsIn_of_wp Try.func29 rfl trivial ?_
  simp only [Try.ntmps29, List.size_toArray, List.length_cons, List.length_nil, Nat.reduceAdd, Nat.reduceSub, Array.replicate_succ, Array.replicate_zero, List.push_toArray, List.append_toArray, List.nil_append, List.cons_append]
  gi_wp2_with (refine ⟨trivial, ?_⟩; gi_at_call 30; refine (callsIn_wide.2 hc).mono ?_; rintro en w3 ⟨rfl, hb3⟩)
  go_ret
  exact ⟨rfl, hba.trans (hb3.mono hba.size)⟩
end Go.Proofs.Ytcdfojfafnecdaa
