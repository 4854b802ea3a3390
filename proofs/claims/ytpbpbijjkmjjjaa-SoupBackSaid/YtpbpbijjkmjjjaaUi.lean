/- The lists of the soup: the place of an id in a rising row (slices.BinarySearchFunc), by walks. No conditions but those named. -/
import Derived.Test.YtpbpbijjkmjjjaaUh
set_option linter.unusedSimpArgs false
set_option linter.unusedVariables false
namespace Go.Proofs.Ytpbpbijjkmjjjaa
open Go Go.RowKit Go.Sx
attribute [local go_sem] Oper.semAt_some
def Small (x : Int) : Prop := 0 ≤ x ∧ x ≤ 1073741824
set_option maxHeartbeats 4000000 in
set_option maxRecDepth 100000 in
theorem cmp_any (t : T10) (i : Int) (bl : Nat) (w : World) (hL : w.cell? ⟨bl, 0, none⟩ = some (.func (.func 41) #[] #[])) (lb : bl < w.heap.size) (h1 : Small t.id) (h2 : Small i) :
    Calls Try.prog 47 #[t.v, .int .i64 i, .pointer (some ⟨bl, 0, none⟩)] w fun en w' => en = .returned (.int .i64 (t.id - i)) ∧ Below w.heap.size w w' := by
  obtain ⟨id, x0, y0, z0, x1, y1, z1, x2, y2, z2⟩ := t
  obtain ⟨u1, eu1, bu1, ku1⟩ := alloc_step w (.cells #[.int .i64 id, .int .i64 x0, .int .i64 y0, .int .i64 z0, .int .i64 x1, .int .i64 y1, .int .i64 z1, .int .i64 x2, .int .i64 y2, .int .i64 z2] 33)
  obtain ⟨c0, c1, c2, c3, c4, c5, c6, c7, c8, c9⟩ := box10 ku1
  have hL1 := (bu1.cell lb).trans hL
  have hid := fun w => idTri_any ⟨id, x0, y0, z0, x1, y1, z1, x2, y2, z2⟩ w
  have hw : IntKind.i64.wrap (id - i) = id - i := by unfold Small at h1 h2; simp only at h1; rw [IntKind.wrap_i64]; omega
  unfold T10.v at hid
  unfold T10.v
  clear h1 h2
  refine (callsIn_wide (n := 6)).1 ?_
  refine callsIn_of_wp Try.func47 rfl trivial ?_
  simp only [Try.ntmps47, List.size_toArray, List.length_cons, List.length_nil, Nat.reduceAdd, Nat.reduceSub, Array.replicate_succ, Array.replicate_zero, List.push_toArray, List.append_toArray, List.nil_append, List.cons_append]
  gi_wp2
  refine ⟨trivial, (callsIn_wide.2 (hid _)).mono ?_⟩
  rintro en w3 ⟨rfl, hb3⟩
  gi_wp2
  go_ret
  exact ⟨rfl, bu1.trans (hb3.mono bu1.size)⟩
/-- The place of an id in a row. -/
def PlaceAt (l : List T10) (i : Int) (k : Nat) : Prop := k ≤ l.length ∧ (∀ m (hm : m < l.length), m < k → l[m].id < i) ∧ (∀ m (hm : m < l.length), k ≤ m → i ≤ l[m].id)
set_option maxHeartbeats 4000000 in
set_option maxRecDepth 100000 in
theorem search_any (i : Int) (bl : Nat) (r : List T10) (A : Option Addr) (cap : Nat) (w : World) (hL : w.cell? ⟨bl, 0, none⟩ = some (.func (.func 41) #[] #[])) (lb : bl < w.heap.size) (hi : Small i)
    (hr : Reads w w.heap.size 10 A r.length (fl T10.cs r)) (hl : r.length ≤ 1000) (hs : ∀ x ∈ r, Small x.id) (hup : ∀ a b (hb : b < r.length) (hab : a < b), (r[a]'(by omega)).id < r[b].id) :
    Calls Try.prog 46 #[.slice A r.length cap, .int .i64 i, .func (.func 47) #[] #[.pointer (some ⟨bl, 0, none⟩)]] w fun en w' =>
      (∃ (k : Nat) (there : Bool), en = .returned (.tuple #[.int .i64 k, .bool there]) ∧ PlaceAt r i k ∧ (there = true ↔ ∃ x ∈ r, x.id = i)) ∧ Below w.heap.size w w' := by
  have hf := fun (t : T10) (W : World) (h : Below w.heap.size w W) (ht : Small t.id) => cmp_any t i bl W ((h.cell lb).trans hL) (Nat.lt_of_lt_of_le lb h.size) ht hi
  clear hL
  refine (callsIn_wide (n := 6)).1 ?_
  refine callsIn_of_wp Try.func46 rfl trivial ?_
  simp only [Try.ntmps46, List.size_toArray, List.length_cons, List.length_nil, Nat.reduceAdd, Nat.reduceSub, Array.replicate_succ, Array.replicate_zero, List.push_toArray, List.append_toArray, List.nil_append, List.cons_append]
  gi_wp2
  gi_loopw [9, 10] (fun x y wr => ∃ a b : Nat, x = .int .i64 a ∧ y = .int .i64 b ∧ a ≤ b ∧ b ≤ r.length ∧ Hid (∀ m (hm : m < r.length), m < a → r[m].id < i) ∧ Hid (∀ m (hm : m < r.length), b ≤ m → i ≤ r[m].id) ∧ Below w.heap.size w wr) (fun x y _ => (intOf y).toNat - (intOf x).toNat)
  case atStart => exact ⟨0, r.length, rfl, rfl, Nat.zero_le _, Nat.le_refl _, Lib.hid (fun m _ h => absurd h (Nat.not_lt_zero _)), Lib.hid (fun m hm h => absurd hm (by omega)), Below.refl _ _⟩
  case round =>
    obtain ⟨a, b, rfl, rfl, hab, hbn, hlo, hhi, hlow⟩ := hrel
    by_cases hlt : a < b
    · have hlt' : (a : Int) < (b : Int) := by omega
      obtain ⟨h, hh⟩ : ∃ h, (a + b) / 2 = h := ⟨_, rfl⟩
      have hhn : h < r.length := by omega
      have hhn' : (h : Int) < (r.length : Int) := by omega
      obtain ⟨ad, rfl, hba, c0, c1, c2, c3, c4, c5, c6, c7, c8, c9⟩ := T10.at_ (hr.below hlow) rfl hhn
      generalize hPa : ad.add (h * 10) = Pa at hba c0 c1 c2 c3 c4 c5 c6 c7 c8 c9
      obtain ⟨t, ht⟩ : ∃ t, t = r[h] := ⟨_, rfl⟩
      rw [← ht] at c0 c1 c2 c3 c4 c5 c6 c7 c8 c9
      have hsm : Small t.id := by rw [ht]; exact hs _ (List.getElem_mem hhn)
      have hf1 := hf t wr hlow hsm
      replace ht := Lib.hid ht
      have hwh : IntKind.i64.wrap (((a : Int) + (b : Int)) / 2 + 1) = ((h + 1 : Nat) : Int) := by rw [IntKind.wrap_i64]; omega
      have hhh : ((a : Int) + (b : Int)) / 2 = (h : Int) := by omega
      gi_wp2
      refine ⟨trivial, (callsIn_wide.2 hf1).mono ?_⟩
      rintro en w3 ⟨rfl, hb3⟩
      by_cases hc : t.id < i
      · have hc' : t.id - i < 0 := by omega
        have hlo' : Hid (∀ m (hm : m < r.length), m < h + 1 → r[m].id < i) := Lib.hid (fun m hm hmh => by
          rcases Nat.lt_succ_iff_lt_or_eq.1 hmh with h1 | h1
          · exact Int.lt_trans (hup m h hhn h1) (by rw [← ht.out]; exact hc)
          · subst h1
            rw [← ht.out]
            exact hc)
        clear hc
        gi_wp2
        go_roundw
        case rel => exact ⟨h + 1, b, by go_num, rfl, by omega, hbn, hlo', hhi, hlow.trans (hb3.mono hlow.size)⟩
        case measure => simp [intOf]; omega
      · have hc' : ¬ (t.id - i < 0) := by omega
        have hhi' : Hid (∀ m (hm : m < r.length), h ≤ m → i ≤ r[m].id) := Lib.hid (fun m hm hmh => by
          rcases Nat.lt_or_eq_of_le hmh with h1 | h1
          · exact Int.le_trans (by rw [ht.out] at hc; omega) (Int.le_of_lt (hup h m hm h1))
          · subst h1
            rw [← ht.out]
            omega)
        clear hc
        gi_wp2
        go_roundw
        case rel => exact ⟨a, h, rfl, by go_num, by omega, by omega, hlo, hhi', hlow.trans (hb3.mono hlow.size)⟩
        case measure => simp [intOf]; omega
    · obtain rfl : a = b := by omega
      by_cases han : a < r.length
      · have han' : (a : Int) < (r.length : Int) := by omega
        obtain ⟨ad, rfl, hba, c0, c1, c2, c3, c4, c5, c6, c7, c8, c9⟩ := T10.at_ (hr.below hlow) rfl han
        generalize hPa : ad.add (a * 10) = Pa at hba c0 c1 c2 c3 c4 c5 c6 c7 c8 c9
        obtain ⟨t, ht⟩ : ∃ t, t = r[a] := ⟨_, rfl⟩
        rw [← ht] at c0 c1 c2 c3 c4 c5 c6 c7 c8 c9
        have hsm : Small t.id := by rw [ht]; exact hs _ (List.getElem_mem han)
        have hf1 := hf t wr hlow hsm
        replace ht := Lib.hid ht
        gi_wp2
        refine ⟨trivial, (callsIn_wide.2 hf1).mono ?_⟩
        rintro en w3 ⟨rfl, hb3⟩
        have hpl : Hid (PlaceAt r i a) := Lib.hid ⟨Nat.le_of_lt han, hlo.out, hhi.out⟩
        by_cases hc : t.id = i
        · have hth : Hid (∃ x ∈ r, x.id = i) := Lib.hid ⟨r[a], List.getElem_mem han, by rw [← ht.out]; exact hc⟩
          have hc' : t.id - i = 0 := by omega
          clear hc
          gi_wp2
          go_ret2
          exact ⟨⟨a, true, rfl, hpl.out, ⟨fun _ => hth.out, fun _ => rfl⟩⟩, hlow.trans (hb3.mono hlow.size)⟩
        · have hth : Hid (¬ ∃ x ∈ r, x.id = i) := Lib.hid (by
            rintro ⟨x, hx, e⟩
            obtain ⟨m, hm, em⟩ := List.mem_iff_getElem.1 hx
            rcases Nat.lt_trichotomy m a with h1 | h1 | h1
            · have := hlo.out m hm h1
              rw [em] at this
              omega
            · subst h1
              rw [← ht.out] at em
              rw [em] at hc
              exact hc e
            · have h2 := hhi.out a han (Nat.le_refl _)
              have h3 := hup a m hm h1
              rw [em] at h3
              omega)
          have hc' : (t.id - i == 0) = false := by simp; omega
          clear hc
          gi_wp2
          go_ret2
          exact ⟨⟨a, false, rfl, hpl.out, ⟨fun h => (by cases h), fun h => absurd h hth.out⟩⟩, hlow.trans (hb3.mono hlow.size)⟩
      · obtain rfl : a = r.length := by omega
        have hpl : Hid (PlaceAt r i r.length) := Lib.hid ⟨Nat.le_refl _, hlo.out, hhi.out⟩
        have hth : Hid (¬ ∃ x ∈ r, x.id = i) := Lib.hid (by
          rintro ⟨x, hx, e⟩
          obtain ⟨m, hm, em⟩ := List.mem_iff_getElem.1 hx
          have := hlo.out m hm hm
          rw [em] at this
          omega)
        gi_wp2_with (refine wpListIn_off rfl ?_)
        go_ret2
        exact ⟨⟨_, false, rfl, hpl.out, ⟨fun h => (by cases h), fun h => absurd h hth.out⟩⟩, hlow⟩
end Go.Proofs.Ytpbpbijjkmjjjaa
