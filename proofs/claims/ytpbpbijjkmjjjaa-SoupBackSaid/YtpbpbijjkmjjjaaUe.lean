/- The lists of the soup: may a row be; by walks. No conditions but that the rows lie where they are said to lie. -/
import Derived.Test.YtpbpbijjkmjjjaaUd
set_option linter.unusedSimpArgs false
set_option linter.unusedVariables false
namespace Go.Proofs.Ytpbpbijjkmjjjaa
open Go Go.RowKit Go.Sx
attribute [local go_sem] Oper.semAt_some
/-- May a row be? -/
def rowOk {α : Type} (id : α → Int) (p : α → Bool) (most : Int) (l : List α) : Bool := decide ((l.length : Int) ≤ most) && chk (oneF id p) id 0 l
theorem chk_no1 {α : Type} {p : α → Bool} {id : α → Int} {last : Int} {x : α} {l : List α} (h : p x = false) : chk p id last (x :: l) = false := by simp [chk, h]
theorem chk_no2 {α : Type} {p : α → Bool} {id : α → Int} {last : Int} {x : α} {l : List α} (h : id x ≤ last) : chk p id last (x :: l) = false := by
  have : ¬ last < id x := by omega
  simp [chk, this]
theorem chk_yes {α : Type} {p : α → Bool} {id : α → Int} {last : Int} {x : α} {l : List α} (h : p x = true) (h2 : last < id x) : chk p id last (x :: l) = chk p id (id x) l := by simp [chk, h, h2]
set_option maxHeartbeats 4000000 in
set_option maxRecDepth 100000 in
theorem checkTri_any (p : T10 → Bool) (a b : Value) (most bad : Int) (r : List T10) (A : Option Addr) (cap : Nat) (w : World) (hp : MayAt 42 #[a, b] T10.v p w) (hr : Reads w w.heap.size 10 A r.length (fl T10.cs r)) (hl : r.length ≤ 1000) :
    Calls Try.prog 38 #[listv 41 42 #[a, b] most bad, .slice A r.length cap] w fun en w' => en = .returned (.bool (rowOk T10.id p most r)) ∧ Below w.heap.size w w' := by
  obtain ⟨u1, eu1, bu1, ku1⟩ := alloc_step w (.cells #[.func (.func 41) #[] #[], .func (.func 42) #[] #[a, b], .int .i64 most, .int .i64 bad] 55)
  obtain ⟨l0, l1, l2, l3⟩ := box4 ku1
  have hone := fun (t : T10) (W : World) (h : Below w.heap.size w W) => oneTri_any p a b most bad t W (hp.below h)
  have hidt := fun (t : T10) (W : World) => idTri_any t W
  unfold listv at hone ⊢
  clear hp
  refine (callsIn_wide (n := 6)).1 ?_
  refine callsIn_of_wp Try.func38 rfl trivial ?_
  simp only [Try.ntmps38, List.size_toArray, List.length_cons, List.length_nil, Nat.reduceAdd, Nat.reduceSub, Array.replicate_succ, Array.replicate_zero, List.push_toArray, List.append_toArray, List.nil_append, List.cons_append]
  by_cases hm : most < (r.length : Int)
  · have ho : Hid (rowOk T10.id p most r = false) := Lib.hid (by
      have : ¬ (r.length : Int) ≤ most := by omega
      simp [rowOk, this])
    gi_wp2
    go_ret
    exact ⟨by rw [ho.out]; rfl, bu1⟩
  · have hm' : (r.length : Int) ≤ most := by omega
    have ho : Hid (rowOk T10.id p most r = chk (oneF T10.id p) T10.id 0 r) := Lib.hid (by simp [rowOk, hm'])
    clear hm
    gi_wp2
    gi_loopw [5, 15] (fun x5 x wr => ∃ (k : Nat) (last : Int), x = .int .i64 k ∧ x5 = .int .i64 last ∧ k ≤ r.length ∧ Hid (chk (oneF T10.id p) T10.id 0 r = chk (oneF T10.id p) T10.id last (r.drop k)) ∧ Below u1.heap.size u1 wr) (fun _ x _ => r.length - (intOf x).toNat)
    case atStart => exact ⟨0, 0, rfl, rfl, Nat.zero_le _, Lib.hid rfl, Below.refl _ _⟩
    case round =>
      clear l0 l1 l2 l3
      obtain ⟨k, last, rfl, rfl, hk, hch, hlow⟩ := hrel
      have hbw := bu1.trans (hlow.mono bu1.size)
      have m1 := (hlow.block _ (lt_of_block ku1)).trans ku1
      by_cases hkn : k < r.length
      · have hkn' : (k : Int) < (r.length : Int) := by omega
        have hwk : IntKind.i64.wrap ((k : Int) + 1) = (k : Int) + 1 := by rw [IntKind.wrap_i64]; omega
        have hd : r.drop k = r[k] :: r.drop (k + 1) := List.drop_eq_getElem_cons hkn
        obtain ⟨ad, rfl, hba, c0, c1, c2, c3, c4, c5, c6, c7, c8, c9⟩ := T10.at_ (hr.below hbw) rfl hkn
        generalize hPa : ad.add (k * 10) = Pa at hba c0 c1 c2 c3 c4 c5 c6 c7 c8 c9
        replace hch := Lib.hid (hch.out.trans (by rw [hd]))
        generalize r[k] = t at hch c0 c1 c2 c3 c4 c5 c6 c7 c8 c9
        obtain ⟨id, x0, y0, z0, x1, y1, z1, x2, y2, z2⟩ := t
        simp only at c0 c1 c2 c3 c4 c5 c6 c7 c8 c9
        obtain ⟨u2, eu2, bu2, ku2⟩ := alloc_step wr (.cells #[.int .i64 id, .int .i64 x0, .int .i64 y0, .int .i64 z0, .int .i64 x1, .int .i64 y1, .int .i64 z1, .int .i64 x2, .int .i64 y2, .int .i64 z2] 33)
        have hbw2 := hbw.trans (bu2.mono hbw.size)
        have n1 := (bu2.block _ (lt_of_block m1)).trans m1
        obtain ⟨l0, l1, l2, l3⟩ := box4 n1
        obtain ⟨d0, d1, d2, d3, d4, d5, d6, d7, d8, d9⟩ := box10 ku2
        have h1 := hone ⟨id, x0, y0, z0, x1, y1, z1, x2, y2, z2⟩ u2 hbw2
        have hid := hidt ⟨id, x0, y0, z0, x1, y1, z1, x2, y2, z2⟩
        unfold T10.v at h1 hid
        gi_wp2
        refine ⟨trivial, (callsIn_wide.2 h1).mono ?_⟩
        rintro en w3 ⟨rfl, hb3⟩
        have hbw3 := hbw2.trans (hb3.mono hbw2.size)
        clear l0 l1 l2 l3 c0 c1 c2 c3 c4 c5 c6 c7 c8 c9
        have o1 := (hb3.block _ (lt_of_block n1)).trans n1
        have o2 := (hb3.block _ (lt_of_block ku2)).trans ku2
        clear d0 d1 d2 d3 d4 d5 d6 d7 d8 d9
        obtain ⟨l0, l1, l2, l3⟩ := box4 o1
        obtain ⟨d0, d1, d2, d3, d4, d5, d6, d7, d8, d9⟩ := box10 o2
        cases hq : oneF T10.id p ⟨id, x0, y0, z0, x1, y1, z1, x2, y2, z2⟩ with
        | false =>
          have hov : Hid (rowOk T10.id p most r = false) := Lib.hid (by rw [ho.out, hch.out, chk_no1 hq])
          gi_wp2_with (refine wpListIn_off rfl ?_)
          go_ret
          exact ⟨by rw [hov.out]; rfl, hbw3⟩
        | true =>
          gi_wp2
          refine ⟨trivial, (callsIn_wide.2 (hid _)).mono ?_⟩
          rintro en w4 ⟨rfl, hb4⟩
          have hbw4 := hbw3.trans (hb4.mono hbw3.size)
          clear l0 l1 l2 l3 d0 d1 d2 d3 d4 d5 d6 d7 d8 d9
          have q1 := (hb4.block _ (lt_of_block o1)).trans o1
          have q2 := (hb4.block _ (lt_of_block o2)).trans o2
          obtain ⟨l0, l1, l2, l3⟩ := box4 q1
          obtain ⟨d0, d1, d2, d3, d4, d5, d6, d7, d8, d9⟩ := box10 q2
          by_cases hlt : id ≤ last
          · have hov : Hid (rowOk T10.id p most r = false) := Lib.hid (by rw [ho.out, hch.out, chk_no2 hlt])
            gi_wp2
            go_ret
            exact ⟨by rw [hov.out]; rfl, hbw4⟩
          · have hlt' : last < id := by omega
            replace hch := Lib.hid (hch.out.trans (chk_yes hq hlt'))
            clear hlt
            gi_wp2
            refine ⟨trivial, (callsIn_wide.2 (hid _)).mono ?_⟩
            rintro en w5 ⟨rfl, hb5⟩
            have hlow5 := hlow.trans (bu2.trans (hb3.trans ((hb4.trans (hb5.mono hb4.size)).mono hb3.size) |>.mono bu2.size) |>.mono hlow.size)
            gi_wp2
            go_roundw
            case rel => exact ⟨k + 1, id, by go_num, rfl, by omega, hch, hlow5⟩
            case measure => simp [intOf]; omega
      · obtain rfl : k = r.length := by omega
        have hov : Hid (rowOk T10.id p most r = true) := Lib.hid (by rw [ho.out, hch.out, List.drop_length]; rfl)
        gi_wp2
        go_ret
        exact ⟨by rw [hov.out]; rfl, hbw⟩
set_option maxHeartbeats 4000000 in
set_option maxRecDepth 100000 in
theorem checkBox_any (p : B8 → Bool) (a : Value) (most bad : Int) (r : List B8) (A : Option Addr) (cap : Nat) (w : World) (hp : MayAt 54 #[a] B8.v p w) (hr : Reads w w.heap.size 8 A r.length (fl B8.cs r)) (hl : r.length ≤ 1000) :
    Calls Try.prog 39 #[listv 53 54 #[a] most bad, .slice A r.length cap] w fun en w' => en = .returned (.bool (rowOk B8.id p most r)) ∧ Below w.heap.size w w' := by
  obtain ⟨u1, eu1, bu1, ku1⟩ := alloc_step w (.cells #[.func (.func 53) #[] #[], .func (.func 54) #[] #[a], .int .i64 most, .int .i64 bad] 70)
  obtain ⟨l0, l1, l2, l3⟩ := box4 ku1
  have hone := fun (t : B8) (W : World) (h : Below w.heap.size w W) => oneBox_any p a most bad t W (hp.below h)
  have hidt := fun (t : B8) (W : World) => idBox_any t W
  unfold listv at hone ⊢
  clear hp
  refine (callsIn_wide (n := 6)).1 ?_
  refine callsIn_of_wp Try.func39 rfl trivial ?_
  simp only [Try.ntmps39, List.size_toArray, List.length_cons, List.length_nil, Nat.reduceAdd, Nat.reduceSub, Array.replicate_succ, Array.replicate_zero, List.push_toArray, List.append_toArray, List.nil_append, List.cons_append]
  by_cases hm : most < (r.length : Int)
  · have ho : Hid (rowOk B8.id p most r = false) := Lib.hid (by
      have : ¬ (r.length : Int) ≤ most := by omega
      simp [rowOk, this])
    gi_wp2
    go_ret
    exact ⟨by rw [ho.out]; rfl, bu1⟩
  · have hm' : (r.length : Int) ≤ most := by omega
    have ho : Hid (rowOk B8.id p most r = chk (oneF B8.id p) B8.id 0 r) := Lib.hid (by simp [rowOk, hm'])
    clear hm
    gi_wp2
    gi_loopw [5, 15] (fun x5 x wr => ∃ (k : Nat) (last : Int), x = .int .i64 k ∧ x5 = .int .i64 last ∧ k ≤ r.length ∧ Hid (chk (oneF B8.id p) B8.id 0 r = chk (oneF B8.id p) B8.id last (r.drop k)) ∧ Below u1.heap.size u1 wr) (fun _ x _ => r.length - (intOf x).toNat)
    case atStart => exact ⟨0, 0, rfl, rfl, Nat.zero_le _, Lib.hid rfl, Below.refl _ _⟩
    case round =>
      clear l0 l1 l2 l3
      obtain ⟨k, last, rfl, rfl, hk, hch, hlow⟩ := hrel
      have hbw := bu1.trans (hlow.mono bu1.size)
      have m1 := (hlow.block _ (lt_of_block ku1)).trans ku1
      by_cases hkn : k < r.length
      · have hkn' : (k : Int) < (r.length : Int) := by omega
        have hwk : IntKind.i64.wrap ((k : Int) + 1) = (k : Int) + 1 := by rw [IntKind.wrap_i64]; omega
        have hd : r.drop k = r[k] :: r.drop (k + 1) := List.drop_eq_getElem_cons hkn
        obtain ⟨ad, rfl, hba, c0, c1, c2, c3, c4, c5, c6, c7⟩ := B8.at_ (hr.below hbw) rfl hkn
        generalize hPa : ad.add (k * 8) = Pa at hba c0 c1 c2 c3 c4 c5 c6 c7
        replace hch := Lib.hid (hch.out.trans (by rw [hd]))
        generalize r[k] = t at hch c0 c1 c2 c3 c4 c5 c6 c7
        obtain ⟨id, x0, z0, x1, z1, y0, y1, ar⟩ := t
        simp only at c0 c1 c2 c3 c4 c5 c6 c7
        obtain ⟨u2, eu2, bu2, ku2⟩ := alloc_step wr (.cells #[.int .i64 id, .int .i64 x0, .int .i64 z0, .int .i64 x1, .int .i64 z1, .int .i64 y0, .int .i64 y1, .int .i64 ar] 64)
        have hbw2 := hbw.trans (bu2.mono hbw.size)
        have n1 := (bu2.block _ (lt_of_block m1)).trans m1
        obtain ⟨l0, l1, l2, l3⟩ := box4 n1
        obtain ⟨d0, d1, d2, d3, d4, d5, d6, d7⟩ := box8 ku2
        have h1 := hone ⟨id, x0, z0, x1, z1, y0, y1, ar⟩ u2 hbw2
        have hid := hidt ⟨id, x0, z0, x1, z1, y0, y1, ar⟩
        unfold B8.v at h1 hid
        gi_wp2
        refine ⟨trivial, (callsIn_wide.2 h1).mono ?_⟩
        rintro en w3 ⟨rfl, hb3⟩
        have hbw3 := hbw2.trans (hb3.mono hbw2.size)
        clear l0 l1 l2 l3 c0 c1 c2 c3 c4 c5 c6 c7
        have o1 := (hb3.block _ (lt_of_block n1)).trans n1
        have o2 := (hb3.block _ (lt_of_block ku2)).trans ku2
        clear d0 d1 d2 d3 d4 d5 d6 d7
        obtain ⟨l0, l1, l2, l3⟩ := box4 o1
        obtain ⟨d0, d1, d2, d3, d4, d5, d6, d7⟩ := box8 o2
        cases hq : oneF B8.id p ⟨id, x0, z0, x1, z1, y0, y1, ar⟩ with
        | false =>
          have hov : Hid (rowOk B8.id p most r = false) := Lib.hid (by rw [ho.out, hch.out, chk_no1 hq])
          gi_wp2_with (refine wpListIn_off rfl ?_)
          go_ret
          exact ⟨by rw [hov.out]; rfl, hbw3⟩
        | true =>
          gi_wp2
          refine ⟨trivial, (callsIn_wide.2 (hid _)).mono ?_⟩
          rintro en w4 ⟨rfl, hb4⟩
          have hbw4 := hbw3.trans (hb4.mono hbw3.size)
          clear l0 l1 l2 l3 d0 d1 d2 d3 d4 d5 d6 d7
          have q1 := (hb4.block _ (lt_of_block o1)).trans o1
          have q2 := (hb4.block _ (lt_of_block o2)).trans o2
          obtain ⟨l0, l1, l2, l3⟩ := box4 q1
          obtain ⟨d0, d1, d2, d3, d4, d5, d6, d7⟩ := box8 q2
          by_cases hlt : id ≤ last
          · have hov : Hid (rowOk B8.id p most r = false) := Lib.hid (by rw [ho.out, hch.out, chk_no2 hlt])
            gi_wp2
            go_ret
            exact ⟨by rw [hov.out]; rfl, hbw4⟩
          · have hlt' : last < id := by omega
            replace hch := Lib.hid (hch.out.trans (chk_yes hq hlt'))
            clear hlt
            gi_wp2
            refine ⟨trivial, (callsIn_wide.2 (hid _)).mono ?_⟩
            rintro en w5 ⟨rfl, hb5⟩
            have hlow5 := hlow.trans (bu2.trans (hb3.trans ((hb4.trans (hb5.mono hb4.size)).mono hb3.size) |>.mono bu2.size) |>.mono hlow.size)
            gi_wp2
            go_roundw
            case rel => exact ⟨k + 1, id, by go_num, rfl, by omega, hch, hlow5⟩
            case measure => simp [intOf]; omega
      · obtain rfl : k = r.length := by omega
        have hov : Hid (rowOk B8.id p most r = true) := Lib.hid (by rw [ho.out, hch.out, List.drop_length]; rfl)
        gi_wp2
        go_ret
        exact ⟨by rw [hov.out]; rfl, hbw⟩
set_option maxHeartbeats 4000000 in
set_option maxRecDepth 100000 in
theorem checkHop_any (p : H10 → Bool) (a : Value) (most bad : Int) (r : List H10) (A : Option Addr) (cap : Nat) (w : World) (hp : MayAt 65 #[a] H10.v p w) (hr : Reads w w.heap.size 10 A r.length (fl H10.cs r)) (hl : r.length ≤ 1000) :
    Calls Try.prog 40 #[listv 64 65 #[a] most bad, .slice A r.length cap] w fun en w' => en = .returned (.bool (rowOk H10.id p most r)) ∧ Below w.heap.size w w' := by
  obtain ⟨u1, eu1, bu1, ku1⟩ := alloc_step w (.cells #[.func (.func 64) #[] #[], .func (.func 65) #[] #[a], .int .i64 most, .int .i64 bad] 84)
  obtain ⟨l0, l1, l2, l3⟩ := box4 ku1
  have hone := fun (t : H10) (W : World) (h : Below w.heap.size w W) => oneHop_any p a most bad t W (hp.below h)
  have hidt := fun (t : H10) (W : World) => idHop_any t W
  unfold listv at hone ⊢
  clear hp
  refine (callsIn_wide (n := 6)).1 ?_
  refine callsIn_of_wp Try.func40 rfl trivial ?_
  simp only [Try.ntmps40, List.size_toArray, List.length_cons, List.length_nil, Nat.reduceAdd, Nat.reduceSub, Array.replicate_succ, Array.replicate_zero, List.push_toArray, List.append_toArray, List.nil_append, List.cons_append]
  by_cases hm : most < (r.length : Int)
  · have ho : Hid (rowOk H10.id p most r = false) := Lib.hid (by
      have : ¬ (r.length : Int) ≤ most := by omega
      simp [rowOk, this])
    gi_wp2
    go_ret
    exact ⟨by rw [ho.out]; rfl, bu1⟩
  · have hm' : (r.length : Int) ≤ most := by omega
    have ho : Hid (rowOk H10.id p most r = chk (oneF H10.id p) H10.id 0 r) := Lib.hid (by simp [rowOk, hm'])
    clear hm
    gi_wp2
    gi_loopw [5, 15] (fun x5 x wr => ∃ (k : Nat) (last : Int), x = .int .i64 k ∧ x5 = .int .i64 last ∧ k ≤ r.length ∧ Hid (chk (oneF H10.id p) H10.id 0 r = chk (oneF H10.id p) H10.id last (r.drop k)) ∧ Below u1.heap.size u1 wr) (fun _ x _ => r.length - (intOf x).toNat)
    case atStart => exact ⟨0, 0, rfl, rfl, Nat.zero_le _, Lib.hid rfl, Below.refl _ _⟩
    case round =>
      clear l0 l1 l2 l3
      obtain ⟨k, last, rfl, rfl, hk, hch, hlow⟩ := hrel
      have hbw := bu1.trans (hlow.mono bu1.size)
      have m1 := (hlow.block _ (lt_of_block ku1)).trans ku1
      by_cases hkn : k < r.length
      · have hkn' : (k : Int) < (r.length : Int) := by omega
        have hwk : IntKind.i64.wrap ((k : Int) + 1) = (k : Int) + 1 := by rw [IntKind.wrap_i64]; omega
        have hd : r.drop k = r[k] :: r.drop (k + 1) := List.drop_eq_getElem_cons hkn
        obtain ⟨ad, rfl, hba, c0, c1, c2, c3, c4, c5, c6, c7, c8, c9⟩ := H10.at_ (hr.below hbw) rfl hkn
        generalize hPa : ad.add (k * 10) = Pa at hba c0 c1 c2 c3 c4 c5 c6 c7 c8 c9
        replace hch := Lib.hid (hch.out.trans (by rw [hd]))
        generalize r[k] = t at hch c0 c1 c2 c3 c4 c5 c6 c7 c8 c9
        obtain ⟨id, fx, fz, fy, tx, tz, ty, both, ar, co⟩ := t
        simp only at c0 c1 c2 c3 c4 c5 c6 c7 c8 c9
        obtain ⟨u2, eu2, bu2, ku2⟩ := alloc_step wr (.cells #[.int .i64 id, .int .i64 fx, .int .i64 fz, .int .i64 fy, .int .i64 tx, .int .i64 tz, .int .i64 ty, .bool both, .int .i64 ar, .int .i64 co] 78)
        have hbw2 := hbw.trans (bu2.mono hbw.size)
        have n1 := (bu2.block _ (lt_of_block m1)).trans m1
        obtain ⟨l0, l1, l2, l3⟩ := box4 n1
        obtain ⟨d0, d1, d2, d3, d4, d5, d6, d7, d8, d9⟩ := box10 ku2
        have h1 := hone ⟨id, fx, fz, fy, tx, tz, ty, both, ar, co⟩ u2 hbw2
        have hid := hidt ⟨id, fx, fz, fy, tx, tz, ty, both, ar, co⟩
        unfold H10.v at h1 hid
        gi_wp2
        refine ⟨trivial, (callsIn_wide.2 h1).mono ?_⟩
        rintro en w3 ⟨rfl, hb3⟩
        have hbw3 := hbw2.trans (hb3.mono hbw2.size)
        clear l0 l1 l2 l3 c0 c1 c2 c3 c4 c5 c6 c7 c8 c9
        have o1 := (hb3.block _ (lt_of_block n1)).trans n1
        have o2 := (hb3.block _ (lt_of_block ku2)).trans ku2
        clear d0 d1 d2 d3 d4 d5 d6 d7 d8 d9
        obtain ⟨l0, l1, l2, l3⟩ := box4 o1
        obtain ⟨d0, d1, d2, d3, d4, d5, d6, d7, d8, d9⟩ := box10 o2
        cases hq : oneF H10.id p ⟨id, fx, fz, fy, tx, tz, ty, both, ar, co⟩ with
        | false =>
          have hov : Hid (rowOk H10.id p most r = false) := Lib.hid (by rw [ho.out, hch.out, chk_no1 hq])
          gi_wp2_with (refine wpListIn_off rfl ?_)
          go_ret
          exact ⟨by rw [hov.out]; rfl, hbw3⟩
        | true =>
          gi_wp2
          refine ⟨trivial, (callsIn_wide.2 (hid _)).mono ?_⟩
          rintro en w4 ⟨rfl, hb4⟩
          have hbw4 := hbw3.trans (hb4.mono hbw3.size)
          clear l0 l1 l2 l3 d0 d1 d2 d3 d4 d5 d6 d7 d8 d9
          have q1 := (hb4.block _ (lt_of_block o1)).trans o1
          have q2 := (hb4.block _ (lt_of_block o2)).trans o2
          obtain ⟨l0, l1, l2, l3⟩ := box4 q1
          obtain ⟨d0, d1, d2, d3, d4, d5, d6, d7, d8, d9⟩ := box10 q2
          by_cases hlt : id ≤ last
          · have hov : Hid (rowOk H10.id p most r = false) := Lib.hid (by rw [ho.out, hch.out, chk_no2 hlt])
            gi_wp2
            go_ret
            exact ⟨by rw [hov.out]; rfl, hbw4⟩
          · have hlt' : last < id := by omega
            replace hch := Lib.hid (hch.out.trans (chk_yes hq hlt'))
            clear hlt
            gi_wp2
            refine ⟨trivial, (callsIn_wide.2 (hid _)).mono ?_⟩
            rintro en w5 ⟨rfl, hb5⟩
            have hlow5 := hlow.trans (bu2.trans (hb3.trans ((hb4.trans (hb5.mono hb4.size)).mono hb3.size) |>.mono bu2.size) |>.mono hlow.size)
            gi_wp2
            go_roundw
            case rel => exact ⟨k + 1, id, by go_num, rfl, by omega, hch, hlow5⟩
            case measure => simp [intOf]; omega
      · obtain rfl : k = r.length := by omega
        have hov : Hid (rowOk H10.id p most r = true) := Lib.hid (by rw [ho.out, hch.out, List.drop_length]; rfl)
        gi_wp2
        go_ret
        exact ⟨by rw [hov.out]; rfl, hbw⟩
end Go.Proofs.Ytpbpbijjkmjjjaa
