/- area.last, area.Of by walks: the area of the last box that is so. No conditions but that the boxes lie where they are said to lie. -/
import Derived.Test.YtbjbiimkhpfieaaAh
namespace Go.Proofs.Ytbjbiimkhpfieaa
open Go Go.RowKit Go.Sx
def zero8 : B8 := ⟨0, 0, 0, 0, 0, 0, 0, 0⟩
def LastRet (en : Ending) : Option B8 → Prop
  | none => en = .returned (.tuple #[.agg zero8.cs.toArray, .bool false])
  | some b => en = .returned (.tuple #[.agg b.cs.toArray, .bool true])
theorem step_no {x z y : Int} {o : Option B8} {b : B8} (h : inB b x z y = false) : lastStep x z y o b = o := by
  unfold lastStep; rw [h]; simp
theorem step_first {x z y : Int} {b : B8} (h : inB b x z y = true) : lastStep x z y none b = some b := by
  unfold lastStep; rw [h]; simp
theorem step_late {x z y : Int} {b p : B8} (h : inB b x z y = true) (hp : p.id ≤ b.id) : lastStep x z y (some p) b = some b := by
  unfold lastStep; rw [h, if_pos ⟨rfl, fun q hq => by injection hq with hq; subst hq; omega⟩]
theorem step_early {x z y : Int} {b p : B8} (hp : b.id < p.id) : lastStep x z y (some p) b = some p := by
  unfold lastStep; rw [if_neg (fun h => by have := h.2 p rfl; omega)]
set_option maxHeartbeats 2000000 in
set_option maxRecDepth 100000 in
theorem last_any (l : List B8) (A : Option Addr) (cap S : Nat) (x z y : Int) (w : World) (hs : SpotAt S x z y w) (hr : Reads w w.heap.size 8 A l.length (bcs l)) (hl : l.length ≤ 9223372036854775807) :
    Calls Try.prog 32 #[.slice A l.length cap, .func (.func 33) #[] #[.pointer (some ⟨S, 0, none⟩)], .func (.func 34) #[] #[]] w fun en w' => LastRet en (lastF l x z y) ∧ Below w.heap.size w w' := by
  obtain ⟨res, hres⟩ : ∃ res, lastF l x z y = res := ⟨_, rfl⟩
  rw [hres]
  replace hres := Lib.hid hres
  have hso := fun (b : B8) (W' : World) (h : Below w.heap.size w W') => of1_any b S x z y W' (hs.below h hs.lt)
  have hea := fun (b p : B8) (W' : World) => early_any b p W'
  unfold B8.cs at hso hea
  have h00 : Held8 w.heap.size zero8 (w.alloc (.cells #[.int .i64 0, .int .i64 0, .int .i64 0, .int .i64 0, .int .i64 0, .int .i64 0, .int .i64 0, .int .i64 0] 45)) := World.alloc_heap_new _ _
  go_enter Try.func32, Try.ntmps32
  go_wp2
  go_loopw [7, 12] (fun ok i wr => ∃ k : Nat, i = .int .i64 k ∧ k ≤ l.length ∧ ok = .bool (lastF (l.take k) x z y).isSome ∧ Held8 w.heap.size ((lastF (l.take k) x z y).getD zero8) wr ∧ Below w.heap.size w wr)
    (fun _ i _ => l.length - (intOf i).toNat)
  case atStart => exact ⟨0, rfl, Nat.zero_le _, rfl, h00, (Below.refl _ _).alloc (Nat.le_refl _) _⟩
  case round =>
    obtain ⟨k, rfl, hk, rfl, hK, hb⟩ := hrel
    have hKl : w.heap.size < wr.heap.size := hK.at8.lt
    clear h00
    by_cases hkn : k < l.length
    · obtain ⟨ad, rfl, hbl, y0, y1, y2, y3, y4, y5, y6, y7⟩ := b8_at (hr.below hb) hkn
      generalize hP : ad.add (k * 8) = P at hbl y0 y1 y2 y3 y4 y5 y6 y7
      have hsn : lastF (l.take (k + 1)) x z y = lastStep x z y (lastF (l.take k) x z y) l[k] := by rw [List.take_succ_eq_append_getElem hkn, lastF_snoc]
      generalize l[k] = b at hsn y0 y1 y2 y3 y4 y5 y6 y7
      generalize lastF (l.take k) x z y = o at hK hsn ⊢
      have hkn' : (k : Int) < (l.length : Int) := by omega
      have hso := hso b
      have hea := hea b
      obtain ⟨Wf, hWf⟩ : ∃ Wf, wr.alloc (.cells #[.int .i64 b.id, .int .i64 b.x0, .int .i64 b.z0, .int .i64 b.x1, .int .i64 b.z1, .int .i64 b.y0, .int .i64 b.y1, .int .i64 b.ar] 45) = Wf := ⟨_, rfl⟩
      have hE : Held8 wr.heap.size b Wf := by rw [← hWf]; exact World.alloc_heap_new _ _
      have hba : Below wr.heap.size wr Wf := by rw [← hWf]; exact (Below.refl _ _).alloc (Nat.le_refl _) _
      have hbf : Below w.heap.size w Wf := hb.trans (hba.mono hb.size)
      obtain ⟨e0, e1, e2, e3, e4, e5, e6, e7, _, _, _, _, _, _, _, _, elt⟩ := hE.at8
      have hKf := hK.below hba hKl
      have hso := hso Wf hbf
      clear hK hba hb
      replace hsn := Lib.hid hsn
      cases hin : inB b x z y with
      | false =>
        rw [hin] at hso
        replace hin := Lib.hid hin
        go_wp2_with (go_at_call 33; refine hso.mono ?_; rintro en w2 ⟨rfl, hb2⟩; have hbw2 := hbf.trans (hb2.mono hbf.size); clear e0 e1 e2 e3 e4 e5 e6 e7; have hE2 := hE.below hb2 elt; have hK2 := hKf.below hb2 hKf.at8.lt; obtain ⟨e0, e1, e2, e3, e4, e5, e6, e7, _, _, _, _, _, _, _, _, elt2⟩ := hE2.at8; obtain ⟨c0, c1, c2, c3, c4, c5, c6, c7, f0, f1, f2, f3, f4, f5, f6, f7, clt⟩ := hK2.at8)
        go_roundw
        case rel => exact ⟨k + 1, by go_num, by omega, (by rw [hsn.out, step_no hin.out]; try rfl), by rw [hsn.out, step_no hin.out]; exact hK2, hbw2⟩
        case measure => show l.length - ((k : Int) + 1).toNat < l.length - ((k : Int)).toNat; omega
      | true =>
        rw [hin] at hso
        replace hin := Lib.hid hin
        cases o with
        | none =>
          go_wp2_with (go_at_call 33; refine hso.mono ?_; rintro en w2 ⟨rfl, hb2⟩; have hbw2 := hbf.trans (hb2.mono hbf.size); clear e0 e1 e2 e3 e4 e5 e6 e7; have hE2 := hE.below hb2 elt; have hK2 := hKf.below hb2 hKf.at8.lt; obtain ⟨e0, e1, e2, e3, e4, e5, e6, e7, _, _, _, _, _, _, _, _, elt2⟩ := hE2.at8; obtain ⟨c0, c1, c2, c3, c4, c5, c6, c7, f0, f1, f2, f3, f4, f5, f6, f7, clt⟩ := hK2.at8)
          go_roundw
          case rel => exact ⟨k + 1, by go_num, by omega, (by rw [hsn.out, step_first hin.out]; try rfl), by rw [hsn.out, step_first hin.out]; exact hK2.set b, set8_below hbw2 (Nat.le_refl _)⟩
          case measure => show l.length - ((k : Int) + 1).toNat < l.length - ((k : Int)).toNat; omega
        | some p =>
          replace hea := hea p
          by_cases hid : b.id < p.id
          · rw [decide_eq_true hid] at hea
            replace hid := Lib.hid hid
            go_wp2_with (first | (go_at_call 33; refine hso.mono ?_; rintro en w2 ⟨rfl, hb2⟩; have hbw2 := hbf.trans (hb2.mono hbf.size); clear e0 e1 e2 e3 e4 e5 e6 e7; have hE2 := hE.below hb2 elt; have hK2 := hKf.below hb2 hKf.at8.lt; obtain ⟨e0, e1, e2, e3, e4, e5, e6, e7, _, _, _, _, _, _, _, _, elt2⟩ := hE2.at8; obtain ⟨c0, c1, c2, c3, c4, c5, c6, c7, f0, f1, f2, f3, f4, f5, f6, f7, clt⟩ := hK2.at8) | (go_at_call 34; refine (hea _).mono ?_; rintro en w3 ⟨rfl, hb3⟩; have hbw3 := hbw2.trans (hb3.mono hbw2.size); clear e0 e1 e2 e3 e4 e5 e6 e7 c0 c1 c2 c3 c4 c5 c6 c7 f0 f1 f2 f3 f4 f5 f6 f7; have hE3 := hE2.below hb3 elt2; have hK3 := hK2.below hb3 clt; obtain ⟨e0, e1, e2, e3, e4, e5, e6, e7, _, _, _, _, _, _, _, _, elt3⟩ := hE3.at8; obtain ⟨c0, c1, c2, c3, c4, c5, c6, c7, f0, f1, f2, f3, f4, f5, f6, f7, clt⟩ := hK3.at8))
            go_roundw
            case rel => exact ⟨k + 1, by go_num, by omega, (by rw [hsn.out, step_early hid.out]; try rfl), by rw [hsn.out, step_early hid.out]; exact hK3, hbw3⟩
            case measure => show l.length - ((k : Int) + 1).toNat < l.length - ((k : Int)).toNat; omega
          · rw [decide_eq_false hid] at hea
            replace hid := Lib.hid hid
            go_wp2_with (first | (go_at_call 33; refine hso.mono ?_; rintro en w2 ⟨rfl, hb2⟩; have hbw2 := hbf.trans (hb2.mono hbf.size); clear e0 e1 e2 e3 e4 e5 e6 e7; have hE2 := hE.below hb2 elt; have hK2 := hKf.below hb2 hKf.at8.lt; obtain ⟨e0, e1, e2, e3, e4, e5, e6, e7, _, _, _, _, _, _, _, _, elt2⟩ := hE2.at8; obtain ⟨c0, c1, c2, c3, c4, c5, c6, c7, f0, f1, f2, f3, f4, f5, f6, f7, clt⟩ := hK2.at8) | (go_at_call 34; refine (hea _).mono ?_; rintro en w3 ⟨rfl, hb3⟩; have hbw3 := hbw2.trans (hb3.mono hbw2.size); clear e0 e1 e2 e3 e4 e5 e6 e7 c0 c1 c2 c3 c4 c5 c6 c7 f0 f1 f2 f3 f4 f5 f6 f7; have hE3 := hE2.below hb3 elt2; have hK3 := hK2.below hb3 clt; obtain ⟨e0, e1, e2, e3, e4, e5, e6, e7, _, _, _, _, _, _, _, _, elt3⟩ := hE3.at8; obtain ⟨c0, c1, c2, c3, c4, c5, c6, c7, f0, f1, f2, f3, f4, f5, f6, f7, clt⟩ := hK3.at8))
            go_roundw
            case rel => exact ⟨k + 1, by go_num, by omega, (by rw [hsn.out, step_late hin.out hid.out]; try rfl), by rw [hsn.out, step_late hin.out hid.out]; exact hK3.set b, set8_below hbw3 (Nat.le_refl _)⟩
            case measure => show l.length - ((k : Int) + 1).toNat < l.length - ((k : Int)).toNat; omega
    · obtain rfl : k = l.length := by omega
      rw [List.take_length, hres.out] at hK ⊢
      obtain ⟨c0, c1, c2, c3, c4, c5, c6, c7, f0, f1, f2, f3, f4, f5, f6, f7, clt⟩ := hK.at8
      go_wp2
      refine bodyPost_ret (results_b rfl _ _ w.heap.size (res.getD zero8) rfl ?_) rfl ?_
      · exact hK.set _
      · refine ⟨?_, set8_below hb (Nat.le_refl _)⟩
        cases res <;> rfl
set_option maxHeartbeats 2000000 in
set_option maxRecDepth 100000 in
theorem of_any (l : List B8) (A : Option Addr) (cap : Nat) (x z y : Int) (w : World) (hr : Reads w w.heap.size 8 A l.length (bcs l)) (hl : l.length ≤ 9223372036854775807) :
    Calls Try.prog 19 #[.slice A l.length cap, .agg #[.int .i64 x, .int .i64 z, .int .i64 y]] w fun en w' => en = .returned (.int .i64 (ofF l x z y)) ∧ Below w.heap.size w w' := by
  obtain ⟨W0, hW0⟩ : ∃ W0, w.alloc (.cells #[.int .i64 x, .int .i64 z, .int .i64 y] 47) = W0 := ⟨_, rfl⟩
  have hb0 : Below w.heap.size w W0 := by rw [← hW0]; exact (Below.refl _ _).alloc (Nat.le_refl _) _
  have hs0 : SpotAt w.heap.size x z y W0 := by
    rw [← hW0]
    exact ⟨World.cell?_alloc_at _ _ _ _ rfl, World.cell?_alloc_at _ _ _ _ rfl, World.cell?_alloc_at _ _ _ _ rfl, by simp⟩
  have hla := last_any l A cap w.heap.size x z y W0 hs0 ((hr.below hb0).more hb0.size) hl
  have hof : ofF l x z y = match lastF l x z y with | none => 1 | some b => b.ar := rfl
  rw [hof]
  go_enter Try.func19, Try.ntmps19
  cases ho : lastF l x z y with
  | none =>
    rw [ho] at hla
    simp only [LastRet, B8.cs, zero8] at hla
    clear ho hof
    go_wp2_with (go_at_call 32; refine hla.mono ?_; rintro en w1 ⟨rfl, hb1⟩)
    go_ret
    exact ⟨rfl, hb0.trans ((hb1.trans ((Below.refl _ _).alloc (Nat.le_refl _) _ |>.mono hb1.size)).mono hb0.size)⟩
  | some b =>
    rw [ho] at hla
    simp only [LastRet, B8.cs] at hla
    clear ho hof
    go_wp2_with (go_at_call 32; refine hla.mono ?_; rintro en w1 ⟨rfl, hb1⟩)
    go_ret
    exact ⟨rfl, hb0.trans ((hb1.trans ((Below.refl _ _).alloc (Nat.le_refl _) _ |>.mono hb1.size)).mono hb0.size)⟩
end Go.Proofs.Ytbjbiimkhpfieaa
