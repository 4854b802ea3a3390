/- For the laws AreaDrops, AreaAny: what marks tell, in plain numbers; the frame's boxes, whether a grid is too great, a slice's room. No conditions. -/
import Derived.Test.YtbjbiimkhpfieaaAt
import Derived.Test.YtbjbiimkhpfieaaAv
import Derived.Test.YtbjbiimkhpfieaaSxLaw3
namespace Go.Proofs.Ytbjbiimkhpfieaa
open Go Go.RowKit Go.Sx
theorem badB_ar {f g : Int} {b : B8} (h : badB f g b = false) : 0 ≤ b.ar ∧ b.ar ≤ 7 := by
  unfold badB boxBad at h
  simp only [Bool.or_eq_false_iff, decide_eq_false_iff_not] at h
  omega
theorem last_all {P : B8 → Prop} (x z y : Int) : ∀ (l : List B8) (o : Option B8), (∀ b, o = some b → P b) → (∀ b ∈ l, P b) → ∀ b, l.foldl (lastStep x z y) o = some b → P b
  | [], o, h, _, b, hb => h b hb
  | c :: l, o, h, hl, b, hb => by
    refine last_all x z y l (lastStep x z y o c) (fun p hp => ?_) (fun p hp => hl p (List.mem_cons_of_mem _ hp)) b hb
    unfold lastStep at hp
    split at hp
    · injection hp with hp
      subst hp
      exact hl _ (List.mem_cons_self ..)
    · exact h p hp
theorem ofF_range {l : List B8} (h : ∀ b ∈ l, 0 ≤ b.ar ∧ b.ar ≤ 7) (x z y : Int) : 0 ≤ ofF l x z y ∧ ofF l x z y ≤ 7 := by
  unfold ofF
  cases hl : lastF l x z y with
  | none => simp
  | some b => exact last_all (P := fun b => 0 ≤ b.ar ∧ b.ar ≤ 7) x z y l none (fun b hb => by cases hb) h b hl
theorem lastF_drop (l1 l2 : List B8) {b : B8} {x z y : Int} (h : inB b x z y = false) : lastF (l1 ++ b :: l2) x z y = lastF (l1 ++ l2) x z y := by
  simp [lastF, List.foldl_append, lastStep, h]
theorem ofF_drop (l1 l2 : List B8) {b : B8} {x z y : Int} (h : inB b x z y = false) : ofF (l1 ++ b :: l2) x z y = ofF (l1 ++ l2) x z y := by
  unfold ofF; rw [lastF_drop l1 l2 h]
theorem lastOf_mark (l : List B8) (X Z W : Int) (i : Nat) (r : List V3) (k : Nat) : lastOf (r.map (mark1 l X Z W i)) k = lastOf r k := by
  unfold lastOf
  split
  · rfl
  · rw [List.getElem?_map]
    cases r[k - 1]? <;> rfl
theorem rowOk_mark {l : List B8} (h : ∀ b ∈ l, 0 ≤ b.ar ∧ b.ar ≤ 7) (X Z W : Int) (i : Nat) {r : List V3} (hr : rowOk r) : rowOk (r.map (mark1 l X Z W i)) := by
  refine ⟨fun k f hf => ?_, by rw [List.length_map]; exact hr.2⟩
  rw [List.getElem?_map] at hf
  obtain ⟨v, hv, rfl⟩ := Option.map_eq_some_iff.1 hf
  rw [lastOf_mark]
  obtain ⟨a1, a2, a3, a4, _⟩ := hr.1 k v hv
  have := ofF_range h (X + (i : Int) % W) (Z + (i : Int) / W) v.x
  exact ⟨a1, a2, a3, a4, this.1, this.2⟩
theorem gridOk_mark {l : List B8} (h : ∀ b ∈ l, 0 ≤ b.ar ∧ b.ar ≤ 7) {X Z W D : Int} {rows : List (List V3)} (ho : gridOk X Z W D rows) : gridOk X Z W D (markF l X Z W rows) := by
  obtain ⟨o1, o2, o3, o4, o5, o6, o7, o8, o9, o10⟩ := ho
  refine ⟨o1, o2, o3, o4, o5, o6, o7, o8, by rw [markF_length]; exact o9, fun r hr => ?_⟩
  obtain ⟨i, hi⟩ := List.getElem?_of_mem hr
  rw [markF_get] at hi
  obtain ⟨r0, h0, rfl⟩ := Option.map_eq_some_iff.1 hi
  exact rowOk_mark h X Z W i (o10 _ (List.mem_of_getElem? h0))
theorem markOk_ar {f g X Z W D : Int} {rows : List (List V3)} {l : List B8} (h : markOk f g X Z W D rows l) : ∀ b ∈ l, 0 ≤ b.ar ∧ b.ar ≤ 7 := fun b hb => badB_ar (h.2.2 b hb)
/-- Marked anew by other boxes that may be. -/
theorem markOk_again {f g X Z W D : Int} {rows : List (List V3)} {l l' : List B8} (h : markOk f g X Z W D rows l) (hl : l'.length ≤ 16) (hb : ∀ b ∈ l', badB f g b = false) : markOk f g X Z W D (markF l X Z W rows) l' :=
  ⟨gridOk_mark (markOk_ar h) h.1, hl, hb⟩
theorem lensOk_ok {X Z W D : Int} {rows : List (List V3)} (ho : gridOk X Z W D rows) : lensOk rows := by
  have hrl : rows.length ≤ 4096 := by
    obtain ⟨_, _, _, _, o5, o6, o7, o8, o9, _⟩ := ho
    have := Int.mul_le_mul o6 o8 o7 (by omega : (0 : Int) ≤ 64)
    omega
  exact ⟨by omega, fun r hr => by have := (ho.2.2.2.2.2.2.2.2.2 r hr).2; omega⟩
theorem slice_cap {H : Type} {enc : TypeId × Value → H} {P : Program} {W : World} {r : Reach} {b0 b1 : Nat} {sp : Nat → Bool} {hd : Bool} {t e : TypeId} {v : Value} {d : DataW H} {pl : List MemPlace} (ht : P.underlying t = some (.slice e)) (hv : Value.okWide P W r b0 t v) (h : DataW.Trod enc P W b1 sp hd t v d pl)
    {A : Option Addr} {n c : Nat} (hvs : v = .slice A n c) : n ≤ c ∧ c ≤ 9223372036854775807 := by
  have hmx : maxLen = 9223372036854775807 := rfl
  obtain ⟨m, hm⟩ := h
  have hone : v.cells.toList = [v] := by subst hvs; rfl
  rw [hone] at hm
  rcases Deep.open_slice ht hm with ⟨hcs, hx⟩ | ⟨a, len, cap, m', n', D, Pl, hcs, hb, hl, hcm, hmm, hx, hel⟩
  · obtain rfl : v = .slice none 0 0 := by simpa using hcs
    injection hvs with h1 h2 h3
    omega
  · obtain rfl : v = .slice (some a) len cap := by simpa using hcs
    injection hvs with h1 h2 h3
    omega
/-- The boxes of a config and of a grid, from block h on. -/
structure FD (h : Nat) (a b c d e f g X Z W D : Int) (A : Option Addr) (n cap : Nat) (w : World) : Prop where
  c0 : w.cell? ⟨h, 0, none⟩ = some (.int .i64 a)
  c1 : w.cell? ⟨h, 1, none⟩ = some (.int .i64 b)
  c2 : w.cell? ⟨h, 2, none⟩ = some (.int .i64 c)
  c3 : w.cell? ⟨h, 3, none⟩ = some (.int .i64 d)
  c4 : w.cell? ⟨h, 4, none⟩ = some (.int .i64 e)
  c5 : w.cell? ⟨h, 5, none⟩ = some (.int .i64 f)
  c6 : w.cell? ⟨h, 6, none⟩ = some (.int .i64 g)
  g0 : w.cell? ⟨h + 1, 0, none⟩ = some (.int .i64 X)
  g1 : w.cell? ⟨h + 1, 1, none⟩ = some (.int .i64 Z)
  g2 : w.cell? ⟨h + 1, 2, none⟩ = some (.int .i64 W)
  g3 : w.cell? ⟨h + 1, 3, none⟩ = some (.int .i64 D)
  g4 : w.cell? ⟨h + 1, 4, none⟩ = some (.slice A n cap)
  lt : h + 2 ≤ w.heap.size
theorem FD.below {h N : Nat} {a b c d e f g X Z W D : Int} {A : Option Addr} {n cap : Nat} {w w' : World} (k : FD h a b c d e f g X Z W D A n cap w) (hb : Below N w w') (hN : h + 2 ≤ N) : FD h a b c d e f g X Z W D A n cap w' := by
  obtain ⟨c0, c1, c2, c3, c4, c5, c6, g0, g1, g2, g3, g4, lt⟩ := k
  have e : ∀ j q, j < h + 2 → w'.cell? ⟨j, q, none⟩ = w.cell? ⟨j, q, none⟩ := fun j q hj => hb.cell (by show j < N; omega)
  exact ⟨(e _ _ (by omega)).trans c0, (e _ _ (by omega)).trans c1, (e _ _ (by omega)).trans c2, (e _ _ (by omega)).trans c3, (e _ _ (by omega)).trans c4, (e _ _ (by omega)).trans c5, (e _ _ (by omega)).trans c6,
    (e _ _ (by omega)).trans g0, (e _ _ (by omega)).trans g1, (e _ _ (by omega)).trans g2, (e _ _ (by omega)).trans g3, (e _ _ (by omega)).trans g4, Nat.le_trans lt hb.size⟩
theorem FD.new (a b c d e f g X Z W D : Int) (A : Option Addr) (n cap : Nat) (w : World) :
    FD w.heap.size a b c d e f g X Z W D A n cap ((w.alloc (.cells #[.int .i64 a, .int .i64 b, .int .i64 c, .int .i64 d, .int .i64 e, .int .i64 f, .int .i64 g] 23)).alloc (.cells #[.int .i64 X, .int .i64 Z, .int .i64 W, .int .i64 D, .slice A n cap] 26)) := by
  obtain ⟨w1, h1⟩ : ∃ w1, w.alloc (.cells #[.int .i64 a, .int .i64 b, .int .i64 c, .int .i64 d, .int .i64 e, .int .i64 f, .int .i64 g] 23) = w1 := ⟨_, rfl⟩
  rw [h1]
  have s1 : w1.heap.size = w.heap.size + 1 := by rw [← h1]; simp
  have k1 : ∀ q u, #[Value.int .i64 a, .int .i64 b, .int .i64 c, .int .i64 d, .int .i64 e, .int .i64 f, .int .i64 g][q]? = some u → (w1.alloc (.cells #[.int .i64 X, .int .i64 Z, .int .i64 W, .int .i64 D, .slice A n cap] 26)).cell? ⟨w.heap.size, q, none⟩ = some u := fun q u hq => by
    rw [World.cell?_alloc_past _ _ _ (by simp [s1]), ← h1]
    exact (World.cell?_alloc_at _ _ _ _ rfl).trans hq
  have k2 : ∀ q u, #[Value.int .i64 X, .int .i64 Z, .int .i64 W, .int .i64 D, .slice A n cap][q]? = some u → (w1.alloc (.cells #[.int .i64 X, .int .i64 Z, .int .i64 W, .int .i64 D, .slice A n cap] 26)).cell? ⟨w.heap.size + 1, q, none⟩ = some u := fun q u hq => by
    rw [← s1]
    exact (World.cell?_alloc_at _ _ _ _ rfl).trans hq
  exact ⟨k1 0 _ rfl, k1 1 _ rfl, k1 2 _ rfl, k1 3 _ rfl, k1 4 _ rfl, k1 5 _ rfl, k1 6 _ rfl, k2 0 _ rfl, k2 1 _ rfl, k2 2 _ rfl, k2 3 _ rfl, k2 4 _ rfl, by simp [s1]⟩
/-- area.Mark, whatever it tells. -/
theorem mark_some (a b c d e f g X Z W D : Int) (rows : List (List V3)) (A : Option Addr) (cap : Nat) (l : List B8) (Al : Option Addr) (cl : Nat) (w : World)
    (hr : RowsAt w w.heap.size A rows) (hl : lensOk rows) (hb : Reads w w.heap.size 8 Al l.length (bcs l)) (hbl : l.length ≤ 9223372036854775807) :
    Calls Try.prog 22 #[cfgv a b c d e f g, gridv X Z W D A rows.length cap, .slice Al l.length cl] w fun en w' =>
      ∃ (X' Z' W' D' : Int) (A' : Option Addr) (n' c' : Nat) (er : Int), en = .returned (.tuple #[gridv X' Z' W' D' A' n' c', .int .i64 er]) ∧ Below w.heap.size w w' := by
  refine (mark_any a b c d e f g X Z W D rows A cap l Al cl w hr hl hb hbl).mono fun en w' ⟨h, hbw⟩ => ?_
  rcases h with ⟨_, h⟩ | ⟨_, _, h⟩ | ⟨_, _, M, h, _⟩
  · exact ⟨_, _, _, _, _, _, _, _, h, hbw⟩
  · exact ⟨_, _, _, _, _, _, _, _, h, hbw⟩
  · exact ⟨_, _, _, _, _, _, _, _, h, hbw⟩
theorem rowsAt_nil (w : World) (B : Nat) : RowsAt w B none [] := ⟨[], ⟨rfl, fun h => absurd h (by simp)⟩, fun i r hr => by simp at hr⟩
theorem lensOk_nil : lensOk [] := ⟨by simp, fun r hr => by cases hr⟩
set_option maxHeartbeats 1000000 in
set_option maxRecDepth 100000 in
theorem great12_any (X Z W D : Int) (rows : List (List V3)) (A : Option Addr) (cap : Nat) (w : World) (hr : RowsAt w w.heap.size A rows) (hl : lensOk rows) :
    Calls Try.prog 21 #[gridv X Z W D A rows.length cap] w fun e w' => (∃ b, e = .returned (.bool b)) ∧ Below w.heap.size w w' := by
  have hl1 := hl.1
  obtain ⟨W0, hW0⟩ : ∃ W0, w.alloc (.cells #[.int .i64 X, .int .i64 Z, .int .i64 W, .int .i64 D, .slice A rows.length cap] 26) = W0 := ⟨_, rfl⟩
  have hg0 : GAt w.heap.size X Z W D A rows.length cap W0 := by rw [← hW0]; exact GAt.new X Z W D A rows.length cap w 26
  have hb0 : Below w.heap.size w W0 := by rw [← hW0]; exact (Below.refl _ _).alloc (Nat.le_refl _) _
  obtain ⟨g0, g1, g2, g3, g4, g5⟩ := id hg0
  unfold gridv
  go_enter Try.func21, Try.ntmps21
  go_wp2
  all_goals first
    | (go_ret; exact ⟨⟨_, rfl⟩, hb0⟩)
    | skip
  all_goals
    go_loopw [3] (fun x wr => ∃ i : Nat, x = .int .i64 i ∧ i ≤ rows.length ∧ Below W0.heap.size W0 wr)
      (fun x _ => rows.length - (intOf x).toNat)
    case atStart => exact ⟨0, rfl, Nat.zero_le _, Below.refl _ _⟩
    case round =>
      obtain ⟨i, rfl, hi, hb⟩ := hrel
      have hbw : Below w.heap.size w wr := hb0.trans (hb.mono hb0.size)
      obtain ⟨G0, G1, G2, G3, G4, G5⟩ := hg0.below hb g5
      by_cases hin : i < rows.length
      · obtain ⟨ad, Ai, ci, rfl, hbl, hc, hrr⟩ := (hr.below hbw).at_ hin
        generalize rows[i] = r at hc hrr
        have hin' : (i : Int) < (rows.length : Int) := by omega
        go_wp2
        · go_ret
          exact ⟨⟨_, rfl⟩, hbw⟩
        · go_roundw
          case rel => exact ⟨i + 1, by go_num, by omega, hb⟩
          case measure => show rows.length - ((i : Int) + 1).toNat < rows.length - ((i : Int)).toNat; omega
      · have hie : i = rows.length := by omega
        subst hie
        go_wp2
        go_ret
        exact ⟨⟨_, rfl⟩, hbw⟩
end Go.Proofs.Ytbjbiimkhpfieaa
