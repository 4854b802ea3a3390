/- The law AreaAny: its call tells true. Its parts, one behind the other. No conditions. -/
import Derived.Test.YtbjbiimkhpfieaaAy
import Derived.Test.YtbjbiimkhpfieaaAp
/- For the law AreaAny, in plain numbers: boxes by rising numbers tell the same whichever way about they come. No conditions. -/
namespace Go.Proofs.Ytbjbiimkhpfieaa
open Go Go.RowKit Go.Sx
theorem info45 : (Try.prog.info? 45).map (fun i => (i.zero, i.size, i.bytes)) = some (some (.agg #[.int .i64 0, .int .i64 0, .int .i64 0, .int .i64 0, .int .i64 0, .int .i64 0, .int .i64 0, .int .i64 0]), 8, 64) := by kernel_rfl
theorem bcs_one (l : List B8) : ∀ u ∈ bcs l, u.oneCell' = true := fun u hu => by
  obtain ⟨v, _, h⟩ := List.mem_flatMap.1 hu
  simp only [B8.cs, List.mem_cons, List.not_mem_nil, or_false] at h
  rcases h with rfl | rfl | rfl | rfl | rfl | rfl | rfl | rfl <;> rfl
theorem bcs_app (l m : List B8) : bcs (l ++ m) = bcs l ++ bcs m := by simp [bcs]
theorem bcs_take (l : List B8) (k : Nat) (h : k ≤ l.length) : bcs (l.take k) = (bcs l).take (k * 8) := by
  have e : bcs l = bcs (l.take k) ++ bcs (l.drop k) := by rw [← bcs_app, List.take_append_drop]
  have hl : (bcs (l.take k)).length = k * 8 := by rw [bcs_length, List.length_take]; omega
  rw [e, ← hl, List.take_left]
theorem bcs_drop (l : List B8) (k : Nat) (h : k ≤ l.length) : bcs (l.drop k) = (bcs l).drop (k * 8) := by
  have e : bcs l = bcs (l.take k) ++ bcs (l.drop k) := by rw [← bcs_app, List.take_append_drop]
  have hl : (bcs (l.take k)).length = k * 8 := by rw [bcs_length, List.length_take]; omega
  rw [e, ← hl, List.drop_left]
/-- What cells hold. -/
def CellsL : List (Addr × Value) → World → Prop
  | [], _ => True
  | (p, v) :: r, w => w.cell? p = some v ∧ CellsL r w
def LtL : List (Addr × Value) → Nat → Prop
  | [], _ => True
  | (p, _) :: r, n => p.block < n ∧ LtL r n
theorem LtL.mono {n m : Nat} (h : n ≤ m) : ∀ {L : List (Addr × Value)}, LtL L n → LtL L m
  | [], _ => trivial
  | _ :: _, h' => ⟨Nat.lt_of_lt_of_le h'.1 h, LtL.mono h h'.2⟩
theorem CellsL.keep {n : Nat} {w w' : World} (hb : Below n w w') : ∀ {L : List (Addr × Value)}, CellsL L w → LtL L n → CellsL L w'
  | [], _, _ => trivial
  | _ :: _, h, hl => ⟨(hb.cell hl.1).trans h.1, CellsL.keep hb h.2 hl.2⟩
theorem lit_add (b j : Nat) : (⟨b, 0, none⟩ : Addr).add j = ⟨b, j, none⟩ := by simp [Addr.add]; exact fun h => h.symm
theorem markF_at (l : List B8) (X Z W : Int) (rows : List (List V3)) {i : Nat} (h : i < (markF l X Z W rows).length) : (markF l X Z W rows)[i] = (rows[i]'(by rw [markF_length] at h; exact h)).map (mark1 l X Z W i) := by simp [markF]
/-- The boxes with numbers from n + 1 on. -/
def risF : List B8 → Nat → List B8
  | [], _ => []
  | b :: l, n => { b with id := (n : Int) + 1 } :: risF l (n + 1)
theorem risF_length : ∀ (l : List B8) (n : Nat), (risF l n).length = l.length
  | [], _ => rfl
  | _ :: l, n => by simp [risF, risF_length l (n + 1)]
theorem risF_snoc : ∀ (l : List B8) (b : B8) (n : Nat), risF (l ++ [b]) n = risF l n ++ [{ b with id := ((n + l.length : Nat) : Int) + 1 }]
  | [], _, _ => rfl
  | c :: l, b, n => by
    show { c with id := (n : Int) + 1 } :: risF (l ++ [b]) (n + 1) = { c with id := (n : Int) + 1 } :: risF l (n + 1) ++ _
    rw [risF_snoc l b (n + 1), List.cons_append, List.length_cons, show n + 1 + l.length = n + (l.length + 1) by omega]
theorem risF_id : ∀ (l : List B8) (n : Nat) (b : B8), b ∈ risF l n → (n : Int) < b.id ∧ b.id ≤ (n : Int) + l.length
  | [], _, _, h => by cases h
  | c :: l, n, b, h => by
    rcases List.mem_cons.1 h with rfl | h
    · exact ⟨by show (n : Int) < (n : Int) + 1; omega, by show (n : Int) + 1 ≤ (n : Int) + ((c :: l).length : Nat); rw [List.length_cons]; omega⟩
    · have := risF_id l (n + 1) b h
      simp at this ⊢
      omega
theorem last_stay (x z y : Int) (b : B8) : ∀ r : List B8, (∀ c ∈ r, c.id < b.id) → r.foldl (lastStep x z y) (some b) = some b
  | [], _ => rfl
  | c :: r, h => by
    have h1 : lastStep x z y (some b) c = some b := by
      unfold lastStep
      rw [if_neg (fun hc => by have := hc.2 b rfl; have := h c (List.mem_cons_self ..); omega)]
    rw [List.foldl_cons, h1]
    exact last_stay x z y b r (fun d hd => h d (List.mem_cons_of_mem _ hd))
/-- Numbers that rise. -/
def Rising : List B8 → Prop
  | [] => True
  | b :: l => (∀ c ∈ l, b.id < c.id) ∧ Rising l
theorem Rising.snoc : ∀ {l : List B8} {b : B8}, Rising (l ++ [b]) → Rising l ∧ ∀ c ∈ l, c.id < b.id
  | [], _, _ => ⟨trivial, fun c h => by cases h⟩
  | d :: l, b, h => by
    obtain ⟨h1, h2⟩ := h
    obtain ⟨h3, h4⟩ := Rising.snoc h2
    refine ⟨⟨fun c hc => h1 c (List.mem_append_left _ hc), h3⟩, fun c hc => ?_⟩
    rcases List.mem_cons.1 hc with rfl | hc
    · exact h1 b (by simp)
    · exact h4 c hc
theorem risF_rising : ∀ (l : List B8) (n : Nat), Rising (risF l n)
  | [], _ => trivial
  | b :: l, n => ⟨fun c hc => by
      have := (risF_id l (n + 1) c hc).1
      show (n : Int) + 1 < c.id
      omega, risF_rising l (n + 1)⟩
theorem last_rising (x z y : Int) (l : List B8) (b : B8) (h : ∀ c ∈ l, c.id < b.id) : lastF (l ++ [b]) x z y = if inB b x z y = true then some b else lastF l x z y := by
  rw [lastF_snoc, lastStep]
  by_cases hi : inB b x z y = true
  · have hc : inB b x z y = true ∧ ∀ p, lastF l x z y = some p → p.id ≤ b.id := ⟨hi, fun p hp => by
      have := last_all (P := fun c => c.id < b.id) x z y l none (fun b hb => by cases hb) h p hp
      omega⟩
    rw [if_pos hi, if_pos hc]
  · rw [if_neg hi, if_neg (fun hc => hi hc.1)]
theorem lastF_reverse (x z y : Int) : ∀ (n : Nat) (l : List B8), l.length = n → Rising l → lastF l.reverse x z y = lastF l x z y
  | 0, l, hn, _ => by
    have : l = [] := List.eq_nil_of_length_eq_zero hn
    subst this
    rfl
  | n + 1, l, hn, hl => by
    obtain ⟨l', b, rfl⟩ : ∃ l' b, l = l' ++ [b] := by
      have hne : l ≠ [] := by intro h; subst h; simp at hn
      exact ⟨l.dropLast, l.getLast hne, (List.dropLast_concat_getLast hne).symm⟩
    obtain ⟨h1, h2⟩ := hl.snoc
    have ih := lastF_reverse x z y n l' (by simp at hn; exact hn) h1
    rw [last_rising x z y l' b h2, List.reverse_append, List.reverse_cons, List.reverse_nil, List.nil_append, List.singleton_append]
    unfold lastF
    rw [List.foldl_cons]
    by_cases hi : inB b x z y = true
    · rw [if_pos hi]
      have hs : lastStep x z y none b = some b := by unfold lastStep; rw [if_pos ⟨hi, fun p hp => by cases hp⟩]
      rw [hs]
      exact last_stay x z y b _ (fun c hc => h2 c (List.mem_reverse.1 hc))
    · rw [if_neg hi]
      have hs : lastStep x z y none b = none := by unfold lastStep; rw [if_neg (fun hc => hi hc.1)]
      rw [hs]
      exact ih
theorem ofF_reverse (x z y : Int) {l : List B8} (h : Rising l) : ofF l.reverse x z y = ofF l x z y := by
  unfold ofF; rw [lastF_reverse x z y _ l rfl h]
theorem markF_reverse (X Z W : Int) (rows : List (List V3)) {l : List B8} (h : Rising l) : markF l.reverse X Z W rows = markF l X Z W rows := by
  have e : ∀ i, mark1 l.reverse X Z W i = mark1 l X Z W i := fun i => by funext v; unfold mark1; rw [ofF_reverse _ _ _ h]
  unfold markF
  simp only [e]
theorem markOk_reverse {f g X Z W D : Int} {rows : List (List V3)} {l : List B8} : markOk f g X Z W D rows l.reverse ↔ markOk f g X Z W D rows l := by
  unfold markOk
  simp
/-- Of what was marked ahead nothing is left. -/
theorem markF_markF (l l' : List B8) (X Z W : Int) (rows : List (List V3)) : markF l X Z W (markF l' X Z W rows) = markF l X Z W rows := by
  refine List.ext_getElem? fun i => ?_
  rw [markF_get, markF_get, markF_get, Option.map_map]
  congr 1
  funext r
  simp only [Function.comp, List.map_map]
  rfl
end Go.Proofs.Ytbjbiimkhpfieaa

/- footpathref11.SameFloors and Same by walks, on rows that are the same: they tell true. No conditions but that the rows lie where they are said to lie. -/
namespace Go.Proofs.Ytbjbiimkhpfieaa
open Go Go.RowKit Go.Sx
attribute [local go_sem] Oper.semAt_some
set_option maxHeartbeats 2000000 in
set_option maxRecDepth 100000 in
theorem sameFloors_any (r : List V3) (A1 A2 : Option Addr) (c1 c2 : Nat) (w : World) (h1 : Reads w w.heap.size 3 A1 r.length (vcs r)) (h2 : Reads w w.heap.size 3 A2 r.length (vcs r)) (hl : r.length ≤ 9223372036854775807) :
    Calls Try.prog 38 #[.slice A1 r.length c1, .slice A2 r.length c2] w fun en w' => en = .returned (.bool true) ∧ Below w.heap.size w w' := by
  refine (callsIn_wide (n := 6)).1 ?_
  refine callsIn_of_wp Try.func38 rfl trivial ?_ rfl
  simp only [Try.ntmps38, List.size_toArray, List.length_cons, List.length_nil, Nat.reduceAdd, Nat.reduceSub, Array.replicate_succ, Array.replicate_zero, List.push_toArray, List.append_toArray, List.nil_append, List.cons_append]
  gi_wp2
  gi_loopw [5] (fun x wr => ∃ k : Nat, x = .int .i64 k ∧ k ≤ r.length ∧ Below w.heap.size w wr) (fun x _ => r.length - (intOf x).toNat)
  case atStart => exact ⟨0, rfl, Nat.zero_le _, Below.refl _ _⟩
  case round =>
    obtain ⟨k, rfl, hk, hb⟩ := hrel
    by_cases hkn : k < r.length
    · have hkn' : (k : Int) < (r.length : Int) := by omega
      obtain ⟨fa, rfl, hfa, a0, a1, a2⟩ := v3_at ((h1.below hb).more hb.size) hkn
      obtain ⟨fb, rfl, hfb, b0, b1, b2⟩ := v3_at ((h2.below hb).more hb.size) hkn
      gi_wp2
      have hS : CellsL [(fa.add (k * 3), .int .i64 r[k].x), (⟨(fa.add (k * 3)).block, (fa.add (k * 3)).off + 1, none⟩, .int .i64 r[k].y), (⟨(fa.add (k * 3)).block, (fa.add (k * 3)).off + 2, none⟩, .int .i64 r[k].z), (fb.add (k * 3), .int .i64 r[k].x), (⟨(fb.add (k * 3)).block, (fb.add (k * 3)).off + 1, none⟩, .int .i64 r[k].y), (⟨(fb.add (k * 3)).block, (fb.add (k * 3)).off + 2, none⟩, .int .i64 r[k].z)] wr.drew := ⟨a0, a1, a2, b0, b1, b2, trivial⟩
      refine wpIn_region_ord [(0, true), (1, true), (2, true), (3, true), (4, true), (5, true), (6, true), (7, true)] (CellsL [(fa.add (k * 3), .int .i64 r[k].x), (⟨(fa.add (k * 3)).block, (fa.add (k * 3)).off + 1, none⟩, .int .i64 r[k].y), (⟨(fa.add (k * 3)).block, (fa.add (k * 3)).off + 2, none⟩, .int .i64 r[k].z), (fb.add (k * 3), .int .i64 r[k].x), (⟨(fb.add (k * 3)).block, (fb.add (k * 3)).off + 1, none⟩, .int .i64 r[k].y), (⟨(fb.add (k * 3)).block, (fb.add (k * 3)).off + 2, none⟩, .int .i64 r[k].z)]) (fun _ => trivial) rfl (by intro c d v a w h; cases d <;> exact h) (by kernel_rfl) ?_
      simp only [List.length_cons, List.length_nil, Nat.reduceAdd, List.drop_succ_cons, List.drop_zero]
      iterate 8 (apply wpOrd_quiet rfl hS rfl; (intro w' hw'; obtain ⟨q0, q1, q2, q3, q4, q5, _⟩ := hw'; go_simp; exact rfl); go_simp)
      refine wpOrd_nil ?_
      clear hS a0 a1 a2 b0 b1 b2
      gi_wp2
      go_roundw
      case rel => exact ⟨k + 1, by go_num, by omega, hb.drew⟩
      case measure => show r.length - ((k : Int) + 1).toNat < r.length - ((k : Int)).toNat; omega
    · obtain rfl : k = r.length := by omega
      gi_wp2
      refine bodyPost_ret (results_tmp rfl _ _ _) rfl ?_
      exact ⟨rfl, hb⟩
set_option maxHeartbeats 2000000 in
set_option maxRecDepth 100000 in
theorem same_any (X Z W D : Int) (rows : List (List V3)) (A1 A2 : Option Addr) (c1 c2 : Nat) (w : World) (h1 : RowsAt w w.heap.size A1 rows) (h2 : RowsAt w w.heap.size A2 rows) (hl : lensOk rows) :
    Calls Try.prog 23 #[gridv X Z W D A1 rows.length c1, gridv X Z W D A2 rows.length c2] w fun en w' => en = .returned (.bool true) ∧ Below w.heap.size w w' := by
  have hl1 := hl.1
  obtain ⟨W1, hW1⟩ : ∃ W1, w.alloc (.cells #[.int .i64 X, .int .i64 Z, .int .i64 W, .int .i64 D, .slice A1 rows.length c1] 26) = W1 := ⟨_, rfl⟩
  obtain ⟨W0, hW0⟩ : ∃ W0, W1.alloc (.cells #[.int .i64 X, .int .i64 Z, .int .i64 W, .int .i64 D, .slice A2 rows.length c2] 26) = W0 := ⟨_, rfl⟩
  have s1 : W1.heap.size = w.heap.size + 1 := by rw [← hW1]; simp
  have hb1 : Below w.heap.size w W1 := by rw [← hW1]; exact (Below.refl _ _).alloc (Nat.le_refl _) _
  have hb2 : Below W1.heap.size W1 W0 := by rw [← hW0]; exact (Below.refl _ _).alloc (Nat.le_refl _) _
  have hb0 : Below w.heap.size w W0 := hb1.trans (hb2.mono hb1.size)
  have hG1 : GB w.heap.size X Z W D (.slice A1 rows.length c1) W0 := GB.below (w := W1) (by rw [← hW1]; exact World.alloc_heap_new _ _) hb2 (by omega)
  have hG2 : GB (w.heap.size + 1) X Z W D (.slice A2 rows.length c2) W0 := by rw [← s1, ← hW0]; exact World.alloc_heap_new _ _
  have hs0 : W0.heap.size = w.heap.size + 2 := by rw [← hW0]; simp [s1]
  obtain ⟨g0, g1, g2, g3, g4, _⟩ := hG1.cells
  obtain ⟨k0, k1, k2, k3, k4, _⟩ := hG2.cells
  refine (callsIn_wide (n := 6)).1 ?_
  unfold gridv
  refine callsIn_of_wp Try.func23 rfl trivial ?_ rfl
  simp only [Try.ntmps23, List.size_toArray, List.length_cons, List.length_nil, Nat.reduceAdd, Nat.reduceSub, Array.replicate_succ, Array.replicate_zero, List.push_toArray, List.append_toArray, List.nil_append, List.cons_append]
  subst hW1
  subst hW0
  gi_wp2
  obtain ⟨W0, hW0⟩ : ∃ W0, (w.alloc (.cells #[.int .i64 X, .int .i64 Z, .int .i64 W, .int .i64 D, .slice A1 rows.length c1] 26)).alloc (.cells #[.int .i64 X, .int .i64 Z, .int .i64 W, .int .i64 D, .slice A2 rows.length c2] 26) = W0 := ⟨_, rfl⟩
  rw [hW0] at hb0 hG1 hG2 hs0 ⊢
  clear hW0 g0 g1 g2 g3 g4 k0 k1 k2 k3 k4 hb1 hb2 s1
  gi_loopw [5] (fun x wr => ∃ k : Nat, x = .int .i64 k ∧ k ≤ rows.length ∧ Below W0.heap.size W0 wr) (fun x _ => rows.length - (intOf x).toNat)
  case atStart => exact ⟨0, rfl, Nat.zero_le _, Below.refl _ _⟩
  case round =>
    obtain ⟨k, rfl, hk, hb⟩ := hrel
    have hbw := hb0.trans (hb.mono hb0.size)
    have hsr := hb.size
    have g4 := (hG1.below hb (by omega)).cells.2.2.2.2.1
    have k4 := (hG2.below hb (by omega)).cells.2.2.2.2.1
    by_cases hkn : k < rows.length
    · have hkn' : (k : Int) < (rows.length : Int) := by omega
      obtain ⟨aa, Aa, ca, rfl, haa, ha, hra⟩ := ((h1.below hbw).more hbw.size).at_ hkn
      obtain ⟨ab, Ab, cb, rfl, hab, hb', hrb⟩ := ((h2.below hbw).more hbw.size).at_ hkn
      have hl8 := hl.2 _ (List.getElem_mem hkn)
      have hsf : ∀ {V : World}, Below wr.heap.size wr V → Calls Try.prog 38 #[.slice Aa rows[k].length ca, .slice Ab rows[k].length cb] V fun en w' => en = .returned (.bool true) ∧ Below V.heap.size V w' := fun {V} h => sameFloors_any rows[k] Aa Ab ca cb V ((hra.below h).more h.size) ((hrb.below h).more h.size) hl8
      gi_wp2
      have hS : CellsL [(⟨w.heap.size, 4, none⟩, .slice (some aa) rows.length c1), (⟨w.heap.size + 1, 4, none⟩, .slice (some ab) rows.length c2), (aa.add k, .slice Aa rows[k].length ca), (ab.add k, .slice Ab rows[k].length cb)] wr.drew := ⟨g4, k4, ha, hb', trivial⟩
      refine wpIn_region_ord [(0, true), (1, true), (2, true), (3, true), (4, true), (5, true), (6, true), (7, true), (8, true), (9, true), (10, false)] (CellsL [(⟨w.heap.size, 4, none⟩, .slice (some aa) rows.length c1), (⟨w.heap.size + 1, 4, none⟩, .slice (some ab) rows.length c2), (aa.add k, .slice Aa rows[k].length ca), (ab.add k, .slice Ab rows[k].length cb)]) (fun _ => trivial) rfl (by intro c d v a w h; cases d <;> exact h) (by kernel_rfl) ?_
      simp only [List.length_cons, List.length_nil, Nat.reduceAdd, List.drop_succ_cons, List.drop_zero]
      iterate 10 (apply wpOrd_quiet rfl hS rfl; (intro w' hw'; obtain ⟨q0, q1, q2, q3, _⟩ := hw'; go_simp; exact rfl); go_simp)
      refine wpOrd_move rfl rfl ?_
      go_simp
      refine ⟨trivial, (callsIn_wide.2 (hsf ((Below.refl _ _).drew))).mono ?_⟩
      rintro en u1 ⟨rfl, hu1⟩
      have hu1' : Below wr.heap.size wr u1 := ((Below.refl _ _).drew).trans hu1
      have hlt : LtL [(⟨w.heap.size, 4, none⟩, .slice (some aa) rows.length c1), (⟨w.heap.size + 1, 4, none⟩, .slice (some ab) rows.length c2), (aa.add k, .slice Aa rows[k].length ca), (ab.add k, .slice Ab rows[k].length cb)] wr.heap.size := ⟨by show w.heap.size < _; omega, by show w.heap.size + 1 < _; omega, by show (aa.add k).block < _; rw [block_of_add]; omega, by show (ab.add k).block < _; rw [block_of_add]; omega, trivial⟩
      refine ⟨CellsL.keep hu1' (show CellsL _ wr from hS) hlt, ?_⟩
      go_simp
      refine wpOrd_nil ?_
      clear hS hlt g4 k4 ha hb'
      gi_wp2
      go_roundw
      case rel => exact ⟨k + 1, by go_num, by omega, hb.trans (hu1'.mono hsr)⟩
      case measure => show rows.length - ((k : Int) + 1).toNat < rows.length - ((k : Int)).toNat; omega
    · obtain rfl : k = rows.length := by omega
      gi_wp2
      refine bodyPost_ret (results_tmp rfl _ _ _) rfl ?_
      exact ⟨rfl, hbw⟩
end Go.Proofs.Ytbjbiimkhpfieaa

/- area.Count by a walk: eight numbers that together are the number of floors. No conditions but that the grid lies where it is said to lie. -/
namespace Go.Proofs.Ytbjbiimkhpfieaa
open Go Go.RowKit Go.Sx Go.Shelf
attribute [local go_sem] Oper.semAt_some
set_option maxRecDepth 100000 in
set_option maxHeartbeats 4000000 in
theorem all1p_in (n : Nat) (hn : 1 ≤ n) (l N1 N0 B : Nat) (X Z W D : Int) (A : Option Addr) (c : Nat) (rows : List (List V3)) (ho : gridOk X Z W D rows) (Pm : Fin rows.length × V3 → Prop) (hPm : ∀ (k : Nat) (h : k < rows.length) (j : Nat) (hj : j < rows[k].length), Pm (⟨k, h⟩, rows[k][j])) (J Jx : List (Fin rows.length × V3) → World → Prop)
    (hY : ∀ pre x Wd, Pm x → J pre Wd → pre.length < (flat rows).length → YieldAt Fence.wide (n - 1) Try.prog l (spotOf X Z W x) Wd fun e W' =>
      (e = .returned (.bool true) ∧ J (pre ++ [x]) W' ∧ Keep2 N1 N0 Wd W') ∨ (e = .returned (.bool false) ∧ Jx (pre ++ [x]) W'))
    (Wd : World) (hJ : AbidesFrom Wd.heap.size J) (hE : AllAt N1 N0 B X Z W D A rows.length c rows Wd) (h0 : J [] Wd) :
    CallsIn Fence.wide n Try.prog 47 #[.func (.yield l) #[] #[], .pointer (some ⟨B, 0, none⟩)] Wd fun e W' => (∃ v, e = .returned v) ∧
      ((∃ ys, ys = flat rows ∧ J ys W') ∨ (∃ pre, pre <+: flat rows ∧ Jx pre W')) := by
  have h8 : ∀ r ∈ rows, r.length ≤ 8 := fun r hm => (ho.2.2.2.2.2.2.2.2.2 r hm).2
  have hrl : rows.length ≤ 4096 := by
    obtain ⟨_, _, _, _, o5, o6, o7, o8, o9, _⟩ := ho
    have := Int.mul_le_mul o6 o8 o7 (by omega : (0 : Int) ≤ 64)
    omega
  obtain ⟨i1, i2, i3, i4, i5, i6, i7, i8, i9, i10⟩ := id hE
  refine callsIn_of_wp Try.func47 rfl trivial ?_ rfl
  simp only [Try.ntmps47, List.size_toArray, List.length_cons, List.length_nil, Nat.reduceAdd, Nat.reduceSub, Array.replicate_succ, Array.replicate_zero, List.push_toArray, List.append_toArray, List.nil_append, List.cons_append]
  gi_wp2
  clear i1 i2 i3 i4 i5 i9 i10
  gi_loopw [10] (fun x wr => ∃ k : Nat, x = .int .i64 k ∧ k ≤ rows.length ∧ AllAt N1 N0 B X Z W D A rows.length c rows wr ∧ J (flatTo rows k) wr ∧ Wd.heap.size ≤ wr.heap.size)
    (fun x _ => rows.length - (intOf x).toNat)
  case atStart => exact ⟨0, rfl, Nat.zero_le _, hE, h0, Nat.le_refl _⟩
  case round =>
    obtain ⟨k, rfl, hk, hE2, hJ2, hs2⟩ := hrel
    by_cases hkn : k < rows.length
    · obtain ⟨ad, Ai, ci, rfl, hc, hrd⟩ := hE2.row (List.getElem?_eq_getElem hkn)
      have hr8 := h8 _ (List.getElem_mem hkn)
      have hkn' : (k : Int) < (rows.length : Int) := by omega
      have hbd := spot_bd ho hkn
      have hJ0 : J (upTo rows k hkn 0) wr := by rw [upTo_zero hkn]; exact hJ2
      gi_wp2
      clear hc
      gi_loopw [17] (fun x wt => ∃ j : Nat, x = .int .i64 j ∧ j ≤ rows[k].length ∧ AllAt N1 N0 B X Z W D (some ad) rows.length c rows wt ∧ J (upTo rows k hkn j) wt ∧ Wd.heap.size ≤ wt.heap.size ∧ ReadsIn wt N1 N0 3 Ai rows[k].length (vcs rows[k]))
        (fun x _ => rows[k].length - (intOf x).toNat)
      case atStart => exact ⟨0, rfl, Nat.zero_le _, hE2, hJ0, hs2, hrd⟩
      case round =>
        obtain ⟨j, rfl, hj, hE3, hJ3, hs3, hrd3⟩ := hrel
        by_cases hjn : j < rows[k].length
        · have hjn' : (j : Int) < (rows[k].length : Int) := by omega
          obtain ⟨ad', rfl, hlt, hc0, hc1, hc2⟩ := v3_at hrd3.to hjn
          have hUs := upTo_succ hkn hjn
          have hUl := upTo_lt hkn hjn
          have hW0 : W ≠ 0 := by omega
          have hk0 : (0 : Int) ≤ (k : Int) := by omega
          have hbl : B < wr.heap.size := Nat.lt_of_lt_of_le hE3.lB hE3.lt
          gi_wp2
          obtain ⟨W1, hW1⟩ : ∃ W1, (wr.alloc (Obj.cells #[Value.int IntKind.i64 rows[k][j].x, Value.int IntKind.i64 rows[k][j].y, Value.int IntKind.i64 rows[k][j].z] 39)) = W1 := ⟨_, rfl⟩
          have hE4 : AllAt N1 N0 B X Z W D (some ad) rows.length c rows W1 := by rw [← hW1]; exact hE3.keep (Keep2.below ((Below.refl wr.heap.size wr).alloc (Nat.le_refl _) _) hE3.lt)
          have hf : W1.cell? ⟨wr.heap.size, 0, none⟩ = some (.int .i64 rows[k][j].x) ∧ W1.cell? ⟨wr.heap.size, 1, none⟩ = some (.int .i64 rows[k][j].y) ∧ W1.cell? ⟨wr.heap.size, 2, none⟩ = some (.int .i64 rows[k][j].z) := by
            rw [← hW1]; exact ⟨World.cell?_alloc_at _ _ _ _ rfl, World.cell?_alloc_at _ _ _ _ rfl, World.cell?_alloc_at _ _ _ _ rfl⟩
          rw [hW1]
          refine wpIn_region_tail2 (List.replicate 19 true) (fun w' => w'.cell? ⟨B, 0, none⟩ = some (.int .i64 X) ∧ w'.cell? ⟨B, 1, none⟩ = some (.int .i64 Z) ∧ w'.cell? ⟨B, 2, none⟩ = some (.int .i64 W) ∧
            w'.cell? ⟨wr.heap.size, 0, none⟩ = some (.int .i64 rows[k][j].x) ∧ w'.cell? ⟨wr.heap.size, 1, none⟩ = some (.int .i64 rows[k][j].y) ∧ w'.cell? ⟨wr.heap.size, 2, none⟩ = some (.int .i64 rows[k][j].z)) (fun _ => trivial) rfl (by intro c d v a w h; cases d <;> exact h) (by kernel_rfl) ?_
          have hS : (fun w' : World => w'.cell? ⟨B, 0, none⟩ = some (.int .i64 X) ∧ w'.cell? ⟨B, 1, none⟩ = some (.int .i64 Z) ∧ w'.cell? ⟨B, 2, none⟩ = some (.int .i64 W) ∧
            w'.cell? ⟨wr.heap.size, 0, none⟩ = some (.int .i64 rows[k][j].x) ∧ w'.cell? ⟨wr.heap.size, 1, none⟩ = some (.int .i64 rows[k][j].y) ∧ w'.cell? ⟨wr.heap.size, 2, none⟩ = some (.int .i64 rows[k][j].z)) W1.drew := ⟨hE4.hx, hE4.hz, hE4.hw, hf.1, hf.2.1, hf.2.2⟩
          simp only [List.replicate, List.length_cons, List.length_nil, Nat.reduceAdd, List.take_succ_cons, List.take_zero, List.drop_succ_cons, List.drop_zero]
          iterate 19 (apply wpHd_quiet rfl hS; (intro w' hw'; obtain ⟨q0, q1, q2, q3, q4, q5⟩ := hw'; go_simp; first | exact rfl | (rw [if_neg hW0, Int.tmod_eq_emod_of_nonneg hk0]; exact rfl) | (rw [if_neg hW0, Int.tdiv_eq_ediv_of_nonneg hk0]; exact rfl)); go_simp)
          refine wpHd_nil ?_
          have hx1 := ho.1
          have hx2 := ho.2.1
          have hz1 := ho.2.2.1
          have hz2 := ho.2.2.2.1
          have e1 : IntKind.i64.wrap (X + (k : Int).tmod W) = X + (k : Int) % W := by rw [Int.tmod_eq_emod_of_nonneg hk0, IntKind.wrap_i64]; omega
          have e2 : IntKind.i64.wrap ((k : Int) / W) = (k : Int) / W := by rw [IntKind.wrap_i64]; omega
          have e3 : IntKind.i64.wrap (Z + (k : Int) / W) = Z + (k : Int) / W := by rw [IntKind.wrap_i64]; omega
          rw [e1, e2, e3]
          have hbW : Below wr.heap.size wr W1.drew := by rw [← hW1]; exact ((Below.refl wr.heap.size wr).alloc (Nat.le_refl _) _).drew
          clear e1 e2 e3 hx1 hx2 hz1 hz2 hS hf hW1 hc0 hc1 hc2
          obtain ⟨fn, tmps, assign, body, hy, hR⟩ := hY (upTo rows k hkn j) (⟨k, hkn⟩, rows[k][j]) W1.drew (hPm k hkn j hjn) (hJ _ _ _ none hJ3 (grown_of_below hbW) (by intro r hr; cases hr)) hUl
          simp only [spotOf] at hy
          gi_wp2
          refine hR.mono ?_
          rintro e W3 (⟨rfl, hJ4, hk4⟩ | ⟨rfl, hJx4⟩)
          · have hk5 : Keep2 N1 N0 wr W3 := (Keep2.below hbW hE3.lt).trans hk4
            gi_wp2
            go_roundw
            case rel => exact ⟨j + 1, by go_num, by omega, hE3.keep hk5, by rw [hUs]; exact hJ4, Nat.le_trans hs3 hk5.1, hrd3.keep hk5⟩
            case measure => simp [intOf]; omega
          · gi_wp2
            refine bodyPost_ret (results_none rfl _ _ _) rfl ?_
            exact ⟨⟨_, rfl⟩, .inr ⟨_, hUs ▸ upTo_pre hkn (j + 1), hJx4⟩⟩
        · obtain rfl : j = rows[k].length := by omega
          have hUe := upTo_end hkn
          gi_wp2
          go_roundw
          case rel => exact ⟨k + 1, by go_num, by omega, hE3, by rw [← hUe]; exact hJ3, hs3⟩
          case measure => simp [intOf]; omega
    · obtain rfl : k = rows.length := by omega
      gi_wp2
      go_end0
      exact ⟨⟨_, rfl⟩, .inl ⟨_, rfl, hJ2⟩⟩
theorem all1p_stops (n : Nat) (hn : 1 ≤ n) (N1 N0 B : Nat) (X Z W D : Int) (A : Option Addr) (c : Nat) (rows : List (List V3)) (ho : gridOk X Z W D rows) (Pm : Fin rows.length × V3 → Prop) (hPm : ∀ (k : Nat) (h : k < rows.length) (j : Nat) (hj : j < rows[k].length), Pm (⟨k, h⟩, rows[k][j])) (w : World) (hE : AllAt N1 N0 B X Z W D A rows.length c rows w) :
    SeqStopsK Fence.wide n Try.prog 47 #[.pointer (some ⟨B, 0, none⟩)] (fun x : { x // Pm x } => spotOf X Z W x.1) (Keep2 N1 N0) (fun ys => ys.map Subtype.val = flat rows) (fun pre => pre.map Subtype.val <+: flat rows) (flat rows).length w := fun l J Jx Wd hW hJ _ hY h0 => by
  refine (all1p_in n hn l N1 N0 B X Z W D A c rows ho Pm hPm (fun pre W => ∃ pre' : List { x // Pm x }, pre'.map Subtype.val = pre ∧ J pre' W) (fun pre W => ∃ pre' : List { x // Pm x }, pre'.map Subtype.val = pre ∧ Jx pre' W) ?_ Wd ?_ (hE.keep (Keep2.below hW hE.lt)) ⟨[], rfl, h0⟩).mono ?_
  · rintro pre x V hx ⟨pre', rfl, hj⟩ hlt
    obtain ⟨fn, tmps, assign, body, hy, hR⟩ := hY pre' ⟨x, hx⟩ V hj (by simpa using hlt)
    refine ⟨fn, tmps, assign, body, hy, hR.mono fun e V' h => ?_⟩
    rcases h with ⟨he, h1, h2⟩ | ⟨he, h1⟩
    · exact .inl ⟨he, ⟨_, by simp, h1⟩, h2⟩
    · exact .inr ⟨he, ⟨_, by simp, h1⟩⟩
  · rintro s V V' row ⟨pre', rfl, hj⟩ hg hr
    exact ⟨pre', rfl, hJ _ _ _ row hj hg hr⟩
  · rintro e V' ⟨hv, h⟩
    refine ⟨hv, ?_⟩
    rcases h with ⟨ys, rfl, pre', hp, hj⟩ | ⟨pre, hpre, pre', rfl, hj⟩
    · exact .inl ⟨pre', hp, hj⟩
    · exact .inr ⟨pre', hpre, hj⟩
theorem sum_set : ∀ (c : List Int) (i : Nat) (h : i < c.length), (c.set i (c[i] + 1)).sum = c.sum + 1
  | x :: c, 0, _ => by simp; omega
  | x :: c, i + 1, h => by
    have := sum_set c i (by simpa using h)
    simp at this ⊢
    omega
theorem le_sum : ∀ (c : List Int), (∀ x ∈ c, 0 ≤ x) → ∀ (i : Nat) (h : i < c.length), 0 ≤ c.sum ∧ c[i] ≤ c.sum
  | [], _, i, h => by simp at h
  | x :: c, hc, 0, _ => by
    have h0 := hc x (List.mem_cons_self ..)
    have : 0 ≤ c.sum := by
      cases c with
      | nil => simp
      | cons y c => exact (le_sum (y :: c) (fun z hz => hc z (List.mem_cons_of_mem _ hz)) 0 (by simp)).1
    simp; omega
  | x :: c, hc, i + 1, h => by
    have h0 := hc x (List.mem_cons_self ..)
    have := le_sum c (fun z hz => hc z (List.mem_cons_of_mem _ hz)) i (by simpa using h)
    simp; omega
/-- How far it has counted: block Cb holds eight numbers; nothing else below N0 has changed. -/
structure CountAt (N0 Cb : Nat) (w1 : World) (n : Nat) (c : List Int) (Wd : World) : Prop where
  len : c.length = 8
  pos : ∀ x ∈ c, 0 ≤ x
  sum : c.sum = n
  size : N0 ≤ Wd.heap.size
  below : Below Cb w1 Wd
  keep : ∀ j, j < N0 → j ≠ Cb → Wd.heap[j]? = w1.heap[j]?
  cells : Wd.heap[Cb]? = some (.cells (ics c).toArray 55 (0, 0))
theorem CountAt.grown {N0 Cb n : Nat} {w1 Wd W' : World} {c : List Int} {row : Option Nat} (hC : Cb < N0) (h : CountAt N0 Cb w1 n c Wd) (hg : Wd.grownBy W' row) (hr : ∀ r, row = some r → N0 ≤ r) : CountAt N0 Cb w1 n c W' := by
  have hs := h.size
  have hb : ∀ j, j < N0 → W'.heap[j]? = Wd.heap[j]? := fun j hj => hg.block j (by omega) (fun e => by have := hr j e.symm; omega)
  exact ⟨h.len, h.pos, h.sum, Nat.le_trans hs hg.size, h.below.grown hg (by omega) (fun k e => by have := hr k e; omega), fun j hj hjc => (hb j hj).trans (h.keep j hj hjc), (hb Cb hC).trans h.cells⟩
theorem CountAt.step {N0 Cb n : Nat} {w1 Wd : World} {c : List Int} (h : CountAt N0 Cb w1 n c Wd) {i : Nat} (hi : i < c.length) : CountAt N0 Cb w1 (n + 1) (c.set i (c[i] + 1)) (Wd.setCell ⟨Cb, i, none⟩ (.int .i64 (c[i] + 1))) := by
  have hs := h.size
  have hg := grownBy_setCell4 Wd Cb i (.int .i64 (c[i] + 1))
  refine ⟨by rw [List.length_set]; exact h.len, fun x hx => ?_, by rw [sum_set, h.sum]; omega, Nat.le_trans hs hg.size, h.below.setCell (p := ⟨Cb, i, none⟩) (Nat.le_refl Cb) _, fun j hj hjc => (hg.block j (by omega) (by intro e; injection e with e; exact hjc e)).trans (h.keep j hj hjc), ?_⟩
  · obtain ⟨q, hq⟩ := List.getElem?_of_mem hx
    by_cases hqi : i = q
    · subst hqi
      rw [List.getElem?_set_self hi] at hq
      injection hq with hq
      have := h.pos _ (List.getElem_mem hi)
      omega
    · rw [List.getElem?_set_ne hqi] at hq
      exact h.pos _ (List.mem_of_getElem? hq)
  · rw [heap_setCell_same _ _ _ _ _ _ h.cells]
    simp [ics]
theorem results_c {fn : Func} {t : Tmp} (h : fn.results = #[.cell t 55]) (tmps : Array Value) (w : World) (B : Nat) (c0 c1 c2 c3 c4 c5 c6 c7 : Int) (ht : tmps.getD t undef = .pointer (some ⟨B, 0, none⟩)) (hb : w.heap[B]? = some (.cells #[.int .i64 c0, .int .i64 c1, .int .i64 c2, .int .i64 c3, .int .i64 c4, .int .i64 c5, .int .i64 c6, .int .i64 c7] 55 (0, 0))) :
    (results fn tmps).run Try.prog w = .ok (.agg #[.int .i64 c0, .int .i64 c1, .int .i64 c2, .int .i64 c3, .int .i64 c4, .int .i64 c5, .int .i64 c6, .int .i64 c7]) w := by
  have ht' : tmps[t]?.getD undef = .pointer (some ⟨B, 0, none⟩) := by simpa using ht
  have e : ∀ q u, #[Value.int .i64 c0, .int .i64 c1, .int .i64 c2, .int .i64 c3, .int .i64 c4, .int .i64 c5, .int .i64 c6, .int .i64 c7][q]? = some u → w.cell? ⟨B, q, none⟩ = some u := fun q u hq => by simp [World.cell?, hb, hq]
  have e0 := e 0 _ rfl
  have e1 := e 1 _ rfl
  have e2 := e 2 _ rfl
  have e3 := e 3 _ rfl
  have e4 := e 4 _ rfl
  have e5 := e 5 _ rfl
  have e6 := e 6 _ rfl
  have e7 := e 7 _ rfl
  simp [results, h, ht', e0, e1, e2, e3, e4, e5, e6, e7, go_sem]
end Go.Proofs.Ytbjbiimkhpfieaa

/- area.Count by a walk: eight numbers that together are the number of floors. No conditions but that the grid lies where it is said to lie. -/
namespace Go.Proofs.Ytbjbiimkhpfieaa
open Go Go.RowKit Go.Sx Go.Shelf
attribute [local go_sem] Oper.semAt_some
theorem eight {c : List Int} (h : c.length = 8) : ∃ c0 c1 c2 c3 c4 c5 c6 c7, c = [c0, c1, c2, c3, c4, c5, c6, c7] := by
  match c, h with
  | [c0, c1, c2, c3, c4, c5, c6, c7], _ => exact ⟨c0, c1, c2, c3, c4, c5, c6, c7, rfl⟩
theorem set8_same {B : Nat} {c0 c1 c2 c3 c4 c5 c6 c7 : Int} {w : World} (h : w.heap[B]? = some (.cells #[.int .i64 c0, .int .i64 c1, .int .i64 c2, .int .i64 c3, .int .i64 c4, .int .i64 c5, .int .i64 c6, .int .i64 c7] 55 (0, 0))) : ((((((((w.setCell ⟨B, 0, none⟩ (.int .i64 c0)).setCell ⟨B, 1, none⟩ (.int .i64 c1)).setCell ⟨B, 2, none⟩ (.int .i64 c2)).setCell ⟨B, 3, none⟩ (.int .i64 c3)).setCell ⟨B, 4, none⟩ (.int .i64 c4)).setCell ⟨B, 5, none⟩ (.int .i64 c5)).setCell ⟨B, 6, none⟩ (.int .i64 c6)).setCell ⟨B, 7, none⟩ (.int .i64 c7)).heap[B]? = some (.cells #[.int .i64 c0, .int .i64 c1, .int .i64 c2, .int .i64 c3, .int .i64 c4, .int .i64 c5, .int .i64 c6, .int .i64 c7] 55 (0, 0)) := by
  have h0 := heap_setCell_same _ B 0 _ 55 (.int .i64 c0) h
  have h1 := heap_setCell_same _ B 1 _ 55 (.int .i64 c1) h0
  have h2 := heap_setCell_same _ B 2 _ 55 (.int .i64 c2) h1
  have h3 := heap_setCell_same _ B 3 _ 55 (.int .i64 c3) h2
  have h4 := heap_setCell_same _ B 4 _ 55 (.int .i64 c4) h3
  have h5 := heap_setCell_same _ B 5 _ 55 (.int .i64 c5) h4
  have h6 := heap_setCell_same _ B 6 _ 55 (.int .i64 c6) h5
  have h7 := heap_setCell_same _ B 7 _ 55 (.int .i64 c7) h6
  rw [h7]
  simp
theorem set8_other {B : Nat} {c0 c1 c2 c3 c4 c5 c6 c7 : Int} {w : World} {k : Nat} (hk : k ≠ B) : ((((((((w.setCell ⟨B, 0, none⟩ (.int .i64 c0)).setCell ⟨B, 1, none⟩ (.int .i64 c1)).setCell ⟨B, 2, none⟩ (.int .i64 c2)).setCell ⟨B, 3, none⟩ (.int .i64 c3)).setCell ⟨B, 4, none⟩ (.int .i64 c4)).setCell ⟨B, 5, none⟩ (.int .i64 c5)).setCell ⟨B, 6, none⟩ (.int .i64 c6)).setCell ⟨B, 7, none⟩ (.int .i64 c7)).heap[k]? = w.heap[k]? :=
  ((Below.heap_setCell _ _ _ k hk).trans ((Below.heap_setCell _ _ _ k hk).trans ((Below.heap_setCell _ _ _ k hk).trans ((Below.heap_setCell _ _ _ k hk).trans ((Below.heap_setCell _ _ _ k hk).trans ((Below.heap_setCell _ _ _ k hk).trans ((Below.heap_setCell _ _ _ k hk).trans (Below.heap_setCell _ _ _ k hk))))))))
theorem below_set8 {N B : Nat} {c0 c1 c2 c3 c4 c5 c6 c7 : Int} {w0 w : World} (h : Below N w0 w) (hB : N ≤ B) : Below N w0 ((((((((w.setCell ⟨B, 0, none⟩ (.int .i64 c0)).setCell ⟨B, 1, none⟩ (.int .i64 c1)).setCell ⟨B, 2, none⟩ (.int .i64 c2)).setCell ⟨B, 3, none⟩ (.int .i64 c3)).setCell ⟨B, 4, none⟩ (.int .i64 c4)).setCell ⟨B, 5, none⟩ (.int .i64 c5)).setCell ⟨B, 6, none⟩ (.int .i64 c6)).setCell ⟨B, 7, none⟩ (.int .i64 c7)) :=
  ((((((((h.setCell (p := ⟨B, 0, none⟩) hB _).setCell (p := ⟨B, 1, none⟩) hB _).setCell (p := ⟨B, 2, none⟩) hB _).setCell (p := ⟨B, 3, none⟩) hB _).setCell (p := ⟨B, 4, none⟩) hB _).setCell (p := ⟨B, 5, none⟩) hB _).setCell (p := ⟨B, 6, none⟩) hB _).setCell (p := ⟨B, 7, none⟩) hB _)
set_option maxRecDepth 100000 in
set_option maxHeartbeats 2000000 in
theorem count_any2 (X Z W D : Int) (rows : List (List V3)) (A : Option Addr) (cap : Nat) (w : World) (hr : RowsAt w w.heap.size A rows) (hl : lensOk rows) (ho : gridOk X Z W D rows) :
    Calls Try.prog 24 #[gridv X Z W D A rows.length cap] w fun en w' =>
      (∃ c0 c1 c2 c3 c4 c5 c6 c7 : Int, en = .returned (.agg #[.int .i64 c0, .int .i64 c1, .int .i64 c2, .int .i64 c3, .int .i64 c4, .int .i64 c5, .int .i64 c6, .int .i64 c7]) ∧ (∀ x ∈ [c0, c1, c2, c3, c4, c5, c6, c7], 0 ≤ x) ∧ [c0, c1, c2, c3, c4, c5, c6, c7].sum = ((flat rows).length : Int)) ∧ Below w.heap.size w w' := by
  obtain ⟨W0, hW0⟩ : ∃ W0, (w.alloc (.cells #[.int .i64 X, .int .i64 Z, .int .i64 W, .int .i64 D, .slice A rows.length cap] 26)).alloc (.cells #[.int .i64 0, .int .i64 0, .int .i64 0, .int .i64 0, .int .i64 0, .int .i64 0, .int .i64 0, .int .i64 0] 55) = W0 := ⟨_, rfl⟩
  have hb0 : Below w.heap.size w W0 := by rw [← hW0]; exact ((Below.refl _ _).alloc (Nat.le_refl _) _).alloc (by simp) _
  have hs0 : W0.heap.size = w.heap.size + 2 := by rw [← hW0]; simp
  have hC0 : W0.heap[w.heap.size + 1]? = some (.cells #[.int .i64 0, .int .i64 0, .int .i64 0, .int .i64 0, .int .i64 0, .int .i64 0, .int .i64 0, .int .i64 0] 55 (0, 0)) := by rw [← hW0]; exact alloc2_new _ _ _
  have hG0 : GB w.heap.size X Z W D (.slice A rows.length cap) W0 := by rw [← hW0]; exact two_alloc _ _ _
  have hall := all_ok X Z W D rows A cap W0 ((hr.below hb0).more hb0.size) hl ho
  have h8 : ∀ r ∈ rows, r.length ≤ 8 := fun r hm => (ho.2.2.2.2.2.2.2.2.2 r hm).2
  have hrl : rows.length ≤ 4096 := by
    obtain ⟨_, _, _, _, o5, o6, o7, o8, o9, _⟩ := ho
    have := Int.mul_le_mul o6 o8 o7 (by omega : (0 : Int) ≤ 64)
    omega
  have hfl : (flat rows).length ≤ 8 * rows.length := flat_len rows h8 _ (Nat.le_refl _)
  unfold gridv at hall ⊢
  refine (callsIn_wide (n := 6)).1 ?_
  refine callsIn_of_wp_marks Try.func24 rfl trivial ?_ rfl
  simp only [Try.ntmps24, List.size_toArray, List.length_cons, List.length_nil, Nat.reduceAdd, Nat.reduceSub, Array.replicate_succ, Array.replicate_zero, List.push_toArray, List.append_toArray, List.nil_append, List.cons_append]
  obtain ⟨g0, g1, g2, g3, g4, _⟩ := hG0.cells
  gi_wp2
  try rw [hW0]
  refine ⟨trivial, (callsIn_wide.2 hall).mono ?_⟩
  rintro en w8 ⟨rfl, ⟨vg, hgb, hor⟩, hb8⟩
  have hs8 := hgb.lt
  have hC8 := Lib.hid ((hb8.block (w.heap.size + 1) (by omega)).trans hC0)
  obtain ⟨A', c', hA⟩ := AllAt.of (N1 := W0.heap.size) (by omega) hgb hor
  have hbw8 := hb0.trans (hb8.mono hb0.size)
  have hlt8 : w.heap.size + 2 < w8.heap.size := by omega
  have hs02 : w.heap.size + 2 ≤ W0.heap.size := by omega
  have hPm : ∀ (k : Nat) (h : k < rows.length) (j : Nat) (hj : j < rows[k].length), (fun x : Fin rows.length × V3 => 0 ≤ x.2.z ∧ x.2.z ≤ 7) (⟨k, h⟩, rows[k][j]) := fun k h j hj => by
    obtain ⟨_, _, _, _, a5, a6⟩ := (ho.2.2.2.2.2.2.2.2.2 _ (List.getElem_mem h)).1 j _ (List.getElem?_eq_getElem hj)
    exact ⟨a5, a6⟩
  clear hW0 hall g0 g1 g2 g3 g4 hG0 hC0 hb0 hgb hor hb8 hs0
  gi_wp2
  refine wpIn_rangeFunc_ownH rfl (by omega) (gf := 47) rfl trivial (enters_of Try.func47 (by kernel_rfl) rfl)
    (all1p_stops 5 (by omega) W0.heap.size w8.heap.size (W0.heap.size + 2) X Z W D A' c' rows ho _ hPm w8 hA) Keep2.trans (Keep2.put (Nat.le_refl _)) (Below.refl _ _) (fun _ => rfl)
    (fun pre Wd => ∃ c, CountAt w8.heap.size (w.heap.size + 1) w8 pre.length c Wd)
    (fun _ _ _ => False)
    (fun pre Wx Wy row ⟨c, h⟩ hg hr => ⟨c, h.grown (by omega) hg (fun r e => (hr r e).1)⟩)
    (fun _ _ _ _ _ hs _ _ => hs)
    ⟨[0, 0, 0, 0, 0, 0, 0, 0], rfl, by simp, rfl, Nat.le_refl _, Below.refl _ _, fun _ _ _ => rfl, hC8.out⟩
    (fun x a' Wd => ∃ S, (Wd.heap[S]? = some (.cells #[.int .i64 x.1.2.x, .int .i64 x.1.2.y, .int .i64 x.1.2.z] 39 (0, 0)) ∧ w8.heap.size ≤ S) ∧ a' = (?act : { x : Fin rows.length × V3 // 0 ≤ x.2.z ∧ x.2.z ≤ 7 } → Nat → Act) x S)
    ?ax
    ?assign ?body ?done ?stop
  case assign =>
    rintro l' pre x Wd K ⟨c, hc⟩ hK
    simp only [spotOf]
    gi_wp2
    have hbd : Below Wd.heap.size Wd (Wd.alloc (.cells #[.int .i64 x.1.2.x, .int .i64 x.1.2.y, .int .i64 x.1.2.z] 39)) := (Below.refl _ _).alloc (Nat.le_refl _) _
    refine hK _ _ ((KeepsOthers.alloc _ _).from _) (Keep2.below hbd hc.size) ⟨c, hc.grown (by omega) (grown_of_below hbd) (fun r e => by cases e)⟩ ⟨Wd.heap.size, ⟨World.alloc_heap_new _ _, hc.size⟩, ?_⟩
    generalize Wd.heap.size = Sx
    exact rfl
  case ax =>
    rintro x a' _ Wx Wy row ⟨S, ⟨h1, h2⟩, h3⟩ hg hr
    refine ⟨S, ⟨(hg.block S (Array.getElem?_eq_some_iff.1 h1).1 (fun e => ?_)).trans h1, h2⟩, h3⟩
    obtain ⟨_, o, ho', hc⟩ := hr S e.symm
    rw [h1] at ho'
    cases ho'
    cases hc
  case body =>
    rintro l' pre x a' Wd hl' ⟨rr, hrr⟩ ⟨c, hc⟩ ⟨S, ⟨hS, hgeS⟩, rfl⟩ hlt
    have hx0 := x.2.1
    have hx7 := x.2.2
    obtain ⟨z, hz⟩ : ∃ z : Nat, x.1.2.z = (z : Int) := ⟨x.1.2.z.toNat, by omega⟩
    have hz8 : z < c.length := by rw [hc.len]; omega
    have hzI : (z : Int) < 8 := by omega
    have hcz := le_sum c hc.pos z hz8
    rw [hc.sum] at hcz
    have e1 : IntKind.i64.wrap (c[z] + 1) = c[z] + 1 := by rw [IntKind.wrap_i64]; have := hc.pos _ (List.getElem_mem hz8); omega
    have s2 : Wd.cell? ⟨S, 2, none⟩ = some (.int .i64 (z : Int)) := by rw [← hz]; simp [World.cell?, hS]
    have k0 : Wd.cell? ⟨w.heap.size + 1, z, none⟩ = some (.int .i64 c[z]) := by simp [World.cell?, hc.cells, ics, hz8]
    have f0 : Wd.frozen? ⟨w.heap.size + 1, z, none⟩ = false := by simp [World.frozen?, hc.cells]
    have hfin := Lib.hid (hc.step hz8)
    have hkp := Lib.hid hc.keep
    have hsz := hc.size
    clear hS hc hcz hrr hA hC8
    gi_wp2
    refine ⟨(KeepsOthers.setCell _ _ _).from _, ⟨(KeepsOthers.setCell _ _ _).size, fun j h1 h2 => (hfin.out.keep j h2 (by omega)).trans (hkp.out j h2 (by omega)).symm⟩, c.set z (c[z] + 1), ?_⟩
    rw [List.length_append]
    exact hfin.out
  case done =>
    rintro D' ys Wf hD' hys ⟨c, hc⟩ hdf
    obtain ⟨c0, c1, c2, c3, c4, c5, c6, c7, rfl⟩ := eight hc.len
    have hcc : Wf.heap[w.heap.size + 1]? = some (.cells #[.int .i64 c0, .int .i64 c1, .int .i64 c2, .int .i64 c3, .int .i64 c4, .int .i64 c5, .int .i64 c6, .int .i64 c7] 55 (0, 0)) := hc.cells
    have e : ∀ q u, (#[.int .i64 c0, .int .i64 c1, .int .i64 c2, .int .i64 c3, .int .i64 c4, .int .i64 c5, .int .i64 c6, .int .i64 c7] : Array Value)[q]? = some u → Wf.cell? ⟨w.heap.size + 1, q, none⟩ = some u := fun q u hq => by simp [World.cell?, hcc, hq]
    have fz : ∀ q, Wf.frozen? ⟨w.heap.size + 1, q, none⟩ = false := fun q => by simp [World.frozen?, hcc]
    have e0 := e 0 _ rfl
    have e1 := e 1 _ rfl
    have e2 := e 2 _ rfl
    have e3 := e 3 _ rfl
    have e4 := e 4 _ rfl
    have e5 := e 5 _ rfl
    have e6 := e 6 _ rfl
    have e7 := e 7 _ rfl
    have hys' : ys.length = (flat rows).length := by rw [← hys, List.length_map]
    have hpos := hc.pos
    have hsum := hc.sum
    rw [hys'] at hsum
    have hbf := hbw8.trans (hc.below.mono (by omega))
    have hdh := Lib.hid hdf
    have hch := Lib.hid hcc
    clear e hcc hdf hc hys hA hC8
    have hph := Lib.hid hpos
    have hsh := Lib.hid hsum
    clear hpos hsum
    gi_wp2
    obtain ⟨We, hWe⟩ : ∃ We, ((((((((Wf.setCell ⟨w.heap.size + 1, 0, none⟩ (.int .i64 c0)).setCell ⟨w.heap.size + 1, 1, none⟩ (.int .i64 c1)).setCell ⟨w.heap.size + 1, 2, none⟩ (.int .i64 c2)).setCell ⟨w.heap.size + 1, 3, none⟩ (.int .i64 c3)).setCell ⟨w.heap.size + 1, 4, none⟩ (.int .i64 c4)).setCell ⟨w.heap.size + 1, 5, none⟩ (.int .i64 c5)).setCell ⟨w.heap.size + 1, 6, none⟩ (.int .i64 c6)).setCell ⟨w.heap.size + 1, 7, none⟩ (.int .i64 c7)) = We := ⟨_, rfl⟩
    have hcW : We.heap[w.heap.size + 1]? = some (.cells #[.int .i64 c0, .int .i64 c1, .int .i64 c2, .int .i64 c3, .int .i64 c4, .int .i64 c5, .int .i64 c6, .int .i64 c7] 55 (0, 0)) := by rw [← hWe]; exact set8_same hch.out
    have hbe : Below w.heap.size w We := by rw [← hWe]; exact below_set8 hbf (by omega)
    have hde : We.heap[D']? = some (.deferred (some [])) := by rw [← hWe]; exact (set8_other (by omega)).trans hdh.out
    rw [hWe]
    refine ⟨by simp, .inl ⟨_, _, rfl, run_takeDeferred hde, ?_⟩⟩
    refine ⟨_, results_c rfl _ _ (w.heap.size + 1) c0 c1 c2 c3 c4 c5 c6 c7 rfl (((grownBy_putObj' We D' (.deferred none)).block _ (Array.getElem?_eq_some_iff.1 hcW).1 (by intro e; injection e with e; omega)).trans hcW), ⟨c0, c1, c2, c3, c4, c5, c6, c7, rfl, hph.out, hsh.out⟩, ?_⟩
    exact hbe.trans (belowK_b (w := w8) (by omega) _ D' _ _ hD' hde rfl rfl)
  case stop =>
    rintro D' c0 pre Wd _ _ h _
    exact h.elim
end Go.Proofs.Ytbjbiimkhpfieaa

/- AreaAny by a walk: its call tells true. No conditions but that the grid and the boxes lie where they are said to lie. -/
namespace Go.Proofs.Ytbjbiimkhpfieaa
open Go Go.RowKit Go.Sx
attribute [local go_sem] Oper.semAt_some
theorem ris_get : ∀ (l : List B8) (n k : Nat) (h : k < l.length), (risF l n)[k]'(by rw [risF_length]; exact h) = { l[k] with id := ((n + k : Nat) : Int) + 1 }
  | b :: l, n, 0, _ => rfl
  | b :: l, n, k + 1, h => by
    have := ris_get l (n + 1) k (by simpa using h)
    show (risF l (n + 1))[k]'_ = _
    rw [this, show n + 1 + k = n + (k + 1) by omega]
    rfl
theorem bcs_snoc (l : List B8) (b : B8) : bcs (l ++ [b]) = bcs l ++ b.cs := by simp [bcs]
theorem ris_take (l : List B8) (k : Nat) (h : k < l.length) : bcs ((risF l 0).take (k + 1)) = bcs ((risF l 0).take k) ++ [.int .i64 ((k : Int) + 1), .int .i64 l[k].x0, .int .i64 l[k].z0, .int .i64 l[k].x1, .int .i64 l[k].z1, .int .i64 l[k].y0, .int .i64 l[k].y1, .int .i64 l[k].ar] := by
  rw [List.take_succ_eq_append_getElem (by rw [risF_length]; exact h), bcs_snoc, ris_get l 0 k h, Nat.zero_add]
  rfl
theorem flatTo_len (rows : List (List V3)) : ∀ k, k ≤ rows.length → (flatTo rows k).length = ((rows.take k).map List.length).sum
  | 0, _ => by simp [flatTo]
  | k + 1, h => by
    rw [flatTo_succ h, List.length_append, List.length_map, flatTo_len rows k (by omega), List.take_succ_eq_append_getElem h, List.map_append, List.sum_append]
    simp
theorem flat_mark_len (l : List B8) (X Z W : Int) (rows : List (List V3)) : (flat (markF l X Z W rows)).length = (flat rows).length := by
  unfold flat
  rw [flatTo_len _ _ (Nat.le_refl _), flatTo_len _ _ (Nat.le_refl _), List.take_length, List.take_length]
  congr 1
  refine List.ext_getElem? fun i => ?_
  rw [List.getElem?_map, List.getElem?_map, markF_get]
  cases rows[i]? <;> simp
theorem take_sum (c : List Int) (hc : ∀ x ∈ c, 0 ≤ x) : ∀ q, q ≤ c.length → 0 ≤ (c.take q).sum ∧ (c.take q).sum ≤ c.sum := by
  induction c with
  | nil => intro q _; simp
  | cons x c ih =>
    intro q hq
    have h0 := hc x (List.mem_cons_self ..)
    have ih' := ih (fun y hy => hc y (List.mem_cons_of_mem _ hy))
    cases q with
    | zero =>
      have := (ih' c.length (Nat.le_refl _)).1
      rw [List.take_length] at this
      simp; omega
    | succ q =>
      have := ih' q (by simpa using hq)
      simp; omega
theorem mark_bad1 {a b c d e f g X Z W D : Int} (hcn : checkF a b c d e f g ≠ 0) (rows : List (List V3)) (A : Option Addr) (cap : Nat) (l : List B8) (Al : Option Addr) (cl : Nat) (w : World)
    (hr : RowsAt w w.heap.size A rows) (hl : lensOk rows) (hb : Reads w w.heap.size 8 Al l.length (bcs l)) (hbl : l.length ≤ 9223372036854775807) :
    Calls Try.prog 22 #[cfgv a b c d e f g, gridv X Z W D A rows.length cap, .slice Al l.length cl] w fun en w' => en = .returned (.tuple #[gridv 0 0 0 0 none 0 0, .int .i64 20]) ∧ Below w.heap.size w w' := by
  refine (mark_any a b c d e f g X Z W D rows A cap l Al cl w hr hl hb hbl).mono fun en w' ⟨h, hbw⟩ => ?_
  rcases h with ⟨_, h⟩ | ⟨h, _⟩ | ⟨h, _⟩
  · exact ⟨h, hbw⟩
  · exact absurd h hcn
  · exact absurd h hcn
theorem mark_bad2 {a b c d e f g X Z W D : Int} {rows : List (List V3)} {l : List B8} (hc : checkF a b c d e f g = 0) (hn : ¬ markOk f g X Z W D rows l) (A : Option Addr) (cap : Nat) (Al : Option Addr) (cl : Nat) (w : World)
    (hr : RowsAt w w.heap.size A rows) (hl : lensOk rows) (hb : Reads w w.heap.size 8 Al l.length (bcs l)) (hbl : l.length ≤ 9223372036854775807) :
    Calls Try.prog 22 #[cfgv a b c d e f g, gridv X Z W D A rows.length cap, .slice Al l.length cl] w fun en w' => en = .returned (.tuple #[gridv 0 0 0 0 none 0 0, .int .i64 2]) ∧ Below w.heap.size w w' := by
  refine (mark_any a b c d e f g X Z W D rows A cap l Al cl w hr hl hb hbl).mono fun en w' ⟨h, hbw⟩ => ?_
  rcases h with ⟨h, _⟩ | ⟨_, _, h⟩ | ⟨_, h, _⟩
  · exact absurd hc h
  · exact ⟨h, hbw⟩
  · exact absurd h hn
theorem below_app {B : Nat} {w1 wr w2 : World} {o o' : Obj} {e : TypeId} {s k : Nat} {v : Value} {xs : List Value} (hb : Below B w1 wr) (hB : B ≤ wr.heap.size) (hrow : wr.ownsRow B e s v k xs) (hg : ((wr.alloc o).alloc o').grownBy w2 v.ownBlock) : Below B w1 w2 :=
  (hb.trans (((Below.refl _ wr).alloc hB o).alloc (by simp; omega) o')).grown hg (by simp; omega) (fun j hj => (own_lt hrow hj).1)
theorem below_app1 {B : Nat} {w1 wr w2 : World} {o : Obj} {e : TypeId} {s k : Nat} {v : Value} {xs : List Value} (hb : Below B w1 wr) (hB : B ≤ wr.heap.size) (hrow : wr.ownsRow B e s v k xs) (hg : (wr.alloc o).grownBy w2 v.ownBlock) : Below B w1 w2 :=
  (hb.trans ((Below.refl _ wr).alloc hB o)).grown hg (by simp; omega) (fun j hj => (own_lt hrow hj).1)
theorem cells_new2 (w : World) (o : Obj) (cs : List Value) (t : TypeId) : ∀ (j : Nat) (u : Value), cs[j]? = some u → ((w.alloc o).alloc (.cells cs.toArray t)).cell? ((⟨w.heap.size + 1, 0, none⟩ : Addr).add j) = some u := by
  have := cells_new (w.alloc o) cs t
  rwa [World.size_alloc] at this
set_option maxHeartbeats 4000000 in
set_option maxRecDepth 100000 in
theorem aany_any (a b c d e f g X Z W D : Int) (rows : List (List V3)) (A : Option Addr) (cap : Nat) (l : List B8) (Al : Option Addr) (cl : Nat) (o : List B8) (Ao : Option Addr) (co : Nat) (w : World)
    (hr : RowsAt w w.heap.size A rows) (hl : lensOk rows) (hb : Reads w w.heap.size 8 Al l.length (bcs l)) (hbl : l.length ≤ 9223372036854775807) (hob : Reads w w.heap.size 8 Ao o.length (bcs o)) (hobl : o.length ≤ 9223372036854775807) :
    Calls Try.prog 6 #[cfgv a b c d e f g, gridv X Z W D A rows.length cap, .slice Al l.length cl, .slice Ao o.length co] w fun en w' => en = .returned (.bool true) ∧ Below w.heap.size w w' := by
  have hl1 := hl.1
  have hmx : maxLen = 9223372036854775807 := rfl
  obtain ⟨i0, hi, hz0, hz1, hz2⟩ := info_parts info45
  obtain ⟨W0, hW0⟩ : ∃ W0, (w.alloc (.cells #[.int .i64 a, .int .i64 b, .int .i64 c, .int .i64 d, .int .i64 e, .int .i64 f, .int .i64 g] 23)).alloc (.cells #[.int .i64 X, .int .i64 Z, .int .i64 W, .int .i64 D, .slice A rows.length cap] 26) = W0 := ⟨_, rfl⟩
  have hk0 : FD w.heap.size a b c d e f g X Z W D A rows.length cap W0 := by rw [← hW0]; exact FD.new ..
  have hb0 : Below w.heap.size w W0 := by rw [← hW0]; exact ((Below.refl _ _).alloc (Nat.le_refl _) _).alloc (by simp) _
  have hgr := great12_any X Z W D rows A cap W0 ((hr.below hb0).more hb0.size) hl
  have hwk := fun w => wakes12_any w
  unfold gridv at hgr
  unfold cfgv gridv
  obtain ⟨k0, k1, k2, k3, k4, k5, k6, g0, g1, g2, g3, g4, klt⟩ := id hk0
  refine (callsIn_wide (n := 6)).1 ?_
  refine callsIn_of_wp Try.func6 rfl trivial ?_ rfl
  simp only [Try.ntmps6, List.size_toArray, List.length_cons, List.length_nil, Nat.reduceAdd, Nat.reduceSub, Array.replicate_succ, Array.replicate_zero, List.push_toArray, List.append_toArray, List.nil_append, List.cons_append]
  subst hW0
  gi_wp2
  refine ⟨trivial, (callsIn_wide.2 hgr).mono ?_⟩
  rintro en w1 ⟨⟨bg, rfl⟩, hb1⟩
  have hk1 := hk0.below hb1 (by simp)
  have hbw1 := hb0.trans (hb1.mono hb0.size)
  clear k0 k1 k2 k3 k4 k5 k6 g0 g1 g2 g3 g4 klt hk0 hb1 hgr hb0
  have hlast : ∀ {V w9 : World}, Below w.heap.size w V → Below V.heap.size V w9 → Below w.heap.size w w9 := fun h1 h2 => h1.trans (h2.mono h1.size)
  cases bg
  case true =>
    gi_wp2_with (refine ⟨trivial, ?_⟩; gi_at_call 16; refine (callsIn_wide.2 (hwk _)).mono ?_; rintro en w9 ⟨rfl, hb9⟩)
    refine bodyPost_ret (results_tmp rfl _ _ _) rfl ?_
    exact ⟨rfl, hlast hbw1 hb9⟩
  case false =>
    by_cases h16 : (16 : Int) < (l.length : Int)
    · gi_wp2_with (refine ⟨trivial, ?_⟩; gi_at_call 16; refine (callsIn_wide.2 (hwk _)).mono ?_; rintro en w9 ⟨rfl, hb9⟩)
      refine bodyPost_ret (results_tmp rfl _ _ _) rfl ?_
      exact ⟨rfl, hlast hbw1 hb9⟩
    by_cases h100 : (100 : Int) < (o.length : Int)
    · gi_wp2_with (refine ⟨trivial, ?_⟩; gi_at_call 16; refine (callsIn_wide.2 (hwk _)).mono ?_; rintro en w9 ⟨rfl, hb9⟩)
      refine bodyPost_ret (results_tmp rfl _ _ _) rfl ?_
      exact ⟨rfl, hlast hbw1 hb9⟩
    have hd16 : decide ((16 : Int) < (l.length : Int)) = false := by simpa using h16
    have hd100 : decide ((100 : Int) < (o.length : Int)) = false := by simpa using h100
    gi_wp2
    gi_loopw [11, 9] (fun x v wr => ∃ k : Nat, x = .int .i64 k ∧ k ≤ l.length ∧ wr.ownsRow w1.heap.size 45 8 v k (bcs ((risF l 0).take k)) ∧ Below w1.heap.size w1 wr) (fun x _ _ => l.length - (intOf x).toNat)
    case atStart => exact ⟨0, rfl, Nat.zero_le _, World.ownsRow_nil _ _ _ _, Below.refl _ _⟩
    case round =>
      obtain ⟨k, rfl, hk, hrow, hbr⟩ := hrel
      have hbrw := hbw1.trans (hbr.mono hbw1.size)
      have hsr := hbr.size
      obtain ⟨Ar, cr, rfl⟩ := own_slice hrow
      by_cases hkn : k < l.length
      · have hkn' : (k : Int) < (l.length : Int) := by omega
        obtain ⟨ad, rfl, hlt, x0, x1, x2, x3, x4, x5, x6, x7⟩ := b8_at ((hb.below hbrw).more hbrw.size) hkn
        have ht := ris_take l k hkn
        have e1 : IntKind.i64.wrap ((k : Int) + 1) = (k : Int) + 1 := by rw [IntKind.wrap_i64]; omega
        gi_wp2_with (gi_at_builtin; refine wpListIn_append_own_at _ rfl (.tmp 54) (.tmp 56) 43 rfl w1.heap.size 45 i0 _ 8 64 Try.underlying43 hi hz0 hz1 hz2 (by decide) (by decide) (.slice Ar k cr) k (bcs ((risF l 0).take k)) rfl ((hrow.alloc _).alloc _) ⟨wr.heap.size + 1, 0, none⟩ 1 1 [.int .i64 ((k : Int) + 1), .int .i64 l[k].x0, .int .i64 l[k].z0, .int .i64 l[k].x1, .int .i64 l[k].z1, .int .i64 l[k].y0, .int .i64 l[k].y1, .int .i64 l[k].ar] rfl rfl (cells_new2 _ _ _ _) (by intro y hy; simp at hy; rcases hy with rfl | rfl | rfl | rfl | rfl | rfl | rfl | rfl <;> rfl) (by omega) (by omega) (by simp; omega) ?_; intro v2 w2 hown2 hg2 _ _)
        refine ⟨⟨k + 1, by go_num, by omega, by rw [ht]; exact hown2, below_app hbr hsr hrow hg2⟩, ?_⟩
        show l.length - ((k : Int) + 1).toNat < l.length - ((k : Int)).toNat
        omega
      · obtain rfl : k = l.length := by omega
        rw [List.take_of_length_le (by rw [risF_length]; omega)] at hrow
        have hris := Reads.of_own hrow
        obtain ⟨wA, rfl⟩ : ∃ wA, wA = wr := ⟨_, rfl⟩
        have hkA := hk1.below hbr hk1.lt
        have hrln := risF_length l 0
        clear hrow
        gi_wp2
        gi_loopw [13, 10] (fun x v wq => ∃ (j : Nat) (xi : Int), x = .int .i64 xi ∧ xi = (j : Int) - 1 ∧ j ≤ l.length ∧ wq.ownsRow wA.heap.size 45 8 v (l.length - j) (bcs ((risF l 0).drop j).reverse) ∧ Below wA.heap.size wA wq) (fun x _ _ => (intOf x + 1).toNat)
        case atStart =>
          refine ⟨l.length, _, rfl, by first | rfl | (rw [IntKind.wrap_i64]; omega), Nat.le_refl _, ?_, Below.refl _ _⟩
          rw [List.drop_of_length_le (by rw [risF_length]; omega), Nat.sub_self]
          exact World.ownsRow_nil _ _ _ _
        case round =>
          obtain ⟨j, xi, rfl, hxi, hj, hrow, hbq⟩ := hrel
          have hsq := hbq.size
          obtain ⟨Ab, cb, rfl⟩ := own_slice hrow
          cases j with
          | succ j =>
            obtain rfl : xi = (j : Int) := by omega
            clear hxi
            have hjl : j < (risF l 0).length := by omega
            have hjn' : (j : Int) < (l.length : Int) := by omega
            obtain ⟨ad, rfl, hlt, x0, x1, x2, x3, x4, x5, x6, x7⟩ := b8_at (l := risF l 0) (by rw [risF_length]; exact (hris.below hbq).more hsq) hjl
            have hd : ((risF l 0).drop j).reverse = ((risF l 0).drop (j + 1)).reverse ++ [(risF l 0)[j]] := by
              rw [List.drop_eq_getElem_cons hjl, List.reverse_cons]
            replace hd := Lib.hid hd
            have e1 : IntKind.i64.wrap ((j : Int) - 1) = (j : Int) - 1 := by rw [IntKind.wrap_i64]; omega
            have hj0 : (0 : Int) ≤ (j : Int) := by omega
            gi_wp2_with (gi_at_builtin; refine wpListIn_append_own_at _ rfl (.tmp 65) (.tmp 70) 43 rfl wA.heap.size 45 i0 _ 8 64 Try.underlying43 hi hz0 hz1 hz2 (by decide) (by decide) (.slice Ab (l.length - (j + 1)) cb) (l.length - (j + 1)) (bcs ((risF l 0).drop (j + 1)).reverse) rfl (hrow.alloc _) ⟨wr.heap.size, 0, none⟩ 1 1 [.int .i64 (risF l 0)[j].id, .int .i64 (risF l 0)[j].x0, .int .i64 (risF l 0)[j].z0, .int .i64 (risF l 0)[j].x1, .int .i64 (risF l 0)[j].z1, .int .i64 (risF l 0)[j].y0, .int .i64 (risF l 0)[j].y1, .int .i64 (risF l 0)[j].ar] rfl rfl (cells_new _ _ _) (by intro y hy; simp at hy; rcases hy with rfl | rfl | rfl | rfl | rfl | rfl | rfl | rfl <;> rfl) (by omega) (by omega) (by simp; omega) ?_; intro v2 w2 hown2 hg2 _ _)
            refine ⟨⟨j, (j : Int) - 1, rfl, rfl, by omega, ?_, below_app1 hbq hsq hrow hg2⟩, ?_⟩
            · rw [hd.out, bcs_snoc, show l.length - j = l.length - (j + 1) + 1 by omega]
              exact hown2
            · show ((j : Int) - 1 + 1).toNat < ((j : Int) + 1).toNat
              omega
          | zero =>
            obtain rfl : xi = -1 := by omega
            clear hxi
            rw [List.drop_zero, Nat.sub_zero] at hrow
            have hbk := Reads.of_own hrow
            obtain ⟨wB, rfl⟩ : ∃ wB, wB = wr := ⟨_, rfl⟩
            have hkB := hkA.below hbq hkA.lt
            have BB := hbw1.trans ((hbr.trans (hbq.mono hsr)).mono hbw1.size)
            have hrsB := (hris.below hbq).more hsq
            clear hrow hkA hk1 hbq hsq hbr hsr hris hbrw
            obtain ⟨k0, k1, k2, k3, k4, k5, k6, g0, g1, g2, g3, g4, klt⟩ := id hkB
            have hrB := (hr.below BB).more BB.size
            have hmk1 := mark_any a b c d e f g X Z W D rows A cap (risF l 0) Ar cr wB hrB hl (by rw [risF_length]; exact hrsB) (by rw [risF_length]; omega)
            rw [risF_length] at hmk1
            unfold cfgv gridv at hmk1
            have hrevl : (risF l 0).reverse.length = l.length := by rw [List.length_reverse, risF_length]
            gi_wp2
            refine ⟨trivial, (callsIn_wide.2 hmk1).mono ?_⟩
            rintro en w4 ⟨hres, hb4⟩
            have B4 := hlast BB hb4
            have hk4 := hkB.below hb4 hkB.lt
            clear hmk1 k0 k1 k2 k3 k4 k5 k6 g0 g1 g2 g3 g4 klt
            obtain ⟨k0, k1, k2, k3, k4, k5, k6, g0, g1, g2, g3, g4, klt⟩ := id hk4
            have hs40 : w.heap.size < w4.heap.size := by omega
            have hs41 : w.heap.size + 1 < w4.heap.size := by omega
            unfold MarkRes at hres
            unfold gridv at hres
            rcases hres with ⟨hcn, rfl⟩ | ⟨hc0, hnok, rfl⟩ | ⟨hc0, hok, M, rfl, hrM⟩
            · have hmk2 : ∀ {V : World}, Below wB.heap.size wB V → Calls Try.prog 22 #[cfgv a b c d e f g, gridv X Z W D A rows.length cap, .slice Ab l.length cb] V fun en w' => en = .returned (.tuple #[gridv 0 0 0 0 none 0 0, .int .i64 20]) ∧ Below V.heap.size V w' := fun {V} h => by
                have := mark_bad1 (X := X) (Z := Z) (W := W) (D := D) hcn rows A cap (risF l 0).reverse Ab cb V ((hrB.below h).more h.size) hl (by rw [hrevl]; exact (hbk.below h).more h.size) (by rw [hrevl]; omega)
                rw [hrevl] at this
                exact this
              unfold cfgv gridv at hmk2
              gi_wp2_with (first | (refine ⟨trivial, ?_⟩; gi_at_call 22; refine (callsIn_wide.2 (hmk2 (hb4.alloc hb4.size _))).mono ?_; rintro en w5 ⟨rfl, hb5⟩) | (refine ⟨trivial, ?_⟩; gi_at_call 16; refine (callsIn_wide.2 (hwk _)).mono ?_; rintro en w9 ⟨rfl, hb9⟩))
              have B5 := hlast (B4.alloc B4.size _) hb5
              refine bodyPost_ret (results_tmp rfl _ _ _) rfl ?_
              exact ⟨rfl, hlast (B5.alloc B5.size _) hb9⟩
            · have hmk2 : ∀ {V : World}, Below wB.heap.size wB V → Calls Try.prog 22 #[cfgv a b c d e f g, gridv X Z W D A rows.length cap, .slice Ab l.length cb] V fun en w' => en = .returned (.tuple #[gridv 0 0 0 0 none 0 0, .int .i64 2]) ∧ Below V.heap.size V w' := fun {V} h => by
                have := mark_bad2 hc0 (fun hk => hnok (markOk_reverse.1 hk)) A cap Ab cb V ((hrB.below h).more h.size) hl (by rw [hrevl]; exact (hbk.below h).more h.size) (by rw [hrevl]; omega)
                rw [hrevl] at this
                exact this
              unfold cfgv gridv at hmk2
              gi_wp2_with (first | (refine ⟨trivial, ?_⟩; gi_at_call 22; refine (callsIn_wide.2 (hmk2 (hb4.alloc hb4.size _))).mono ?_; rintro en w5 ⟨rfl, hb5⟩) | (refine ⟨trivial, ?_⟩; gi_at_call 16; refine (callsIn_wide.2 (hwk _)).mono ?_; rintro en w9 ⟨rfl, hb9⟩))
              have B5 := hlast (B4.alloc B4.size _) hb5
              refine bodyPost_ret (results_tmp rfl _ _ _) rfl ?_
              exact ⟨rfl, hlast (B5.alloc B5.size _) hb9⟩
            · have hris0 : Rising (risF l 0) := risF_rising l 0
              obtain ⟨V5, hV5⟩ : ∃ V5, w4.alloc (.cells #[.int .i64 X, .int .i64 Z, .int .i64 W, .int .i64 D, .slice (some ⟨M, 0, none⟩) rows.length rows.length] 26) = V5 := ⟨_, rfl⟩
              have hb45 : Below w4.heap.size w4 V5 := by rw [← hV5]; exact (Below.refl _ _).alloc (Nat.le_refl _) _
              have hs5 : V5.heap.size = w4.heap.size + 1 := by rw [← hV5]; simp
              have hG5 : GB w4.heap.size X Z W D (.slice (some ⟨M, 0, none⟩) rows.length rows.length) V5 := by rw [← hV5]; exact World.alloc_heap_new _ _
              have hra5 := (hrM.to.below hb45).more hb45.size
              have B5 := hlast B4 hb45
              have hbB5 : Below wB.heap.size wB V5 := hb4.trans (hb45.mono hb4.size)
              have hmk2 := mark_good hc0 (markOk_reverse.2 hok) (markF_reverse X Z W rows hris0) A cap Ab cb V5 ((hr.below B5).more B5.size) hl (by rw [hrevl]; exact (hbk.below hbB5).more hbB5.size)
              rw [hrevl] at hmk2
              unfold cfgv gridv at hmk2
              subst hV5
              gi_wp2
              refine ⟨trivial, (callsIn_wide.2 hmk2).mono ?_⟩
              rintro en w5 ⟨M2, rfl, hrM2, hb5⟩
              obtain ⟨V5, hV5⟩ : ∃ V5, w4.alloc (.cells #[.int .i64 X, .int .i64 Z, .int .i64 W, .int .i64 D, .slice (some ⟨M, 0, none⟩) rows.length rows.length] 26) = V5 := ⟨_, rfl⟩
              rw [hV5] at hb45 hs5 hG5 hra5 B5 hbB5 hb5 hrM2
              clear hmk2 hV5 k0 k1 k2 k3 k4 k5 k6 g0 g1 g2 g3 g4 klt
              have B6 := hlast B5 hb5
              have hk5 := (hk4.below hb45 hk4.lt).below hb5 (by have := hk4.lt; omega)
              have hG6 := hG5.below hb5 hG5.lt
              have hra6 := (hra5.below hb5).more hb5.size
              have hs56 := hb5.size
              obtain ⟨k0, k1, k2, k3, k4, k5, k6, g0, g1, g2, g3, g4, klt⟩ := id hk5
              have hs60 : w.heap.size < w5.heap.size := by omega
              have hs61 : w.heap.size + 1 < w5.heap.size := by omega
              have hs64 : w4.heap.size < w5.heap.size := by omega
              obtain ⟨V7, hV7⟩ : ∃ V7, w5.alloc (.cells #[.int .i64 X, .int .i64 Z, .int .i64 W, .int .i64 D, .slice (some ⟨M2, 0, none⟩) rows.length rows.length] 26) = V7 := ⟨_, rfl⟩
              have hb57 : Below w5.heap.size w5 V7 := by rw [← hV7]; exact (Below.refl _ _).alloc (Nat.le_refl _) _
              have hs7 : V7.heap.size = w5.heap.size + 1 := by rw [← hV7]; simp
              have hGb7 : GB w5.heap.size X Z W D (.slice (some ⟨M2, 0, none⟩) rows.length rows.length) V7 := by rw [← hV7]; exact World.alloc_heap_new _ _
              have B7 := hlast B6 hb57
              have hGa7 := hG6.below hb57 hs64
              have hra7 := (hra6.below hb57).more hb57.size
              have hrb7 := (hrM2.to.below hb57).more hb57.size
              have hk7 := hk5.below hb57 hk5.lt
              have hbB7 : Below wB.heap.size wB V7 := (hbB5.trans (hb5.mono hbB5.size)).trans (hb57.mono (hbB5.trans (hb5.mono hbB5.size)).size)
              have hrs7 := (hrsB.below hbB7).more hbB7.size
              have hmk3 := mark_any a b c d e f g X Z W D rows A cap o Ao co V7 ((hr.below B7).more B7.size) hl ((hob.below B7).more B7.size) hobl
              unfold cfgv gridv at hmk3
              subst hV7
              gi_wp2
              refine ⟨trivial, (callsIn_wide.2 hmk3).mono ?_⟩
              rintro en w8 ⟨hres, hb8⟩
              obtain ⟨V7, hV7⟩ : ∃ V7, w5.alloc (.cells #[.int .i64 X, .int .i64 Z, .int .i64 W, .int .i64 D, .slice (some ⟨M2, 0, none⟩) rows.length rows.length] 26) = V7 := ⟨_, rfl⟩
              rw [hV7] at hb57 hs7 hGb7 B7 hGa7 hra7 hrb7 hk7 hbB7 hrs7 hb8 hres
              clear hmk3 hV7 k0 k1 k2 k3 k4 k5 k6 g0 g1 g2 g3 g4 klt
              have B8 := hlast B7 hb8
              have hk8 := hk7.below hb8 hk7.lt
              have hGa8 := hGa7.below hb8 hGa7.lt
              have hGb8 := hGb7.below hb8 hGb7.lt
              have hra8 := (hra7.below hb8).more hb8.size
              have hrb8 := (hrb7.below hb8).more hb8.size
              have hbB8 := hbB7.trans (hb8.mono hbB7.size)
              have hrs8 := (hrs7.below hb8).more hb8.size
              have hs78 := hb8.size
              have hs80 : w.heap.size < w8.heap.size := by omega
              have hs81 : w.heap.size + 1 < w8.heap.size := by omega
              have hs84 : w4.heap.size < w8.heap.size := by omega
              have hs85 : w5.heap.size < w8.heap.size := by omega
              clear hb45 hs5 hG5 hra5 B5 hbB5 hb5 hrM2 hb57 hG6 hra6 hk5 hrM hk4 hkB hrB hrsB hbk B4 BB hb4 hbw1 hs40 hs41 hs60 hs61 hs64 hs56 hb8 hGa7 hGb7 hra7 hrb7 hk7 hbB7 hrs7 B7 B6
              unfold MarkRes at hres
              unfold gridv at hres
              obtain ⟨k0, k1, k2, k3, k4, k5, k6, g0, g1, g2, g3, g4, klt⟩ := id hk8
              rcases hres with ⟨hcn, _⟩ | ⟨_, hnok, rfl⟩ | ⟨_, hok3, M3, rfl, hrM3⟩
              · exact absurd hc0 hcn
              · gi_wp2
                obtain ⟨wZ, hwZ⟩ : ∃ wZ, w8.alloc (.cells #[.int .i64 0, .int .i64 0, .int .i64 0, .int .i64 0, .slice none 0 0] 26) = wZ := ⟨_, rfl⟩
                have hbZ : Below w8.heap.size w8 wZ := by rw [← hwZ]; exact (Below.refl _ _).alloc (Nat.le_refl _) _
                rw [hwZ]
                have BZ := hlast B8 hbZ
                have hkZ := hk8.below hbZ hk8.lt
                have hGaZ := hGa8.below hbZ hs84
                have hGbZ := hGb8.below hbZ hs85
                have hraZ := (hra8.below hbZ).more hbZ.size
                have hrbZ := (hrb8.below hbZ).more hbZ.size
                clear hwZ hbZ B8 hk8 hGa8 hGb8 hra8 hrb8 k0 k1 k2 k3 k4 k5 k6 g0 g1 g2 g3 g4 klt hs78 hs7 hs80 hs81 hs84 hs85 hbB8 hrs8
                have hokg := gridOk_mark (X := X) (Z := Z) (W := W) (D := D) (markOk_ar hok) hok.1
                have ho := hok.1
                have hrgZ := (hr.below BZ).more BZ.size
                have h8 : ∀ r ∈ rows, r.length ≤ 8 := fun r hm => (ho.2.2.2.2.2.2.2.2.2 r hm).2
                have hrl : rows.length ≤ 4096 := by
                  obtain ⟨_, _, _, _, o5, o6, o7, o8, o9, _⟩ := ho
                  have := Int.mul_le_mul o6 o8 o7 (by omega : (0 : Int) ≤ 64)
                  omega
                have hcb : ∀ k, k ≤ rows.length → (flatTo rows k).length ≤ 8 * k := flat_len rows h8
                gi_loopw [23, 22] (fun x y wq => ∃ i : Nat, x = .int .i64 i ∧ y = .int .i64 ((flatTo rows i).length : Nat) ∧ i ≤ rows.length ∧ Below wZ.heap.size wZ wq) (fun x _ _ => rows.length - (intOf x).toNat)
                case atStart => exact ⟨0, rfl, rfl, Nat.zero_le _, Below.refl _ _⟩
                case round =>
                  obtain ⟨i, rfl, rfl, hi', hbr⟩ := hrel
                  have hsr := hbr.size
                  have hkr := hkZ.below hbr hkZ.lt
                  have g4 := hkr.g4
                  have oa := (hGaZ.below hbr hGaZ.lt).cells.2.2.2.2.1
                  by_cases hin : i < rows.length
                  · have hin' : (i : Int) < (rows.length : Int) := by omega
                    have hr8 := h8 _ (List.getElem_mem hin)
                    obtain ⟨ag, Ag, cg, rfl, hagl, hg, hrg⟩ := hrgZ.at_ hin
                    obtain ⟨aa, Aa, ca, ea, hal, ha, hra⟩ := hraZ.at_ (i := i) (by rw [markF_length]; exact hin)
                    injection ea with ea
                    subst ea
                    simp only [markF_at, List.length_map] at ha
                    simp only [markF_at] at hra
                    rw [lit_add] at ha
                    have hg' := (hbr.cell (p := ag.add i) (by rw [block_of_add]; exact hagl)).trans hg
                    have ha' := (hbr.cell (p := ⟨M, i, none⟩) hal).trans ha
                    have hfs : (flatTo rows (i + 1)).length = (flatTo rows i).length + rows[i].length := by rw [flatTo_succ hin]; simp
                    have hcbi := hcb i (by omega)
                    gi_wp2
                    gi_loopw [24, 22] (fun x y wq => ∃ k : Nat, x = .int .i64 k ∧ y = .int .i64 (((flatTo rows i).length + k : Nat) : Int) ∧ k ≤ rows[i].length ∧ Below wZ.heap.size wZ wq) (fun x _ _ => rows[i].length - (intOf x).toNat)
                    case atStart => exact ⟨0, rfl, rfl, Nat.zero_le _, hbr⟩
                    case round =>
                      obtain ⟨k, rfl, rfl, hk', hbt⟩ := hrel
                      have hst := hbt.size
                      clear g4 oa hg' ha'
                      have hkt := hkZ.below hbt hkZ.lt
                      have g4 := hkt.g4
                      have oa := (hGaZ.below hbt hGaZ.lt).cells.2.2.2.2.1
                      have hg' := (hbt.cell (p := ag.add i) (by rw [block_of_add]; exact hagl)).trans hg
                      have ha' := (hbt.cell (p := ⟨M, i, none⟩) hal).trans ha
                      by_cases hkn : k < rows[i].length
                      · have hkn' : (k : Int) < (rows[i].length : Int) := by omega
                        obtain ⟨fg, rfl, hfgl, gx, gy, _⟩ := v3_at ((hrg.below hbt).more hst) hkn
                        obtain ⟨fa, rfl, hfal, ax, ay, _⟩ := v3_at ((hra.below hbt).more hst) (j := k) (by rw [List.length_map]; exact hkn)
                        rw [List.getElem_map] at ax ay
                        have e1 : IntKind.i64.wrap ((((flatTo rows i).length + k : Nat) : Int) + 1) = (((flatTo rows i).length + (k + 1) : Nat) : Int) := by rw [IntKind.wrap_i64]; omega
                        have e1h := Lib.hid e1
                        clear e1
                        gi_wp2
                        have hS : CellsL [(⟨w4.heap.size, 4, none⟩, .slice (some ⟨M, 0, none⟩) rows.length rows.length), (⟨M, i, none⟩, .slice (some fa) rows[i].length ca), (fa.add (k * 3), .int .i64 rows[i][k].x), (⟨(fa.add (k * 3)).block, (fa.add (k * 3)).off + 1, none⟩, .int .i64 rows[i][k].y), (⟨w.heap.size + 1, 4, none⟩, .slice (some ag) rows.length cap), (ag.add i, .slice (some fg) rows[i].length cg), (fg.add (k * 3), .int .i64 rows[i][k].x), (⟨(fg.add (k * 3)).block, (fg.add (k * 3)).off + 1, none⟩, .int .i64 rows[i][k].y)] wr.drew := ⟨oa, ha', ax, ay, g4, hg', gx, gy, trivial⟩
                        refine wpIn_region_ord [(0, true), (1, true), (2, true), (3, true), (4, true), (5, true), (6, true), (7, true), (8, true), (9, true), (10, true), (11, true), (12, true), (13, true), (14, true), (15, true), (16, true), (17, true), (18, true), (19, true), (20, true), (21, true), (22, true), (23, true), (24, true), (25, true), (26, true), (27, true), (28, true), (29, true), (30, true), (31, true), (32, true), (33, true), (34, true), (35, true), (36, true), (37, true), (38, true)] (CellsL [(⟨w4.heap.size, 4, none⟩, .slice (some ⟨M, 0, none⟩) rows.length rows.length), (⟨M, i, none⟩, .slice (some fa) rows[i].length ca), (fa.add (k * 3), .int .i64 rows[i][k].x), (⟨(fa.add (k * 3)).block, (fa.add (k * 3)).off + 1, none⟩, .int .i64 rows[i][k].y), (⟨w.heap.size + 1, 4, none⟩, .slice (some ag) rows.length cap), (ag.add i, .slice (some fg) rows[i].length cg), (fg.add (k * 3), .int .i64 rows[i][k].x), (⟨(fg.add (k * 3)).block, (fg.add (k * 3)).off + 1, none⟩, .int .i64 rows[i][k].y)]) (fun _ => trivial) rfl (by intro c d v a w h; cases d <;> exact h) (by kernel_rfl) ?_
                        simp only [List.length_cons, List.length_nil, Nat.reduceAdd, List.drop_succ_cons, List.drop_zero]
                        iterate 39 (apply wpOrd_quiet rfl hS rfl; (intro w' hw'; obtain ⟨q0, q1, q2, q3, q4, q5, q6, q7, _⟩ := hw'; go_simp; exact rfl); go_simp)
                        refine wpOrd_nil ?_
                        clear hS g4 oa ha' hg' gx gy ax ay
                        gi_wp2
                        refine ⟨⟨k + 1, by go_num, ?_, by omega, hbt.drew⟩, ?_⟩
                        · first
                            | exact congrArg (Value.int .i64) e1h.out
                            | (push_cast; rfl)
                            | (congr 1; omega)
                        · show rows[i].length - ((k : Int) + 1).toNat < rows[i].length - ((k : Int)).toNat
                          omega
                      · obtain rfl : k = rows[i].length := by omega
                        gi_wp2
                        refine ⟨⟨i + 1, by go_num, by rw [hfs]; exact congrArg _ (Int.natCast_add _ _).symm, by omega, hbt⟩, ?_⟩
                        show rows.length - ((i : Int) + 1).toNat < rows.length - ((i : Int)).toNat
                        omega
                  · obtain rfl : i = rows.length := by omega
                    have hkr2 := hGaZ.below hbr hGaZ.lt
                    obtain ⟨p0, p1, p2, p3, p4, _⟩ := hkr2.cells
                    clear oa
                    have hcnt := count_any2 X Z W D (markF (risF l 0) X Z W rows) (some ⟨M, 0, none⟩) rows.length wr ((hraZ.below hbr).more hsr) (lensOk_ok hokg) hokg
                    rw [flat_mark_len, markF_length] at hcnt
                    unfold gridv at hcnt
                    gi_wp2
                    refine ⟨trivial, (callsIn_wide.2 hcnt).mono ?_⟩
                    rintro en wC ⟨⟨c0, c1, c2, c3, c4, c5, c6, c7, rfl, hpos, hsum⟩, hbC⟩
                    have hsC := hbC.size
                    have hflr : (flat rows).length ≤ 8 * rows.length := flat_len rows h8 _ (Nat.le_refl _)
                    obtain ⟨cs, hcs⟩ : ∃ cs, [c0, c1, c2, c3, c4, c5, c6, c7] = cs := ⟨_, rfl⟩
                    have hcl : cs.length = 8 := by rw [← hcs]; rfl
                    have hcsv : (.cells #[.int .i64 c0, .int .i64 c1, .int .i64 c2, .int .i64 c3, .int .i64 c4, .int .i64 c5, .int .i64 c6, .int .i64 c7] 55 : Obj) = .cells (ics cs).toArray 55 := by rw [← hcs]; rfl
                    rw [hcs] at hpos hsum
                    clear p0 p1 p2 p3 p4 g4
                    gi_wp2
                    obtain ⟨wD, hwD⟩ : ∃ wD, wC.alloc (.cells (ics cs).toArray 55) = wD := ⟨_, rfl⟩
                    have hbD : Below wC.heap.size wC wD := by rw [← hwD]; exact (Below.refl _ _).alloc (Nat.le_refl _) _
                    have hCD : wD.heap[wC.heap.size]? = some (.cells (ics cs).toArray 55 (0, 0)) := by rw [← hwD]; exact World.alloc_heap_new _ _
                    rw [hwD]
                    have hbZD : Below wZ.heap.size wZ wD := (hbr.trans (hbC.mono hsr)).trans (hbD.mono (hbr.trans (hbC.mono hsr)).size)
                    clear hwD hcsv hcs hcnt
                    have hsum1 := take_sum cs hpos
                    gi_loopw [27, 25] (fun x y wq => ∃ q : Nat, x = .int .i64 q ∧ q ≤ 8 ∧ y = .int .i64 ((cs.take q).sum) ∧ Below wD.heap.size wD wq) (fun x _ _ => 8 - (intOf x).toNat)
                    case atStart => exact ⟨0, rfl, by omega, by simp, Below.refl _ _⟩
                    case round =>
                      obtain ⟨q, rfl, hq, rfl, hbe⟩ := hrel
                      by_cases hq8 : q < 8
                      · have hq8' : (q : Int) < 8 := by omega
                        have hqc : q < cs.length := by omega
                        have hk1 : wr.cell? ⟨wC.heap.size, q, none⟩ = some (.int .i64 cs[q]) := by
                          have := (hbe.block wC.heap.size (Array.getElem?_eq_some_iff.1 hCD).1).trans hCD
                          simp [World.cell?, this, ics, hqc]
                        have hts : (cs.take (q + 1)).sum = (cs.take q).sum + cs[q] := by rw [List.take_succ_eq_append_getElem hqc, List.sum_append]; simp
                        have h1 := hsum1 (q + 1) (by omega)
                        have e1 : IntKind.i64.wrap ((cs.take q).sum + cs[q]) = (cs.take (q + 1)).sum := by rw [IntKind.wrap_i64, ← hts]; omega
                        clear hts h1
                        gi_wp2
                        refine ⟨⟨q + 1, by go_num, by omega, by first | rfl | rw [e1], hbe⟩, ?_⟩
                        show 8 - ((q : Int) + 1).toNat < 8 - ((q : Int)).toNat
                        omega
                      · obtain rfl : q = 8 := by omega
                        have e2 : (cs.take 8).sum = ((flatTo rows rows.length).length : Nat) := by rw [List.take_of_length_le (by omega), hsum]; rfl
                        rw [e2]
                        have hbZr : Below wZ.heap.size wZ wr := hbZD.trans (hbe.mono hbZD.size)
                        obtain ⟨p0, p1, p2, p3, p4, _⟩ := (hGaZ.below hbZr hGaZ.lt).cells
                        obtain ⟨r0, r1, r2, r3, r4, _⟩ := (hGbZ.below hbZr hGbZ.lt).cells
                        have hsm := same_any X Z W D (markF (risF l 0) X Z W rows) (some ⟨M, 0, none⟩) (some ⟨M2, 0, none⟩) rows.length rows.length wr ((hraZ.below hbZr).more hbZr.size) ((hrbZ.below hbZr).more hbZr.size) (lensOk_ok hokg)
                        rw [markF_length] at hsm
                        unfold gridv at hsm
                        have BE := hlast BZ hbZr
                        clear hsum1 e2 hsum hcl hCD
                        gi_wp2_with (first | (refine ⟨trivial, ?_⟩; gi_at_call 23; refine (callsIn_wide.2 hsm).mono ?_; rintro en wE ⟨rfl, hbE⟩) | (refine ⟨trivial, ?_⟩; gi_at_call 16; refine (callsIn_wide.2 (hwk _)).mono ?_; rintro en w9 ⟨rfl, hb9⟩))
                        refine bodyPost_ret (results_tmp rfl _ _ _) rfl ?_
                        exact ⟨rfl, hlast (hlast BE hbE) hb9⟩
              · obtain ⟨V9, hV9⟩ : ∃ V9, w8.alloc (.cells #[.int .i64 X, .int .i64 Z, .int .i64 W, .int .i64 D, .slice (some ⟨M3, 0, none⟩) rows.length rows.length] 26) = V9 := ⟨_, rfl⟩
                have hb89 : Below w8.heap.size w8 V9 := by rw [← hV9]; exact (Below.refl _ _).alloc (Nat.le_refl _) _
                have hs9 : V9.heap.size = w8.heap.size + 1 := by rw [← hV9]; simp
                have B9 := hlast B8 hb89
                have hrx9 := (hrM3.to.below hb89).more hb89.size
                have hok4 : markOk f g X Z W D (markF o X Z W rows) (risF l 0) := markOk_again hok3 hok.2.1 hok.2.2
                have hmk4 := mark_good hc0 hok4 (markF_markF (risF l 0) o X Z W rows) (some ⟨M3, 0, none⟩) rows.length Ar cr V9 hrx9 (lensOk_ok hok4.1) (by rw [risF_length]; exact (hrs8.below hb89).more hb89.size)
                rw [markF_length, risF_length] at hmk4
                unfold cfgv gridv at hmk4
                subst hV9
                gi_wp2
                refine ⟨trivial, (callsIn_wide.2 hmk4).mono ?_⟩
                rintro en w10 ⟨M4, rfl, hrM4, hb10⟩
                clear hmk4
                have hk9 := hk8.below hb89 hk8.lt
                have hGa9 := hGa8.below hb89 hGa8.lt
                have hGb9 := hGb8.below hb89 hGb8.lt
                have hra9 := (hra8.below hb89).more hb89.size
                have hrb9 := (hrb8.below hb89).more hb89.size
                obtain ⟨V9, hV9⟩ : ∃ V9, w8.alloc (.cells #[.int .i64 X, .int .i64 Z, .int .i64 W, .int .i64 D, .slice (some ⟨M3, 0, none⟩) rows.length rows.length] 26) = V9 := ⟨_, rfl⟩
                rw [hV9] at hb89 hs9 B9 hb10 hrx9 hk9 hGa9 hGb9 hra9 hrb9
                clear hV9 k0 k1 k2 k3 k4 k5 k6 g0 g1 g2 g3 g4 klt
                have B10 := hlast B9 hb10
                have hk10 := hk9.below hb10 hk9.lt
                have hGa10 := hGa9.below hb10 hGa9.lt
                have hGb10 := hGb9.below hb10 hGb9.lt
                have hra10 := (hra9.below hb10).more hb10.size
                have hrb10 := (hrb9.below hb10).more hb10.size
                have hokg0 := gridOk_mark (X := X) (Z := Z) (W := W) (D := D) (markOk_ar hok) hok.1
                obtain ⟨V11, hV11⟩ : ∃ V11, w10.alloc (.cells #[.int .i64 X, .int .i64 Z, .int .i64 W, .int .i64 D, .slice (some ⟨M4, 0, none⟩) rows.length rows.length] 26) = V11 := ⟨_, rfl⟩
                have hb11 : Below w10.heap.size w10 V11 := by rw [← hV11]; exact (Below.refl _ _).alloc (Nat.le_refl _) _
                have B11 := hlast B10 hb11
                have hk11 := hk10.below hb11 hk10.lt
                have hGa11 := hGa10.below hb11 hGa10.lt
                have hGb11 := hGb10.below hb11 hGb10.lt
                have hra11 := (hra10.below hb11).more hb11.size
                have hrb11 := (hrb10.below hb11).more hb11.size
                have hsm0 := same_any X Z W D (markF (risF l 0) X Z W rows) (some ⟨M4, 0, none⟩) (some ⟨M, 0, none⟩) rows.length rows.length V11 ((hrM4.to.below hb11).more hb11.size) hra11 (lensOk_ok hokg0)
                rw [markF_length] at hsm0
                unfold gridv at hsm0
                subst hV11
                obtain ⟨p0, p1, p2, p3, p4, _⟩ := hGa10.cells
                have hs104 := hGa10.lt
                clear hs9 hb89 hok4 hrx9 hk9 hGa9 hGb9 hra9 hrb9 B9 B8 hk8 hGa8 hGb8 hra8 hrb8 hs78 hs7 hs80 hs81 hs84 hs85 hbB8 hrs8 hb10 hrM4 hk10
                gi_wp2
                refine ⟨trivial, (callsIn_wide.2 hsm0).mono ?_⟩
                rintro en wZ ⟨rfl, hbE⟩
                have BZ := hlast B11 hbE
                have hkZ := hk11.below hbE hk11.lt
                have hGaZ := hGa11.below hbE hGa11.lt
                have hGbZ := hGb11.below hbE hGb11.lt
                have hraZ := (hra11.below hbE).more hbE.size
                have hrbZ := (hrb11.below hbE).more hbE.size
                clear hsm0 B10 B11 hb11 hk11 hGa11 hGb11 hra11 hrb11 hGa10 hGb10 hra10 hrb10 hs104 p0 p1 p2 p3 p4 hbE hokg0
                gi_wp2
                have hokg := gridOk_mark (X := X) (Z := Z) (W := W) (D := D) (markOk_ar hok) hok.1
                have ho := hok.1
                have hrgZ := (hr.below BZ).more BZ.size
                have h8 : ∀ r ∈ rows, r.length ≤ 8 := fun r hm => (ho.2.2.2.2.2.2.2.2.2 r hm).2
                have hrl : rows.length ≤ 4096 := by
                  obtain ⟨_, _, _, _, o5, o6, o7, o8, o9, _⟩ := ho
                  have := Int.mul_le_mul o6 o8 o7 (by omega : (0 : Int) ≤ 64)
                  omega
                have hcb : ∀ k, k ≤ rows.length → (flatTo rows k).length ≤ 8 * k := flat_len rows h8
                gi_loopw [23, 22] (fun x y wq => ∃ i : Nat, x = .int .i64 i ∧ y = .int .i64 ((flatTo rows i).length : Nat) ∧ i ≤ rows.length ∧ Below wZ.heap.size wZ wq) (fun x _ _ => rows.length - (intOf x).toNat)
                case atStart => exact ⟨0, rfl, rfl, Nat.zero_le _, Below.refl _ _⟩
                case round =>
                  obtain ⟨i, rfl, rfl, hi', hbr⟩ := hrel
                  have hsr := hbr.size
                  have hkr := hkZ.below hbr hkZ.lt
                  have g4 := hkr.g4
                  have oa := (hGaZ.below hbr hGaZ.lt).cells.2.2.2.2.1
                  by_cases hin : i < rows.length
                  · have hin' : (i : Int) < (rows.length : Int) := by omega
                    have hr8 := h8 _ (List.getElem_mem hin)
                    obtain ⟨ag, Ag, cg, rfl, hagl, hg, hrg⟩ := hrgZ.at_ hin
                    obtain ⟨aa, Aa, ca, ea, hal, ha, hra⟩ := hraZ.at_ (i := i) (by rw [markF_length]; exact hin)
                    injection ea with ea
                    subst ea
                    simp only [markF_at, List.length_map] at ha
                    simp only [markF_at] at hra
                    rw [lit_add] at ha
                    have hg' := (hbr.cell (p := ag.add i) (by rw [block_of_add]; exact hagl)).trans hg
                    have ha' := (hbr.cell (p := ⟨M, i, none⟩) hal).trans ha
                    have hfs : (flatTo rows (i + 1)).length = (flatTo rows i).length + rows[i].length := by rw [flatTo_succ hin]; simp
                    have hcbi := hcb i (by omega)
                    gi_wp2
                    gi_loopw [24, 22] (fun x y wq => ∃ k : Nat, x = .int .i64 k ∧ y = .int .i64 (((flatTo rows i).length + k : Nat) : Int) ∧ k ≤ rows[i].length ∧ Below wZ.heap.size wZ wq) (fun x _ _ => rows[i].length - (intOf x).toNat)
                    case atStart => exact ⟨0, rfl, rfl, Nat.zero_le _, hbr⟩
                    case round =>
                      obtain ⟨k, rfl, rfl, hk', hbt⟩ := hrel
                      have hst := hbt.size
                      clear g4 oa hg' ha'
                      have hkt := hkZ.below hbt hkZ.lt
                      have g4 := hkt.g4
                      have oa := (hGaZ.below hbt hGaZ.lt).cells.2.2.2.2.1
                      have hg' := (hbt.cell (p := ag.add i) (by rw [block_of_add]; exact hagl)).trans hg
                      have ha' := (hbt.cell (p := ⟨M, i, none⟩) hal).trans ha
                      by_cases hkn : k < rows[i].length
                      · have hkn' : (k : Int) < (rows[i].length : Int) := by omega
                        obtain ⟨fg, rfl, hfgl, gx, gy, _⟩ := v3_at ((hrg.below hbt).more hst) hkn
                        obtain ⟨fa, rfl, hfal, ax, ay, _⟩ := v3_at ((hra.below hbt).more hst) (j := k) (by rw [List.length_map]; exact hkn)
                        rw [List.getElem_map] at ax ay
                        have e1 : IntKind.i64.wrap ((((flatTo rows i).length + k : Nat) : Int) + 1) = (((flatTo rows i).length + (k + 1) : Nat) : Int) := by rw [IntKind.wrap_i64]; omega
                        have e1h := Lib.hid e1
                        clear e1
                        gi_wp2
                        have hS : CellsL [(⟨w4.heap.size, 4, none⟩, .slice (some ⟨M, 0, none⟩) rows.length rows.length), (⟨M, i, none⟩, .slice (some fa) rows[i].length ca), (fa.add (k * 3), .int .i64 rows[i][k].x), (⟨(fa.add (k * 3)).block, (fa.add (k * 3)).off + 1, none⟩, .int .i64 rows[i][k].y), (⟨w.heap.size + 1, 4, none⟩, .slice (some ag) rows.length cap), (ag.add i, .slice (some fg) rows[i].length cg), (fg.add (k * 3), .int .i64 rows[i][k].x), (⟨(fg.add (k * 3)).block, (fg.add (k * 3)).off + 1, none⟩, .int .i64 rows[i][k].y)] wr.drew := ⟨oa, ha', ax, ay, g4, hg', gx, gy, trivial⟩
                        refine wpIn_region_ord [(0, true), (1, true), (2, true), (3, true), (4, true), (5, true), (6, true), (7, true), (8, true), (9, true), (10, true), (11, true), (12, true), (13, true), (14, true), (15, true), (16, true), (17, true), (18, true), (19, true), (20, true), (21, true), (22, true), (23, true), (24, true), (25, true), (26, true), (27, true), (28, true), (29, true), (30, true), (31, true), (32, true), (33, true), (34, true), (35, true), (36, true), (37, true), (38, true)] (CellsL [(⟨w4.heap.size, 4, none⟩, .slice (some ⟨M, 0, none⟩) rows.length rows.length), (⟨M, i, none⟩, .slice (some fa) rows[i].length ca), (fa.add (k * 3), .int .i64 rows[i][k].x), (⟨(fa.add (k * 3)).block, (fa.add (k * 3)).off + 1, none⟩, .int .i64 rows[i][k].y), (⟨w.heap.size + 1, 4, none⟩, .slice (some ag) rows.length cap), (ag.add i, .slice (some fg) rows[i].length cg), (fg.add (k * 3), .int .i64 rows[i][k].x), (⟨(fg.add (k * 3)).block, (fg.add (k * 3)).off + 1, none⟩, .int .i64 rows[i][k].y)]) (fun _ => trivial) rfl (by intro c d v a w h; cases d <;> exact h) (by kernel_rfl) ?_
                        simp only [List.length_cons, List.length_nil, Nat.reduceAdd, List.drop_succ_cons, List.drop_zero]
                        iterate 39 (apply wpOrd_quiet rfl hS rfl; (intro w' hw'; obtain ⟨q0, q1, q2, q3, q4, q5, q6, q7, _⟩ := hw'; go_simp; exact rfl); go_simp)
                        refine wpOrd_nil ?_
                        clear hS g4 oa ha' hg' gx gy ax ay
                        gi_wp2
                        refine ⟨⟨k + 1, by go_num, ?_, by omega, hbt.drew⟩, ?_⟩
                        · first
                            | exact congrArg (Value.int .i64) e1h.out
                            | (push_cast; rfl)
                            | (congr 1; omega)
                        · show rows[i].length - ((k : Int) + 1).toNat < rows[i].length - ((k : Int)).toNat
                          omega
                      · obtain rfl : k = rows[i].length := by omega
                        gi_wp2
                        refine ⟨⟨i + 1, by go_num, by rw [hfs]; exact congrArg _ (Int.natCast_add _ _).symm, by omega, hbt⟩, ?_⟩
                        show rows.length - ((i : Int) + 1).toNat < rows.length - ((i : Int)).toNat
                        omega
                  · obtain rfl : i = rows.length := by omega
                    have hkr2 := hGaZ.below hbr hGaZ.lt
                    obtain ⟨p0, p1, p2, p3, p4, _⟩ := hkr2.cells
                    clear oa
                    have hcnt := count_any2 X Z W D (markF (risF l 0) X Z W rows) (some ⟨M, 0, none⟩) rows.length wr ((hraZ.below hbr).more hsr) (lensOk_ok hokg) hokg
                    rw [flat_mark_len, markF_length] at hcnt
                    unfold gridv at hcnt
                    gi_wp2
                    refine ⟨trivial, (callsIn_wide.2 hcnt).mono ?_⟩
                    rintro en wC ⟨⟨c0, c1, c2, c3, c4, c5, c6, c7, rfl, hpos, hsum⟩, hbC⟩
                    have hsC := hbC.size
                    have hflr : (flat rows).length ≤ 8 * rows.length := flat_len rows h8 _ (Nat.le_refl _)
                    obtain ⟨cs, hcs⟩ : ∃ cs, [c0, c1, c2, c3, c4, c5, c6, c7] = cs := ⟨_, rfl⟩
                    have hcl : cs.length = 8 := by rw [← hcs]; rfl
                    have hcsv : (.cells #[.int .i64 c0, .int .i64 c1, .int .i64 c2, .int .i64 c3, .int .i64 c4, .int .i64 c5, .int .i64 c6, .int .i64 c7] 55 : Obj) = .cells (ics cs).toArray 55 := by rw [← hcs]; rfl
                    rw [hcs] at hpos hsum
                    clear p0 p1 p2 p3 p4 g4
                    gi_wp2
                    obtain ⟨wD, hwD⟩ : ∃ wD, wC.alloc (.cells (ics cs).toArray 55) = wD := ⟨_, rfl⟩
                    have hbD : Below wC.heap.size wC wD := by rw [← hwD]; exact (Below.refl _ _).alloc (Nat.le_refl _) _
                    have hCD : wD.heap[wC.heap.size]? = some (.cells (ics cs).toArray 55 (0, 0)) := by rw [← hwD]; exact World.alloc_heap_new _ _
                    rw [hwD]
                    have hbZD : Below wZ.heap.size wZ wD := (hbr.trans (hbC.mono hsr)).trans (hbD.mono (hbr.trans (hbC.mono hsr)).size)
                    clear hwD hcsv hcs hcnt
                    have hsum1 := take_sum cs hpos
                    gi_loopw [27, 25] (fun x y wq => ∃ q : Nat, x = .int .i64 q ∧ q ≤ 8 ∧ y = .int .i64 ((cs.take q).sum) ∧ Below wD.heap.size wD wq) (fun x _ _ => 8 - (intOf x).toNat)
                    case atStart => exact ⟨0, rfl, by omega, by simp, Below.refl _ _⟩
                    case round =>
                      obtain ⟨q, rfl, hq, rfl, hbe⟩ := hrel
                      by_cases hq8 : q < 8
                      · have hq8' : (q : Int) < 8 := by omega
                        have hqc : q < cs.length := by omega
                        have hk1 : wr.cell? ⟨wC.heap.size, q, none⟩ = some (.int .i64 cs[q]) := by
                          have := (hbe.block wC.heap.size (Array.getElem?_eq_some_iff.1 hCD).1).trans hCD
                          simp [World.cell?, this, ics, hqc]
                        have hts : (cs.take (q + 1)).sum = (cs.take q).sum + cs[q] := by rw [List.take_succ_eq_append_getElem hqc, List.sum_append]; simp
                        have h1 := hsum1 (q + 1) (by omega)
                        have e1 : IntKind.i64.wrap ((cs.take q).sum + cs[q]) = (cs.take (q + 1)).sum := by rw [IntKind.wrap_i64, ← hts]; omega
                        clear hts h1
                        gi_wp2
                        refine ⟨⟨q + 1, by go_num, by omega, by first | rfl | rw [e1], hbe⟩, ?_⟩
                        show 8 - ((q : Int) + 1).toNat < 8 - ((q : Int)).toNat
                        omega
                      · obtain rfl : q = 8 := by omega
                        have e2 : (cs.take 8).sum = ((flatTo rows rows.length).length : Nat) := by rw [List.take_of_length_le (by omega), hsum]; rfl
                        rw [e2]
                        have hbZr : Below wZ.heap.size wZ wr := hbZD.trans (hbe.mono hbZD.size)
                        obtain ⟨p0, p1, p2, p3, p4, _⟩ := (hGaZ.below hbZr hGaZ.lt).cells
                        obtain ⟨r0, r1, r2, r3, r4, _⟩ := (hGbZ.below hbZr hGbZ.lt).cells
                        have hsm := same_any X Z W D (markF (risF l 0) X Z W rows) (some ⟨M, 0, none⟩) (some ⟨M2, 0, none⟩) rows.length rows.length wr ((hraZ.below hbZr).more hbZr.size) ((hrbZ.below hbZr).more hbZr.size) (lensOk_ok hokg)
                        rw [markF_length] at hsm
                        unfold gridv at hsm
                        have BE := hlast BZ hbZr
                        clear hsum1 e2 hsum hcl hCD
                        gi_wp2_with (first | (refine ⟨trivial, ?_⟩; gi_at_call 23; refine (callsIn_wide.2 hsm).mono ?_; rintro en wE ⟨rfl, hbE⟩) | (refine ⟨trivial, ?_⟩; gi_at_call 16; refine (callsIn_wide.2 (hwk _)).mono ?_; rintro en w9 ⟨rfl, hb9⟩))
                        refine bodyPost_ret (results_tmp rfl _ _ _) rfl ?_
                        exact ⟨rfl, hlast (hlast BE hbE) hb9⟩
theorem areaAny_calls (x0 x1 x2 x3 x4 x5 x6 gX gZ gW gD : Int) (v2 v3 : Value) (rows : List (List V3)) (A : Option Addr) (cap : Nat) (xs2 xs3 : List Value) (w : World) (hr : RowsAt w w.heap.size A rows) (hl : lensOk rows)
    (hin2 : InVal w.heap.size w v2 xs2 [.i, .i, .i, .i, .i, .i, .i, .i]) (hlen2 : xs2.length / 8 ≤ 9223372036854775807) (hin3 : InVal w.heap.size w v3 xs3 [.i, .i, .i, .i, .i, .i, .i, .i]) (hlen3 : xs3.length / 8 ≤ 9223372036854775807) :
    Calls Try.prog 6 #[.agg #[.int .i64 x0, .int .i64 x1, .int .i64 x2, .int .i64 x3, .int .i64 x4, .int .i64 x5, .int .i64 x6], .agg #[.int .i64 gX, .int .i64 gZ, .int .i64 gW, .int .i64 gD, .slice A rows.length cap], v2, v3] w fun en w' => en = .returned (.bool true) ∧ Below w.heap.size w w' := by
  obtain ⟨Al, cl, rfl, hb⟩ := b8s_ok hin2
  obtain ⟨Ao, co, rfl, hob⟩ := b8s_ok hin3
  exact aany_any x0 x1 x2 x3 x4 x5 x6 gX gZ gW gD rows A cap (b8s xs2) Al cl (b8s xs3) Ao co w hr hl hb (by simpa [b8s] using hlen2) hob (by simpa [b8s] using hlen3)
end Go.Proofs.Ytbjbiimkhpfieaa
