/- tri.Same: what it tells, by a walk: three rounds, each looks a corner up among those left, and takes it out (by append). No conditions. -/
import Derived.Test.YteneneadfpkahaaProg
import Derived.Test.YteneneadfpkahaaWd
import Derived.KernelRfl
import Derived.WalkLawsBesides
import Derived.LoopTactic
import Derived.Lib.Hide
namespace Go.Proofs.Yteneneadfpkahaa
open Go Go.RowKit
structure V3 where
  x : Int
  y : Int
  z : Int
deriving DecidableEq
def V3.cs (v : V3) : List Value := [.int .i64 v.x, .int .i64 v.y, .int .i64 v.z]
def vcs (l : List V3) : List Value := l.flatMap V3.cs
theorem vcs_length (l : List V3) : (vcs l).length = l.length * 3 := by
  induction l with
  | nil => rfl
  | cons v l ih => simp [vcs, V3.cs] at *; omega
theorem vcs_get (l : List V3) (j : Nat) (h : j < l.length) : (vcs l)[j * 3]? = some (.int .i64 (l[j].x)) ∧ (vcs l)[j * 3 + 1]? = some (.int .i64 (l[j].y)) ∧ (vcs l)[j * 3 + 2]? = some (.int .i64 (l[j].z)) := by
  induction l generalizing j with
  | nil => simp at h
  | cons v l ih =>
    cases j with
    | zero => simp [vcs, V3.cs]
    | succ j =>
      have := ih j (by simpa using h)
      have e : vcs (v :: l) = .int .i64 v.x :: .int .i64 v.y :: .int .i64 v.z :: vcs l := rfl
      rw [e, show (j + 1) * 3 = j * 3 + 1 + 1 + 1 by omega]
      simpa using this
/-- The last place of v among the first k. -/
def lix (v : V3) (l : List V3) : Nat → Int
  | 0 => -1
  | k + 1 => if l[k]? = some v then k else lix v l k
theorem lix_lt (v : V3) (l : List V3) (k : Nat) : -1 ≤ lix v l k ∧ lix v l k < k := by
  induction k with
  | zero => simp [lix]
  | succ k ih => simp only [lix]; split <;> omega
/-- What the program goes through. -/
def sameL : List V3 → List V3 → Bool
  | [], _ => true
  | v :: vs, l => if lix v l l.length < 0 then false else sameL vs (l.take (lix v l l.length).toNat ++ l.drop ((lix v l l.length).toNat + 1))
structure OutR (w wr : World) (i j : Int) (a0 a1 a2 b0 b1 b2 : V3) (k : Nat) (ls : List V3) (A : Option Addr) (c : Nat) : Prop where
  bel : Below w.heap.size w wr
  ia : wr.cell? ⟨w.heap.size, 0, none⟩ = some (.int .i64 i)
  ja : wr.cell? ⟨w.heap.size + 1, 0, none⟩ = some (.int .i64 j)
  sz : w.heap.size + 2 ≤ wr.heap.size
  rd : Reads wr wr.heap.size 3 A ls.length (vcs ls)
  hc : ls.length ≤ c
  hn : ls.length = 3 - k
  hs : sameL ([a0, a1, a2].drop k) ls = sameL [a0, a1, a2] [b0, b1, b2]
/-- The inner loop's relation. -/
structure InR (w1 w2 : World) (v : V3) (g : Nat) (ls : List V3) (ad : Addr) (m : Nat) : Prop where
  bel : Below w1.heap.size w1 w2
  g1 : g < w1.heap.size
  c0 : w1.cell? ⟨g, 0, none⟩ = some (.int .i64 v.x)
  c1 : w1.cell? ⟨g, 1, none⟩ = some (.int .i64 v.y)
  c2 : w1.cell? ⟨g, 2, none⟩ = some (.int .i64 v.z)
  rd : Reads w1 w1.heap.size 3 (some ad) ls.length (vcs ls)
  hm : m ≤ ls.length
theorem inner_facts {wr w2 : World} {v : V3} {ad : Addr} {ls : List V3} {m : Nat} (rd : Reads wr wr.heap.size 3 (some ad) ls.length (vcs ls))
    (hb : Below (wr.heap.size + 1) (wr.alloc (Obj.cells #[Value.int IntKind.i64 v.x, Value.int IntKind.i64 v.y, Value.int IntKind.i64 v.z] 57)) w2) :
    ∃ vx vy vz : Int, Hid (v.x = vx ∧ v.y = vy ∧ v.z = vz) ∧ w2.cell? ⟨wr.heap.size, 0, none⟩ = some (.int .i64 vx) ∧ w2.cell? ⟨wr.heap.size, 1, none⟩ = some (.int .i64 vy) ∧ w2.cell? ⟨wr.heap.size, 2, none⟩ = some (.int .i64 vz) ∧ wr.heap.size < w2.heap.size ∧
    (∀ h : m < ls.length, w2.cell? (ad.add (m * 3)) = some (.int .i64 (ls[m].x)) ∧ w2.cell? ⟨(ad.add (m * 3)).block, (ad.add (m * 3)).off + 1, none⟩ = some (.int .i64 (ls[m].y)) ∧ w2.cell? ⟨(ad.add (m * 3)).block, (ad.add (m * 3)).off + 2, none⟩ = some (.int .i64 (ls[m].z)) ∧ (ad.add (m * 3)).block < wr.heap.size) := by
  have c : ∀ j : Nat, w2.cell? ⟨wr.heap.size, j, none⟩ = #[Value.int IntKind.i64 v.x, Value.int IntKind.i64 v.y, Value.int IntKind.i64 v.z][j]? := fun j =>
    (hb.cell (p := ⟨wr.heap.size, j, none⟩) (Nat.lt_succ_self _)).trans (World.cell?_alloc_at _ _ _ _ rfl)
  refine ⟨v.x, v.y, v.z, Lib.hid ⟨rfl, rfl, rfl⟩, c 0, c 1, c 2, Nat.lt_of_lt_of_le (by simp) hb.size, fun h => ?_⟩
  have hb' : Below wr.heap.size (wr.alloc (Obj.cells #[Value.int IntKind.i64 v.x, Value.int IntKind.i64 v.y, Value.int IntKind.i64 v.z] 57)) w2 := hb.mono (Nat.le_succ _)
  obtain ⟨ad', e, hbl, hc⟩ := ((rd.alloc (Nat.le_refl _) _).below hb').2 (by omega)
  injection e with e
  subst e
  obtain ⟨g0, g1, g2⟩ := vcs_get ls m h
  exact ⟨hc _ _ g0, (by have := hc _ _ g1; rw [← add_of_add] at this; exact this), (by have := hc _ _ g2; rw [← add_of_add] at this; exact this), by rw [block_of_add]; exact hbl⟩
theorem lix_hit {v : V3} {ls : List V3} {m : Nat} (h : m < ls.length) (hx : v.x = ls[m].x) (hy : v.y = ls[m].y) (hz : v.z = ls[m].z) : lix v ls (m + 1) = m := by
  have : ls[m]? = some v := by
    rw [List.getElem?_eq_getElem h]
    congr 1
    cases hv : ls[m]
    rw [hv] at hx hy hz
    cases v
    simp_all
  simp [lix, this]
theorem lix_miss {v : V3} {ls : List V3} {m : Nat} (h : m < ls.length) (hn : ¬ (v.x = ls[m].x ∧ v.y = ls[m].y ∧ v.z = ls[m].z)) : lix v ls (m + 1) = lix v ls m := by
  have : ¬ ls[m]? = some v := by
    rw [List.getElem?_eq_getElem h]
    intro e
    injection e with e
    exact hn (by rw [e]; exact ⟨rfl, rfl, rfl⟩)
  simp [lix, this]
theorem vinfo : (Try.prog.info? 57).map (fun i => (i.zero, i.size, i.bytes)) = some (some (.agg #[.int .i64 0, .int .i64 0, .int .i64 0]), 3, 24) := by kernel_rfl
theorem vcs_one (l : List V3) : ∀ u ∈ vcs l, u.oneCell' = true := by
  intro u hu
  unfold vcs at hu
  rw [List.mem_flatMap] at hu
  obtain ⟨v, _, hv⟩ := hu
  simp only [V3.cs, List.mem_cons, List.not_mem_nil, or_false] at hv
  rcases hv with rfl | rfl | rfl <;> rfl
theorem vcs_take (l : List V3) (q : Nat) : (vcs l).take (q * 3) = vcs (l.take q) := by
  induction l generalizing q with
  | nil => simp [vcs]
  | cons v l ih =>
    cases q with
    | zero => simp [vcs]
    | succ q =>
      have e : vcs (v :: l) = .int .i64 v.x :: .int .i64 v.y :: .int .i64 v.z :: vcs l := rfl
      rw [e, show (q + 1) * 3 = q * 3 + 1 + 1 + 1 by omega]
      simp only [List.take_succ_cons, ih]
      rfl
theorem vcs_drop (l : List V3) (q : Nat) : (vcs l).drop (q * 3) = vcs (l.drop q) := by
  induction l generalizing q with
  | nil => simp [vcs]
  | cons v l ih =>
    cases q with
    | zero => simp
    | succ q =>
      have e : vcs (v :: l) = .int .i64 v.x :: .int .i64 v.y :: .int .i64 v.z :: vcs l := rfl
      rw [e, show (q + 1) * 3 = q * 3 + 1 + 1 + 1 by omega]
      simp only [List.drop_succ_cons, ih]
theorem vcs_append (l m : List V3) : vcs (l ++ m) = vcs l ++ vcs m := by simp [vcs]
theorem Reads_take {w : World} {B : Nat} {A : Option Addr} {n q : Nat} {l : List V3} (h : Reads w B 3 A n (vcs l)) (hq : q ≤ n) : Reads w B 3 A q (vcs (l.take q)) := by
  have hl := h.1
  rw [vcs_length] at hl
  refine ⟨by rw [vcs_length, List.length_take]; omega, fun h0 => ?_⟩
  obtain ⟨ad, rfl, hb, hc⟩ := h.2 (by omega)
  refine ⟨ad, rfl, hb, fun j u hu => hc j u ?_⟩
  rw [← vcs_take, List.getElem?_take] at hu
  split at hu
  · exact hu
  · cases hu
theorem ix0 (c0 c1 c2 c3 c4 c5 c6 c7 c8 : Int) (w : World) : (Instr.index 58 (.agg #[.int .i64 c0, .int .i64 c1, .int .i64 c2, .int .i64 c3, .int .i64 c4, .int .i64 c5, .int .i64 c6, .int .i64 c7, .int .i64 c8]) (.int .i64 0)).run Try.prog w = .ok (.agg #[.int .i64 c0, .int .i64 c1, .int .i64 c2]) w := by kernel_rfl
theorem ix1 (c0 c1 c2 c3 c4 c5 c6 c7 c8 : Int) (w : World) : (Instr.index 58 (.agg #[.int .i64 c0, .int .i64 c1, .int .i64 c2, .int .i64 c3, .int .i64 c4, .int .i64 c5, .int .i64 c6, .int .i64 c7, .int .i64 c8]) (.int .i64 1)).run Try.prog w = .ok (.agg #[.int .i64 c3, .int .i64 c4, .int .i64 c5]) w := by kernel_rfl
theorem ix2 (c0 c1 c2 c3 c4 c5 c6 c7 c8 : Int) (w : World) : (Instr.index 58 (.agg #[.int .i64 c0, .int .i64 c1, .int .i64 c2, .int .i64 c3, .int .i64 c4, .int .i64 c5, .int .i64 c6, .int .i64 c7, .int .i64 c8]) (.int .i64 2)).run Try.prog w = .ok (.agg #[.int .i64 c6, .int .i64 c7, .int .i64 c8]) w := by kernel_rfl
theorem ix_any (a0 a1 a2 : V3) (k : Nat) (hk : k < 3) : ∃ v : V3, [a0, a1, a2].drop k = v :: [a0, a1, a2].drop (k + 1) ∧
    ∀ w, (Instr.index 58 (.agg #[.int .i64 a0.x, .int .i64 a0.y, .int .i64 a0.z, .int .i64 a1.x, .int .i64 a1.y, .int .i64 a1.z, .int .i64 a2.x, .int .i64 a2.y, .int .i64 a2.z]) (.int .i64 k)).run Try.prog w = .ok (.agg #[.int .i64 v.x, .int .i64 v.y, .int .i64 v.z]) w := by
  have : k = 0 ∨ k = 1 ∨ k = 2 := by omega
  rcases this with rfl | rfl | rfl
  · exact ⟨a0, rfl, ix0 _ _ _ _ _ _ _ _ _⟩
  · exact ⟨a1, rfl, ix1 _ _ _ _ _ _ _ _ _⟩
  · exact ⟨a2, rfl, ix2 _ _ _ _ _ _ _ _ _⟩
theorem own_slice {w : World} {base : Nat} {e : TypeId} {size : Nat} {v : Value} {n : Nat} {xs : List Value} (h : w.ownsRow base e size v n xs) : ∃ A cap, v = .slice A n cap ∧ n ≤ cap ∧ Reads w w.heap.size size A n xs := by
  have h' := h
  rcases h.2 with ⟨rfl, rfl⟩ | ⟨g, cap, cur, rfl, _, _, hc, _⟩
  · exact ⟨none, 0, rfl, Nat.le_refl _, Reads.of_own h'⟩
  · exact ⟨_, cap, rfl, hc, Reads.of_own h'⟩
theorem out_next {w wr0 wr w1 w2 : World} {i j : Int} {a0 a1 a2 b0 b1 b2 : V3} {k q c : Nat} {ls : List V3} {A : Option Addr} {o : Obj} {v1 v2 : Value} (hr : OutR w wr0 i j a0 a1 a2 b0 b1 b2 k ls A c) (hb : Below (wr0.heap.size + 1) (wr0.alloc o) wr)
    (hg1 : wr.drew.grownBy w1 (Value.slice none 0 0).ownBlock) (hat1 : v1.ownBlock = (Value.slice none 0 0).ownBlock ∨ v1.ownBlock = some wr.drew.heap.size)
    (hown2 : w2.ownsRow wr.heap.size 57 3 v2 (0 + q + (ls.length - (q + 1))) ([] ++ vcs (ls.take q) ++ vcs (ls.drop (q + 1)))) (hg2 : w1.grownBy w2 v1.ownBlock) (hq : q + 1 ≤ ls.length) (hk : k < 3)
    (hs : sameL ([a0, a1, a2].drop (k + 1)) (ls.take q ++ ls.drop (q + 1)) = sameL [a0, a1, a2] [b0, b1, b2]) :
    ∃ A' c', v2 = .slice A' (ls.take q ++ ls.drop (q + 1)).length c' ∧ OutR w w2 i j a0 a1 a2 b0 b1 b2 (k + 1) (ls.take q ++ ls.drop (q + 1)) A' c' := by
  have hlen : (ls.take q ++ ls.drop (q + 1)).length = 0 + q + (ls.length - (q + 1)) := by
    rw [List.length_append, List.length_take, List.length_drop]; omega
  have hsz : wr0.heap.size + 1 ≤ wr.heap.size := by have := hb.size; simpa using this
  have h1 : Below wr0.heap.size wr0 wr := ((Below.refl _ _).alloc (Nat.le_refl _) _).trans (hb.mono (Nat.le_succ _))
  have h2 : Below wr0.heap.size wr0 wr.drew := h1.drew
  have h3 : Below wr0.heap.size wr0 w1 := h2.grown hg1 (by show _ ≤ wr.heap.size; omega) (by simp [Value.ownBlock])
  have hbw : Below wr0.heap.size wr0 w2 := h3.grown hg2 h3.size (fun g hg => by
    rcases hat1 with e | e <;> rw [e] at hg
    · simp [Value.ownBlock] at hg
    · injection hg with hg
      have : wr.drew.heap.size = wr.heap.size := rfl
      omega)
  obtain ⟨A', c', hv, hc', hrd⟩ := own_slice hown2
  have hsz0 := hr.sz
  refine ⟨A', c', by rw [hlen]; exact hv, hr.bel.trans (hbw.mono hr.bel.size), (hbw.cell (by show w.heap.size < _; omega)).trans hr.ia, (hbw.cell (by show w.heap.size + 1 < _; omega)).trans hr.ja, Nat.le_trans hr.sz hbw.size, ?_, by rw [hlen]; exact hc', by rw [hlen]; have := hr.hn; omega, hs⟩
  rw [hlen, vcs_append]
  simpa using hrd
set_option maxHeartbeats 2000000 in
set_option maxRecDepth 1000000 in
theorem same_any (i j : Int) (a0 a1 a2 b0 b1 b2 : V3) (w : World) :
    Calls Try.prog 63 #[.agg #[.int .i64 i, .int .i64 a0.x, .int .i64 a0.y, .int .i64 a0.z, .int .i64 a1.x, .int .i64 a1.y, .int .i64 a1.z, .int .i64 a2.x, .int .i64 a2.y, .int .i64 a2.z],
      .agg #[.int .i64 j, .int .i64 b0.x, .int .i64 b0.y, .int .i64 b0.z, .int .i64 b1.x, .int .i64 b1.y, .int .i64 b1.z, .int .i64 b2.x, .int .i64 b2.y, .int .i64 b2.z]] w fun e w' =>
      e = .returned (.bool (sameL [a0, a1, a2] [b0, b1, b2] && decide (i = j))) ∧ Below w.heap.size w w' := by
  go_enter Try.func63, Try.ntmps63
  go_wp2
  go_loopw [15, 5] (fun x l wr => ∃ (k : Nat) (ls : List V3) (A : Option Addr) (c : Nat), k ≤ 3 ∧ x = .int .i64 k ∧ l = .slice A ls.length c ∧ OutR w wr i j a0 a1 a2 b0 b1 b2 k ls A c)
    (fun x _ _ => 3 - (intOf x).toNat)
  case atStart =>
    refine ⟨0, [b0, b1, b2], _, 3, by omega, rfl, rfl, ⟨((Below.refl _ _).alloc (Nat.le_refl _) _).alloc (by simp) _, ?_, ?_, by simp, ⟨rfl, fun _ => ⟨_, rfl, by simp, fun t u hu => ?_⟩⟩, by simp, rfl, rfl⟩⟩
    · rw [World.cell?_alloc_past _ _ _ (by simp), World.cell?_alloc_at _ _ _ _ rfl]; rfl
    · rw [World.cell?_alloc_at _ _ _ _ (by simp)]; rfl
    · have hlt : t < 9 := by
        have := (List.getElem?_eq_some_iff.1 hu).1
        exact this
      have e : ∀ n, (w.heap.size + 1 = n) → (⟨n, 1, none⟩ : Addr).add t = ⟨n, 1 + t, none⟩ := fun n _ => by unfold Addr.add; split <;> simp_all
      rw [e _ rfl, World.cell?_alloc_at _ _ _ _ (by simp)]
      match t, hlt, hu with
      | 0, _, hu => exact hu
      | 1, _, hu => exact hu
      | 2, _, hu => exact hu
      | 3, _, hu => exact hu
      | 4, _, hu => exact hu
      | 5, _, hu => exact hu
      | 6, _, hu => exact hu
      | 7, _, hu => exact hu
      | 8, _, hu => exact hu
  case round =>
    obtain ⟨k, ls, A, c, hk, rfl, rfl, hr⟩ := hrel
    by_cases hk3 : k < 3
    · obtain ⟨ad, rfl, hadb, hcells⟩ := hr.rd.2 (by have := hr.hn; omega)
      clear hadb hcells
      obtain ⟨v, hdv, hix⟩ := ix_any a0 a1 a2 k hk3
      have HD := Lib.hid hdv
      clear hdv
      go_wp2_with fail
      have HK := Lib.hid hk3
      clear hk3
      go_loopw [20, 8] (fun x t w2 => ∃ m : Nat, x = .int .i64 m ∧ m ≤ ls.length ∧ t = .int .i64 (lix v ls m) ∧ Below (wr.heap.size + 1) (wr.alloc (Obj.cells #[Value.int IntKind.i64 v.x, Value.int IntKind.i64 v.y, Value.int IntKind.i64 v.z] 57)) w2)
        (fun x _ _ => ls.length - (intOf x).toNat)
      case atStart => exact ⟨0, rfl, Nat.zero_le _, rfl, Below.refl _ _⟩
      case round =>
        obtain ⟨m, rfl, hm, rfl, hb⟩ := hrel
        obtain ⟨vx, vy, vz, HX, v0, v1, v2, hlt, hel⟩ := inner_facts (m := m) hr.rd hb
        have hl3 : ls.length ≤ 3 := by have := hr.hn; omega
        by_cases hmn : m < ls.length
        · obtain ⟨e0, e1, e2, hbk⟩ := hel hmn
          generalize hP : ad.add (m * 3) = P at e0 e1 e2 hbk
          clear hel
          go_wp2
          all_goals have hd : decide ((k : Int) < 3) = true := by have := HK.out; simp; omega
          all_goals simp only [hd]
          all_goals obtain ⟨hx, hy, hz⟩ := HX.out
          all_goals refine ⟨⟨_, _, _, _, _, _, _, _, _, _, _, _, _, ⟨m + 1, ?_, ?_, ?_, ?_⟩, rfl⟩, ?_⟩
          all_goals first | go_num | omega | exact hb.alloc (by omega) _ | (rw [lix_hit hmn (by omega) (by omega) (by omega)]; done) | (rw [lix_hit hmn (by omega) (by omega) (by omega)]; go_num) | (rw [lix_miss hmn (by omega)]; done) | (simp [intOf]; omega)
        · have hmeq : m = ls.length := by omega
          subst hmeq
          have ht := lix_lt v ls ls.length
          have hsq := hr.hs
          by_cases hneg : lix v ls ls.length < 0
          · clear hel
            have hf : sameL [a0, a1, a2] [b0, b1, b2] = false := by
              rw [← hsq, HD.out, sameL, if_pos hneg]
            have hbl : Below w.heap.size w wr := (hr.bel.alloc (by have := hr.sz; omega) _).trans (hb.mono (by have := hr.sz; omega))
            clear hsq ht
            go_wp2
            go_ret
            exact ⟨by rw [hf]; rfl, hbl⟩
          · obtain ⟨q, hq⟩ : ∃ q : Nat, lix v ls ls.length = q := ⟨(lix v ls ls.length).toNat, by omega⟩
            rw [hq] at ht hneg ⊢
            have hql : (q : Int) + 1 ≤ (ls.length : Int) := by omega
            have hq0 : (0 : Int) ≤ (q : Int) := by omega
            have hqc : (q : Int) ≤ (c : Int) := by have := hr.hc; omega
            have hq1 : (0 : Int) ≤ (q : Int) + 1 := by omega
            have hlc : (ls.length : Int) ≤ (c : Int) := by have := hr.hc; omega
            have hq3 : q < 3 := by omega
            have hwr : IntKind.i64.wrap ((q : Int) + 1) = (q : Int) + 1 := by rw [IntKind.wrap_i64]; omega
            have hlc2 : ls.length ≤ c := hr.hc
            have hqc2 : q ≤ c := by omega
            have hql2 : q + 1 ≤ ls.length := by omega
            have hqc3 : q ≤ ls.length := by omega
            have hrd : Reads wr wr.heap.size 3 (some ad) ls.length (vcs ls) := ((hr.rd.alloc (Nat.le_refl _) _).below (hb.mono (Nat.le_succ _))).more (by omega)
            obtain ⟨i0, hi0, hz0, hz1, hz2⟩ := info_parts vinfo
            clear hel v0 v1 v2
            go_wp2_with fail
            have htl : Reads wr wr.heap.size 3 (if c = q + 1 then some ad else some (ad.add ((q + 1) * 3))) (ls.length - (q + 1)) (vcs (ls.drop (q + 1))) := by
              have := hrd.cut (k := q + 1) (cap := c) hql2 hlc2
              rw [vcs_drop] at this
              exact this
            go_region_law (first
              | (refine step_append_any _ rfl (.const (.slice none 0 0)) (.tmp 34) _ rfl wr.heap.size 57 i0 _ 3 24 Try.underlying111 hi0 hz0 hz1 hz2 rfl (by omega) (.slice none 0 0) 0 [] (by rfl) ⟨by simp, .inl ⟨rfl, rfl⟩⟩ wr.heap.size (some ad) q c (vcs (ls.take q)) (by rfl) (Reads_take hrd hqc3) (vcs_one _) (by simp only [maxLen]; omega) (by omega) (Nat.le_refl _) ?_; intro v1 w1 hown1 hg1 hat1)
              | (refine step_append_any _ rfl (.tmp 35) (.tmp 39) _ rfl wr.heap.size 57 i0 _ 3 24 Try.underlying111 hi0 hz0 hz1 hz2 rfl (by omega) v1 (0 + q) ([] ++ vcs (ls.take q)) (by rfl) hown1 wr.heap.size _ (ls.length - (q + 1)) (c - (q + 1)) (vcs (ls.drop (q + 1))) (by rfl) (htl.drew.grown hg1 (Nat.le_refl _) (by simp [Value.ownBlock])) (vcs_one _) (by simp only [maxLen]; omega) (by omega) ((Below.refl _ _).grown hg1 (Nat.le_refl _) (by simp [Value.ownBlock])).size ?_; intro v2 w2 hown2 hg2 hat2))
            obtain ⟨A', c', rfl, hR⟩ := out_next hr hb hg1 hat1 hown2 hg2 hql2 HK.out (by
              rw [← hsq, HD.out, sameL, hq, if_neg (by omega)]
              rfl)
            clear hown1 hown2 hg1 hg2 hat1 hat2 htl hrd hsq
            go_wp2
            go_roundw
            case rel => exact ⟨k + 1, _, A', c', by have := HK.out; omega, by go_num, by rw [show (ls.take q ++ ls.drop (q + 1)).length = q + (ls.length - (q + 1)) by rw [List.length_append, List.length_take, List.length_drop]; omega], hR⟩
            case measure => have := HK.out; simp [intOf]; omega
    · have hke : k = 3 := by omega
      subst hke
      have hfs : sameL [a0, a1, a2] [b0, b1, b2] = true := by rw [← hr.hs]; rfl
      have := hr.ia
      have := hr.ja
      have hbl := hr.bel
      go_wp2
      go_ret
      refine ⟨?_, hbl⟩
      rw [hfs, Bool.true_and]
      exact congrArg (fun b => Ending.returned (Value.bool b)) (by rw [Bool.eq_iff_iff]; simp)
end Go.Proofs.Yteneneadfpkahaa
