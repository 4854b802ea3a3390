/- slices.Insert of one triangle in a row of the call's own, by walks. No conditions but those named. -/
import Derived.Test.YtpbpbijjkmjjjaaUi
import Derived.Shelf.Spec.SlicesInsertGrow
namespace Go
section
variable {P : Program}
/-- 'copy' into a row of the call's own. -/
theorem run_copy_own (w : World) (dT sT ty elem : TypeId) (i : TypeInfo) (size base g n cap : Nat) (xs : List Value) (hown : w.ownsRow base elem size (.slice (some ⟨g, 0, none⟩) n cap) n xs) (hu : P.underlying dT = some (.slice elem)) (hi : P.info? elem = some i) (hs : i.size = size)
    (off dLen dCap : Nat) (a : Addr) (sLen sCap m : Nat) (cs : List Value) (hm : Nat.min sLen dLen = m) (hn : cs.length = m * size) (hsrc : ∀ j v, cs[j]? = some v → w.cell? (a.add j) = some v) (hfit : off + cs.length ≤ n * size) (h1 : ∀ v ∈ cs, v.oneCell' = true) :
    ∃ w', (Builtin.copy_ #[dT, sT] ty #[.slice (some ⟨g, off, none⟩) dLen dCap, .slice (some a) sLen sCap]).run P w = .ok (goInt m) w' ∧ w'.ownsRow base elem size (.slice (some ⟨g, 0, none⟩) n cap) n (xs.take off ++ cs ++ xs.drop (off + cs.length)) ∧ w.grownBy w' (some g) := by
  obtain ⟨cur, hg, hf, ho, hgr⟩ := hown.splice hfit
  refine ⟨_, ?_, ho, hgr⟩
  have hl := run_loadCells_list (P := P) w a cs hsrc
  have hst := run_storeCells_at P g off elem cs 0 cur w hg (by simpa using hf) h1
  subst hs
  have hn' : m * i.size = cs.length := hn.symm
  simp [Builtin.copy_, run_underlying hu, Builtin.lenOf, Builtin.firstCells, sizeOf, typeInfo, hi, hm, hn', hl, hst]
end
/-- A row with room is a row of one more. -/
theorem World.ownsRow.ext1 {w : World} {base e size g n cap : Nat} {xs : List Value} (h : w.ownsRow base e size (.slice (some ⟨g, 0, none⟩) n cap) n xs) (hc : n + 1 ≤ cap) :
    ∃ ys, ys.length = size ∧ w.ownsRow base e size (.slice (some ⟨g, 0, none⟩) (n + 1) cap) (n + 1) (xs ++ ys) := by
  rcases h.2 with ⟨h', _⟩ | ⟨g', cap', cur, h', hb, hg, hnc, hcm, hcs, htake⟩
  · simp at h'
  · simp only [Value.slice.injEq, Option.some.injEq, Addr.mk.injEq, and_true, true_and] at h'
    obtain ⟨rfl, rfl⟩ := h'
    have hsz : (n + 1) * size ≤ cur.toList.length := by rw [Array.length_toList, hcs]; exact Nat.mul_le_mul_right _ hc
    have e : cur.toList.take ((n + 1) * size) = xs ++ (cur.toList.drop (n * size)).take size := by
      rw [← htake, Nat.add_mul, Nat.one_mul, List.take_add]
    refine ⟨(cur.toList.drop (n * size)).take size, ?_, ?_, .inr ⟨g, cap, cur, rfl, hb, hg, hc, hcm, hcs, e⟩⟩
    · rw [List.length_take, List.length_drop]
      rw [Nat.add_mul] at hsz
      omega
    · rw [← e, List.length_take]
      exact Nat.min_eq_left hsz
end Go
set_option linter.unusedSimpArgs false
set_option linter.unusedVariables false
namespace Go.Proofs.Ytpbpbijjkmjjjaa
open Go Go.RowKit Go.Sx
/-- 'append' of so many zero values where there is no room. -/
theorem grow_zeros (w : World) (base g n cap k : Nat) (l : List T10) (hn : l.length = n) (hown : w.ownsRow base 33 10 (.slice (some ⟨g, 0, none⟩) n cap) n (fl T10.cs l)) (hk : k < n) (hc : cap < n + 1) (h1000 : n ≤ 1000) (hb : base ≤ w.heap.size) (ty : TypeId) :
    ∃ (w' : World) (G : Nat) (zs : List Value), (Builtin.append_ #[24, 3] ty #[.slice (some ⟨g, 0, none⟩) k cap, .int .i64 ((n : Int) + 1 - k)]).run Try.prog w = .ok (.slice (some ⟨w.heap.size, 0, none⟩) (n + 1) G) w' ∧
      zs.length = (n + 1 - k) * 10 ∧ n + 1 ≤ G ∧ G ≤ 9223372036854775807 ∧ w'.ownsRow base 33 10 (.slice (some ⟨w.heap.size, 0, none⟩) (n + 1) G) (n + 1) (fl T10.cs (l.take k) ++ zs) ∧ w.grownBy w' none := by
  obtain ⟨i0, hii, hz0, hz1, hz2⟩ := info_parts infoTri
  have hd := (show w.drew.ownsRow base 33 10 (.slice (some ⟨g, 0, none⟩) n cap) n (fl T10.cs l) from hown).head (k := k) (by omega)
  rw [fl_take T10.len] at hd
  have hold : (Builtin.firstCells i0.size k (.slice (some ⟨g, 0, none⟩) k cap)).run Try.prog w.drew = .ok (fl T10.cs (l.take k)).toArray w.drew := by
    rw [hz1]
    exact run_firstCells_some w.drew 10 k ⟨g, 0, none⟩ k cap _ hd.1 (fun j v hj => by
      rw [Addr.add_lit, Nat.zero_add]
      rw [hd.cellAt j (by rw [← hd.1]; exact (List.getElem?_eq_some_iff.1 hj).1)]
      exact hj)
  have h := Lib.run_append_grow_zeros w 24 3 ty 33 i0 _ .i64 .i64 Try.underlying24 Try.underlying3 hii hz0 (some ⟨g, 0, none⟩) k cap (fl T10.cs (l.take k)) hold (n + 1 - k) (by omega) (by omega) (by omega) (by omega) (by rw [hz2]; omega) (by rw [hz2, show k + (n + 1 - k) = n + 1 by omega]; exact growslice_fits hc (by omega))
  rw [show k + (n + 1 - k) = n + 1 by omega, show (((n + 1 - k : Nat)) : Int) = (n : Int) + 1 - k by omega] at h
  have hge := grownCap_ge w (n + 1) cap 33
  have hle := grownCap_le_maxLen w (n + 1) cap 33 (by unfold maxLen; omega)
  generalize grownCap w (n + 1) cap 33 = G at h hge hle
  have hkl : (fl T10.cs (l.take k)).length = k * 10 := hd.1
  have hzl : (Builtin.zeroCells (Value.agg #[.int .i64 0, .int .i64 0, .int .i64 0, .int .i64 0, .int .i64 0, .int .i64 0, .int .i64 0, .int .i64 0, .int .i64 0, .int .i64 0]).cells (n + 1 - k)).size = (n + 1 - k) * 10 := by rw [size_zeroCells]; rfl
  have hzl2 : (Builtin.zeroCells (Value.agg #[.int .i64 0, .int .i64 0, .int .i64 0, .int .i64 0, .int .i64 0, .int .i64 0, .int .i64 0, .int .i64 0, .int .i64 0, .int .i64 0]).cells (G - (n + 1))).size = (G - (n + 1)) * 10 := by rw [size_zeroCells]; rfl
  generalize Builtin.zeroCells (Value.agg #[.int .i64 0, .int .i64 0, .int .i64 0, .int .i64 0, .int .i64 0, .int .i64 0, .int .i64 0, .int .i64 0, .int .i64 0, .int .i64 0]).cells (n + 1 - k) = Z1 at h hzl
  generalize Builtin.zeroCells (Value.agg #[.int .i64 0, .int .i64 0, .int .i64 0, .int .i64 0, .int .i64 0, .int .i64 0, .int .i64 0, .int .i64 0, .int .i64 0, .int .i64 0]).cells (G - (n + 1)) = Z2 at h hzl2
  have hL : ((fl T10.cs (l.take k)).toArray ++ Z1 ++ Z2).toList = (fl T10.cs (l.take k) ++ Z1.toList) ++ Z2.toList := by simp
  have hlen : (fl T10.cs (l.take k) ++ Z1.toList).length = (n + 1) * 10 := by rw [List.length_append, hkl, show Z1.toList.length = Z1.size from Array.length_toList, hzl]; omega
  have hS : ((fl T10.cs (l.take k)).toArray ++ Z1 ++ Z2).size = G * 10 := by rw [← Array.length_toList, hL, List.length_append, hlen, show Z2.toList.length = Z2.size from Array.length_toList, hzl2]; omega
  have gg := World.grownBy_alloc w.drew (.cells ((fl T10.cs (l.take k)).toArray ++ Z1 ++ Z2) 33) none
  refine ⟨_, G, Z1.toList, h, by rw [Array.length_toList, hzl], hge, hle, ⟨hlen, .inr ⟨w.heap.size, G, _, rfl, hb, World.alloc_heap_new _ _, hge, hle, hS, ?_⟩⟩, ⟨gg.os, gg.tape, gg.output, gg.size, gg.block⟩⟩
  rw [hL, List.take_append_of_le_length (by rw [hlen]; exact Nat.le_refl _)]
  exact List.take_of_length_le (by rw [hlen]; exact Nat.le_refl _)
/-- The cells of the one triangle. -/
theorem one_cells {w : World} {gv : Nat} {t : T10} {z : Nat × Nat} (h : w.heap[gv]? = some (.cells t.cs.toArray 33 z)) : ∀ j u, t.cs[j]? = some u → w.cell? ((⟨gv, 0, none⟩ : Addr).add j) = some u := fun j u hj => by
  rw [Addr.add_lit, Nat.zero_add]
  simp [World.cell?, h, hj]
theorem ins_cells (l : List T10) (k : Nat) (t : T10) : fl T10.cs (l.take k) ++ (t.cs ++ fl T10.cs (l.drop k)) = fl T10.cs (insAt l k t) := by
  unfold insAt
  rw [fl_append, fl_cons]
theorem own_cap {w : World} {base s n cap : Nat} {A : Option Addr} {e : TypeId} {xs : List Value} (h : w.ownsRow base e s (.slice A n cap) n xs) : n ≤ cap ∧ cap ≤ 9223372036854775807 := by
  rcases h.2 with ⟨h, _⟩ | ⟨g, cap', cur, h, _, _, h1, h2, _⟩
  · injection h with _ h2 h3; omega
  · injection h with _ h3 h4
    subst h4
    exact ⟨h1, h2⟩
theorem own_rowU {w : World} {base s n : Nat} {e : TypeId} {v : Value} {xs : List Value} (h : w.ownsRow base e s v n xs) : ∃ A cap, v = .slice A n cap := by
  rcases h.2 with ⟨rfl, rfl⟩ | ⟨g, cap, cur, rfl, _⟩
  · exact ⟨_, _, rfl⟩
  · exact ⟨_, _, rfl⟩
set_option maxHeartbeats 4000000 in
set_option maxRecDepth 100000 in
/-- At the end. -/
theorem insert_end (base : Nat) (v : Value) (l : List T10) (n : Nat) (hn : l.length = n) (h1000 : n ≤ 1000) (t : T10) (gv : Nat) (w : World) (hown : w.ownsRow base 33 10 v n (fl T10.cs l)) (hv : w.heap[gv]? = some (.cells t.cs.toArray 33 (0, 0))) (hb : base ≤ w.heap.size) :
    Calls Try.prog 48 #[v, .int .i64 n, .slice (some ⟨gv, 0, none⟩) 1 1] w fun en w' => (∃ A' c', en = .returned (.slice A' (n + 1) c') ∧ Reads w' w'.heap.size 10 A' (n + 1) (fl T10.cs (insAt l n t))) ∧ w.grownBy w' v.ownBlock := by
  obtain ⟨i0, hii, hz0, hz1, hz2⟩ := info_parts infoTri
  have hc := one_cells hv
  have hins := ins_cells l n t
  rw [List.take_of_length_le (by omega), List.drop_eq_nil_of_le (by omega), show fl T10.cs ([] : List T10) = [] from rfl, List.append_nil] at hins
  replace hins := Lib.hid hins
  obtain ⟨A, c, rfl⟩ : ∃ A c, v = .slice A n c := by
    rcases hown.2 with ⟨rfl, rfl⟩ | ⟨g, cap, cur, rfl, _⟩
    · exact ⟨_, _, rfl⟩
    · exact ⟨_, _, rfl⟩
  have hslice : 0 ≤ (n : Int) ∧ n ≤ c := ⟨by omega, by
    rcases hown.2 with ⟨h, _⟩ | ⟨g, cap, cur, h, _, _, h1, _⟩
    · injection h with _ h2 h3; omega
    · injection h with _ h2 h3; omega⟩
  by_cases hcn : c = n
  · subst hcn
    refine (callsIn_wide (n := 6)).1 ?_
    refine callsIn_of_wp Try.func48 rfl trivial ?_
    simp only [Try.ntmps48, List.size_toArray, List.length_cons, List.length_nil, Nat.reduceAdd, Nat.reduceSub, Array.replicate_succ, Array.replicate_zero, List.push_toArray, List.append_toArray, List.nil_append, List.cons_append]
    gi_wp2_with (refine wpListIn_plain rfl fun K' hK' => ?_; refine wpIn_append_at (.tmp 23) (.tmp 24) 24 rfl base 33 i0 _ 10 80 Try.underlying24 hii hz0 hz1 hz2 (by decide) (by decide) _ _ (fl T10.cs l) rfl hown ⟨gv, 0, none⟩ 1 1 t.cs rfl rfl hc t.one (by unfold maxLen; omega) (by omega) hb ?_; intro v8 w8 hown8 hg8 hloc8; refine hK' _ _ ?_)
    go_ret
    rw [hins.out] at hown8
    obtain ⟨A8, c8, rfl⟩ := own_rowU hown8
    exact ⟨⟨A8, c8, rfl, Reads.of_own hown8⟩, hg8⟩
  · skip
    refine (callsIn_wide (n := 6)).1 ?_
    refine callsIn_of_wp Try.func48 rfl trivial ?_
    simp only [Try.ntmps48, List.size_toArray, List.length_cons, List.length_nil, Nat.reduceAdd, Nat.reduceSub, Array.replicate_succ, Array.replicate_zero, List.push_toArray, List.append_toArray, List.nil_append, List.cons_append]
    gi_wp2_with (refine wpListIn_plain rfl fun K' hK' => ?_; refine wpIn_append_at (.tmp 23) (.tmp 24) 24 rfl base 33 i0 _ 10 80 Try.underlying24 hii hz0 hz1 hz2 (by decide) (by decide) _ _ (fl T10.cs l) rfl hown ⟨gv, 0, none⟩ 1 1 t.cs rfl rfl hc t.one (by unfold maxLen; omega) (by omega) hb ?_; intro v8 w8 hown8 hg8 hloc8; refine hK' _ _ ?_)
    go_ret
    rw [hins.out] at hown8
    obtain ⟨A8, c8, rfl⟩ := own_rowU hown8
    exact ⟨⟨A8, c8, rfl, Reads.of_own hown8⟩, hg8⟩
end Go.Proofs.Ytpbpbijjkmjjjaa
