/- pool.Put, by a walk. No conditions but that the pool lies where it is said to lie. -/
import Derived.Test.YtdamcbpjefjolaaPs
import Derived.Test.YtdamcbpjefjolaaMz
namespace Go.Proofs.Ytdamcbpjefjolaa
open Go Go.RowKit Go.Sx Go.Mp
attribute [local go_sem] Oper.semAt_some
/-- An entry of a pool: its number, its node's block, its item, whether it is taken. -/
structure En where
  k : Int
  p : Nat
  x : V3
  t : Bool
def En.kp (e : En) : Int × Value := (e.k, .pointer (some ⟨e.p, 0, none⟩))
def En.obj (e : En) : Obj := .cells #[.int .i64 e.x.x, .int .i64 e.x.y, .int .i64 e.x.z, .bool e.t] 74 (0, 0)
structure PoolIn (w : World) (base b bm : Nat) (v : Value) (room : Int) (E : List En) (h : List V3) : Prop where
  pb : PB w b room bm v
  mp : MapAt iv w bm (E.map En.kp)
  nd : ∀ e ∈ E, w.heap[e.p]? = some e.obj
  row : w.ownsRow base 30 3 v h.length (vcs h)
  ps : (E.map (·.p)).Nodup
  ks : (E.map (·.k)).Nodup
  b0 : base ≤ b
  b1 : base ≤ bm
  b2 : ∀ e ∈ E, base ≤ e.p
def PoolAt (w : World) (base b : Nat) (room : Int) (E : List En) (h : List V3) : Prop := ∃ bm v, PoolIn w base b bm v room E h
/-- What the pool's calls leave alone: what is below base, and all blocks of cells but the pool's. -/
def Prot (base : Nat) (v : Value) (w : World) (k : Nat) : Prop := k < base ∨ ∃ c T z, w.heap[k]? = some (.cells c T z) ∧ T ≠ 71 ∧ T ≠ 74 ∧ (T = 30 → v.ownBlock ≠ some k)
structure PFr (base : Nat) (v : Value) (w w' : World) : Prop where
  os : w'.os = w.os
  tape : w'.tape = w.tape
  output : w'.output = w.output
  size : w.heap.size ≤ w'.heap.size
  block : ∀ k, k < w.heap.size → Prot base v w k → w'.heap[k]? = w.heap[k]?
/-- The row's block is as it was, or new. -/
def VL (v v' : Value) (w : World) : Prop := v'.ownBlock = v.ownBlock ∨ ∀ k, v'.ownBlock = some k → w.heap.size ≤ k
theorem PFr.refl (base : Nat) (v : Value) (w : World) : PFr base v w w := ⟨rfl, rfl, rfl, Nat.le_refl _, fun _ _ _ => rfl⟩
theorem PFr.transL {base : Nat} {v v' : Value} {w w' w'' : World} (h : PFr base v w w') (h' : PFr base v' w' w'') (hv : VL v v' w) : PFr base v w w'' :=
  ⟨h'.os.trans h.os, h'.tape.trans h.tape, h'.output.trans h.output, Nat.le_trans h.size h'.size, fun k hk hc => (h'.block k (Nat.lt_of_lt_of_le hk h.size) (by
    rcases hc with hc | ⟨c, T, z, h1, h2, h3, h4⟩
    · exact .inl hc
    · refine .inr ⟨c, T, z, (h.block k hk (.inr ⟨c, T, z, h1, h2, h3, h4⟩)).trans h1, h2, h3, fun hT e => ?_⟩
      rcases hv with hv | hv
      · rw [hv] at e; exact h4 hT e
      · have := hv k e; omega)).trans (h.block k hk hc)⟩
theorem PFr.trans {base : Nat} {v : Value} {w w' w'' : World} (h : PFr base v w w') (h' : PFr base v w' w'') : PFr base v w w'' := h.transL h' (.inl rfl)
theorem VL.trans {v v' v'' : Value} {w w' : World} (h : VL v v' w) (h' : VL v' v'' w') (hs : w.heap.size ≤ w'.heap.size) : VL v v'' w := by
  rcases h' with h' | h'
  · rcases h with h | h
    · exact .inl (h'.trans h)
    · exact .inr fun k hk => h k (by rw [← h']; exact hk)
  · exact .inr fun k hk => Nat.le_trans hs (h' k hk)
theorem Fr.pool {F : Nat → Prop} {base : Nat} {v : Value} {w w' : World} (h : Fr F w w') (hF : ∀ k, k < w.heap.size → F k → ¬ Prot base v w k) : PFr base v w w' :=
  ⟨h.os, h.tape, h.output, h.size, fun k hk hc => h.block k hk fun hf => hF k hk hf hc⟩
theorem PFr.drew {base : Nat} {v : Value} {w w' : World} (h : PFr base v w w') : PFr base v w w'.drew := ⟨h.os, h.tape, h.output, h.size, h.block⟩
theorem PFr.grown {base : Nat} {v : Value} {w w' w'' : World} {row : Option Nat} (h : PFr base v w w') (hg : w'.grownBy w'' row) (hr : ∀ k, row = some k → k < w.heap.size → ¬ Prot base v w k) : PFr base v w w'' :=
  ⟨hg.os.trans h.os, hg.tape.trans h.tape, hg.output.trans h.output, Nat.le_trans h.size hg.size, fun k hk hc => (hg.block k (Nat.lt_of_lt_of_le hk h.size) (fun e => hr k e.symm hk hc)).trans (h.block k hk hc)⟩
theorem PFr.below {base : Nat} {v : Value} {w w' w'' : World} (h : PFr base v w w') (hb : Below w'.heap.size w' w'') : PFr base v w w'' := h.grown (row := none) ⟨hb.os, hb.tape, hb.output, hb.size, fun k hk _ => hb.block k hk⟩ (fun _ e => by cases e)
theorem PFr.keep {base : Nat} {v : Value} {w w' : World} (h : PFr base v w w') {k : Nat} {o : Obj} (hk : w.heap[k]? = some o) (hp : Prot base v w k) : w'.heap[k]? = some o := (h.block k (lt_of_block hk) hp).trans hk
section
variable {w w' : World} {base b bm : Nat} {v : Value} {room : Int} {E : List En} {h : List V3}
theorem PoolIn.mapObj (H : PoolIn w base b bm v room E h) : ∃ es c, w.heap[bm]? = some (.map es c) := by
  obtain ⟨es, c, h1, _⟩ := H.mp
  exact ⟨es, c, h1⟩
theorem PoolIn.bm_b (H : PoolIn w base b bm v room E h) : bm ≠ b := fun e => by
  obtain ⟨es, c, h1⟩ := H.mapObj
  subst e
  have := H.pb
  unfold PB at this
  rw [h1] at this
  cases this
theorem PoolIn.row_obj (H : PoolIn w base b bm v room E h) {k : Nat} (hk : v.ownBlock = some k) : ∃ c, w.heap[k]? = some (.cells c 30 (0, 0)) := by
  rcases H.row.2 with ⟨rfl, _⟩ | ⟨g, cap, cur, rfl, _, hg, _⟩
  · cases hk
  · injection hk with hk
    subst hk
    exact ⟨_, hg⟩
theorem PoolIn.row_b (H : PoolIn w base b bm v room E h) : v.ownBlock ≠ some b := fun e => by
  obtain ⟨c, h1⟩ := H.row_obj e
  have := H.pb
  unfold PB at this
  rw [h1] at this
  cases this
theorem PoolIn.row_bm (H : PoolIn w base b bm v room E h) : v.ownBlock ≠ some bm := fun e => by
  obtain ⟨c, h1⟩ := H.row_obj e
  obtain ⟨es, c, h2⟩ := H.mapObj
  rw [h1] at h2
  cases h2
theorem PoolIn.row_nd (H : PoolIn w base b bm v room E h) {e : En} (he : e ∈ E) : v.ownBlock ≠ some e.p := fun e' => by
  obtain ⟨c, h1⟩ := H.row_obj e'
  rw [H.nd e he] at h1
  cases h1
theorem PoolIn.nd_b (H : PoolIn w base b bm v room E h) {e : En} (he : e ∈ E) : e.p ≠ b := fun e' => by
  have := H.nd e he
  rw [e'] at this
  have h2 := H.pb
  unfold PB at h2
  rw [h2] at this
  cases this
theorem PoolIn.nd_bm (H : PoolIn w base b bm v room E h) {e : En} (he : e ∈ E) : e.p ≠ bm := fun e' => by
  obtain ⟨es, c, h2⟩ := H.mapObj
  have := H.nd e he
  rw [e', h2] at this
  cases this
theorem PoolIn.un_b (H : PoolIn w base b bm v room E h) : ¬ Prot base v w b := by
  rintro (h1 | ⟨c, T, z, h1, h2, h3, h4⟩)
  · have := H.b0; omega
  · have := H.pb
    unfold PB at this
    rw [h1] at this
    injection this with this; injection this with _ e; exact h2 e
theorem PoolIn.un_bm (H : PoolIn w base b bm v room E h) : ¬ Prot base v w bm := by
  rintro (h1 | ⟨c, T, z, h1, h2, h3, h4⟩)
  · have := H.b1; omega
  · obtain ⟨es, cl, hm⟩ := H.mapObj
    rw [h1] at hm
    cases hm
theorem PoolIn.un_nd (H : PoolIn w base b bm v room E h) {e : En} (he : e ∈ E) : ¬ Prot base v w e.p := by
  rintro (h1 | ⟨c, T, z, h1, h2, h3, h4⟩)
  · have := H.b2 e he; omega
  · have := H.nd e he
    rw [h1] at this
    injection this with this; injection this with _ e; exact h3 e
theorem PoolIn.un_row (H : PoolIn w base b bm v room E h) {k : Nat} (hk : v.ownBlock = some k) : ¬ Prot base v w k := by
  rintro (h1 | ⟨c, T, z, h1, h2, h3, h4⟩)
  · have := (H.row.lt k hk).1; omega
  · obtain ⟨c0, hr⟩ := H.row_obj hk
    rw [h1] at hr
    injection hr with hr; injection hr with _ e; exact h4 e hk
/-- The pool stays where none of its blocks turns. -/
theorem PoolIn.keep (H : PoolIn w base b bm v room E h) (hk : ∀ k, k < w.heap.size → w'.heap[k]? = w.heap[k]?) : PoolIn w' base b bm v room E h := by
  obtain ⟨es, c, h2⟩ := H.mapObj
  refine ⟨(hk b (lt_of_block H.pb)).trans H.pb, H.mp.of_block (hk bm (lt_of_block h2)), fun e he => (hk _ (lt_of_block (H.nd e he))).trans (H.nd e he), ?_, H.ps, H.ks, H.b0, H.b1, H.b2⟩
  rcases H.row.2 with ⟨rfl, h0⟩ | ⟨g, cap, cur, rfl, h1, hg, h3⟩
  · exact ⟨H.row.1, .inl ⟨rfl, h0⟩⟩
  · exact ⟨H.row.1, .inr ⟨g, cap, cur, rfl, h1, (hk g (lt_of_block hg)).trans hg, h3⟩⟩
theorem PoolIn.below (H : PoolIn w base b bm v room E h) (hb : Below w.heap.size w w') : PoolIn w' base b bm v room E h := H.keep hb.block
theorem PoolIn.alloc (H : PoolIn w base b bm v room E h) (o : Obj) : PoolIn (w.alloc o) base b bm v room E h := H.below ((Below.refl _ _).alloc (Nat.le_refl _) o)
theorem PoolIn.drew (H : PoolIn w base b bm v room E h) : PoolIn w.drew base b bm v room E h := H.keep fun _ _ => rfl
/-- An item may not be put. -/
def badX (x : V3) : Bool := decide (x.x < 0) || decide (1125899906842624 < x.x) || decide (x.y < 0) || decide (1125899906842624 < x.y) || decide (x.z < -1) || decide (1125899906842624 < x.z)
/-- What Put tells and does. -/
def PutRel (room : Int) (E : List En) (h : List V3) (x : V3) (ok : Bool) (er : Int) (E' : List En) (h' : List V3) : Prop :=
  (badX x = true ∧ ok = false ∧ er = 2 ∧ E' = E ∧ h' = h) ∨
  (badX x = false ∧ ((∀ e ∈ E, e.k ≠ x.x) ∧ room ≤ E.length ∧ ok = false ∧ er = 51 ∧ E' = E ∧ h' = h ∨
    (∀ e ∈ E, e.k ≠ x.x) ∧ (E.length : Int) < room ∧ ok = true ∧ er = 0 ∧ (∃ p, E' = E ++ [⟨x.x, p, x, false⟩]) ∧ (Heap h → Heap h') ∧ h'.Perm (h ++ [x]) ∨
    (∃ e ∈ E, e.k = x.x ∧ (e.t = true ∨ e.x.y ≤ x.y)) ∧ ok = false ∧ er = 0 ∧ E' = E ∧ h' = h ∨
    (∃ E1 e E2, E = E1 ++ e :: E2 ∧ e.k = x.x ∧ e.t = false ∧ x.y < e.x.y ∧ E' = E1 ++ { e with x := x } :: E2) ∧ ok = true ∧ er = 0 ∧ (Heap h → Heap h') ∧ h'.Perm (h ++ [x])))
theorem look_no {k : Int} : ∀ {E : List En}, (∀ e ∈ E, e.k ≠ k) → lookM (E.map En.kp) k = none
  | [], _ => rfl
  | e :: E, h => by
    show (if e.k = k then _ else lookM (E.map En.kp) k) = none
    rw [if_neg (h e (by simp))]
    exact look_no fun e he => h e (by simp [he])
theorem look_yes {k : Int} : ∀ {E1 E2 : List En} {e : En}, ((E1 ++ e :: E2).map (·.k)).Nodup → e.k = k → lookM ((E1 ++ e :: E2).map En.kp) k = some (.pointer (some ⟨e.p, 0, none⟩))
  | [], E2, e, _, h => by
    show (if e.k = k then _ else _) = _
    rw [if_pos h]
  | e0 :: E1, E2, e, hn, h => by
    simp only [List.cons_append, List.map_cons, List.nodup_cons] at hn
    show (if e0.k = k then _ else lookM ((E1 ++ e :: E2).map En.kp) k) = _
    rw [if_neg (fun e' => hn.1 (by rw [e', ← h]; simp)), look_yes hn.2 h]
theorem upd_no {k : Int} {v : Value} : ∀ {E : List En}, (∀ e ∈ E, e.k ≠ k) → updM (E.map En.kp) k v = E.map En.kp ++ [(k, v)]
  | [], _ => rfl
  | e :: E, h => by
    show (if e.k = k then _ else (e.k, _) :: updM (E.map En.kp) k v) = _
    rw [if_neg (h e (by simp)), upd_no fun e he => h e (by simp [he])]
    rfl
end
theorem World.cells_alloc_lt {w : World} {b : Nat} {o : Obj} (h : w.heap[b]? = some o) (o' : Obj) : (w.alloc o').heap[b]? = some o := (((Below.refl w.heap.size w).alloc (Nat.le_refl _) o').block b (lt_of_block h)).trans h
theorem PoolIn.add {w w3 : World} {base b bm : Nat} {v : Value} {room : Int} {E : List En} {h : List V3} (H : PoolIn w base b bm v room E h) {x : V3} (hk : ∀ e ∈ E, e.k ≠ x.x) (hbs : base ≤ w.heap.size)
    (hm : MapAt iv w3 bm (updM (E.map En.kp) x.x (.pointer (some ⟨w.heap.size, 0, none⟩)))) (hg : (w.alloc (.cells #[.int .i64 x.x, .int .i64 x.y, .int .i64 x.z, .bool false] 74)).grownBy w3 (some bm)) :
    PoolIn w3 base b bm v room (E ++ [⟨x.x, w.heap.size, x, false⟩]) h := by
  have Ha := H.alloc (.cells #[.int .i64 x.x, .int .i64 x.y, .int .i64 x.z, .bool false] 74)
  have hne : ∀ e ∈ E, e.p ≠ w.heap.size := fun e he e' => by have := lt_of_block (H.nd e he); omega
  obtain ⟨es, c, hbm⟩ := H.mapObj
  have hlt := lt_of_block hbm
  refine ⟨(hg.block b (lt_of_block Ha.pb) (by simpa using Ne.symm H.bm_b)).trans Ha.pb, ?_, fun e he => ?_, Ha.row.kept hg (.inr H.row_bm), ?_, ?_, H.b0, H.b1, fun e he => ?_⟩
  · rw [upd_no hk] at hm
    simpa [En.kp] using hm
  · rcases List.mem_append.1 he with he | he
    · exact (hg.block _ (lt_of_block (Ha.nd e he)) (by simpa using H.nd_bm he)).trans (Ha.nd e he)
    · simp only [List.mem_singleton] at he
      subst he
      exact (hg.block w.heap.size (by simp) (by simp; omega)).trans (World.alloc_heap_new _ _)
  · rw [List.map_append, List.nodup_append]
    exact ⟨H.ps, by simp, fun a ha b' hb' => by simp at hb'; subst hb'; obtain ⟨e, he, rfl⟩ := List.mem_map.1 ha; exact hne e he⟩
  · rw [List.map_append, List.nodup_append]
    exact ⟨H.ks, by simp, fun a ha b' hb' => by simp at hb'; subst hb'; obtain ⟨e, he, rfl⟩ := List.mem_map.1 ha; exact hk e he⟩
  · rcases List.mem_append.1 he with he | he
    · exact H.b2 e he
    · simp only [List.mem_singleton] at he
      subst he
      exact hbs
theorem PoolIn.turn {w w3 : World} {base b bm : Nat} {v : Value} {room : Int} {E1 E2 : List En} {e e' : En} {h : List V3} (H : PoolIn w base b bm v room (E1 ++ e :: E2) h) (hk : e'.k = e.k) (hp : e'.p = e.p) (hg : w.grownBy w3 (some e.p)) (ho : w3.heap[e.p]? = some e'.obj) :
    PoolIn w3 base b bm v room (E1 ++ e' :: E2) h := by
  have hm : e ∈ E1 ++ e :: E2 := by simp
  obtain ⟨es, c, hbm⟩ := H.mapObj
  have hnd := H.ps
  have hother : ∀ e0, e0 ∈ E1 ∨ e0 ∈ E2 → e0.p ≠ e.p := by
    intro e0 he0 heq
    rw [List.map_append, List.map_cons, List.nodup_append, List.nodup_cons] at hnd
    rcases he0 with he0 | he0
    · exact hnd.2.2 e0.p (List.mem_map.2 ⟨e0, he0, rfl⟩) e.p (by simp) heq
    · exact hnd.2.1.1 (List.mem_map.2 ⟨e0, he0, heq⟩)
  refine ⟨(hg.block b (lt_of_block H.pb) (by simpa using Ne.symm (H.nd_b hm))).trans H.pb, ?_, fun e0 he0 => ?_, H.row.kept hg (.inr (H.row_nd hm)), ?_, ?_, H.b0, H.b1, fun e0 he0 => ?_⟩
  · have := H.mp.of_block (hg.block bm (lt_of_block hbm) (by simpa using Ne.symm (H.nd_bm hm)))
    simpa [En.kp, hk, hp] using this
  · have : e0 ∈ E1 ∨ e0 = e' ∨ e0 ∈ E2 := by simpa using he0
    rcases this with he | he | he
    · have hm0 : e0 ∈ E1 ++ e :: E2 := by simp [he]
      exact (hg.block _ (lt_of_block (H.nd e0 hm0)) (by simpa using hother e0 (.inl he))).trans (H.nd e0 hm0)
    · subst he; rw [hp]; exact ho
    · have hm0 : e0 ∈ E1 ++ e :: E2 := by simp [he]
      exact (hg.block _ (lt_of_block (H.nd e0 hm0)) (by simpa using hother e0 (.inr he))).trans (H.nd e0 hm0)
  · have := H.ps
    simpa [hp] using this
  · have := H.ks
    simpa [hk] using this
  · have : e0 ∈ E1 ∨ e0 = e' ∨ e0 ∈ E2 := by simpa using he0
    rcases this with he | he | he
    · exact H.b2 e0 (by simp [he])
    · subst he; rw [hp]; exact H.b2 e hm
    · exact H.b2 e0 (by simp [he])
/-- The heap has turned. -/
theorem PoolIn.heap {w w3 : World} {base b bm : Nat} {v v' : Value} {room : Int} {E : List En} {h h' : List V3} (H : PoolIn w base b bm v room E h) (hp : PB w3 b room bm v') (hr : w3.ownsRow base 30 3 v' h'.length (vcs h')) (hf : Fr (fun k => k = b ∨ v.ownBlock = some k) w w3) :
    PoolIn w3 base b bm v' room E h' ∧ PFr base v w w3 := by
  obtain ⟨es, c, hbm⟩ := H.mapObj
  refine ⟨⟨hp, H.mp.of_block (hf.block bm (lt_of_block hbm) (fun e => ?_)), fun e he => hf.keep (H.nd e he) (fun e' => ?_), hr, H.ps, H.ks, H.b0, H.b1, H.b2⟩, hf.pool fun k hk hF => ?_⟩
  · rcases e with e | e
    · exact H.bm_b e
    · exact H.row_bm e
  · rcases e' with e' | e'
    · exact H.nd_b he e'
    · exact H.row_nd he e'
  · rcases hF with rfl | hF
    · exact H.un_b
    · exact H.un_row hF
theorem zero72 (w : World) : (zeroValue 72).run Try.prog w = .ok (.pointer none) w := by kernel_rfl
theorem look67 {w : World} {bm : Nat} {m : List (Int × Value)} (h : MapAt iv w bm m) {k : Int} {v : Value} (hv : (lookM m k).getD (.pointer none) = v) : (Instr.lookup 67 (.map (some bm)) (.int .i64 k) false).run Try.prog w = .ok v w := by
  have := h.look (int_keys Try.underlying3) Try.underlying67 zero72 k false
  rw [← hv]
  exact this
theorem len67 {w : World} {bm : Nat} {m : List (Int × Value)} (h : MapAt iv w bm m) (ty : TypeId) {n : Nat} (hn : m.length = n) : (Builtin.len_ #[67] ty #[.map (some bm)]).run Try.prog w = .ok (.int .i64 n) w := by
  rw [← hn]
  exact h.len Try.underlying67 ty
set_option maxHeartbeats 2000000 in
set_option maxRecDepth 100000 in
theorem put_bad (x : V3) (b : Nat) (w : World) (hx : badX x = true) :
    Calls Try.prog 9 #[.pointer (some ⟨b, 0, none⟩), .agg #[.int .i64 x.x, .int .i64 x.y, .int .i64 x.z]] w fun en w' => en = .returned (.tuple #[.bool false, .int .i64 2]) ∧ Below w.heap.size w w' := by
  obtain ⟨W, hW⟩ : ∃ W, w.alloc (.cells #[.int .i64 x.x, .int .i64 x.y, .int .i64 x.z] 30) = W := ⟨_, rfl⟩
  have hN : W.heap[w.heap.size]? = some (.cells #[.int .i64 x.x, .int .i64 x.y, .int .i64 x.z] 30 (0, 0)) := by rw [← hW]; exact World.alloc_heap_new _ _
  have n0 := cell_of hN (j := 0) rfl
  have n1 := cell_of hN (j := 1) rfl
  have n2 := cell_of hN (j := 2) rfl
  have hb : Below w.heap.size w W := by rw [← hW]; exact (Below.refl _ _).alloc (Nat.le_refl _) _
  unfold badX at hx
  refine (callsIn_wide (n := 6)).1 ?_
  refine callsIn_of_wp Try.func9 rfl trivial ?_
  simp only [Try.ntmps9, List.size_toArray, List.length_cons, List.length_nil, Nat.reduceAdd, Nat.reduceSub, Array.replicate_succ, Array.replicate_zero, List.push_toArray, List.append_toArray, List.nil_append, List.cons_append]
  gi_wp2
  all_goals (go_ret2; exact ⟨rfl, hb⟩)
theorem ok_parts {x : V3} (h : badX x = false) : 0 ≤ x.x ∧ x.x ≤ 1125899906842624 ∧ 0 ≤ x.y ∧ x.y ≤ 1125899906842624 ∧ -1 ≤ x.z ∧ x.z ≤ 1125899906842624 := by
  simp only [badX, Bool.or_eq_false_iff, decide_eq_false_iff_not] at h
  omega
set_option maxHeartbeats 2000000 in
set_option maxRecDepth 100000 in
theorem put_no (x : V3) (base b bm : Nat) (v : Value) (room : Int) (E : List En) (h : List V3) (w : World) (hx : badX x = false) (H : PoolIn w base b bm v room E h) (hh : h.length < 1000000) (hbs : base ≤ w.heap.size) (hk : ∀ e ∈ E, e.k ≠ x.x) :
    Calls Try.prog 9 #[.pointer (some ⟨b, 0, none⟩), .agg #[.int .i64 x.x, .int .i64 x.y, .int .i64 x.z]] w fun en w' =>
      (if (E.length : Int) < room then en = .returned (.tuple #[.bool true, .int .i64 0]) ∧ ∃ p v' h', PoolIn w' base b bm v' room (E ++ [⟨x.x, p, x, false⟩]) h' ∧ (Heap h → Heap h') ∧ h'.Perm (h ++ [x]) ∧ PFr base v w w' ∧ VL v v' w
      else en = .returned (.tuple #[.bool false, .int .i64 51]) ∧ PoolIn w' base b bm v room E h ∧ PFr base v w w') := by
  obtain ⟨x0, x1, x2, x3, x4, x5⟩ := ok_parts hx
  obtain ⟨W, hW⟩ : ∃ W, w.alloc (.cells #[.int .i64 x.x, .int .i64 x.y, .int .i64 x.z] 30) = W := ⟨_, rfl⟩
  have hN : W.heap[w.heap.size]? = some (.cells #[.int .i64 x.x, .int .i64 x.y, .int .i64 x.z] 30 (0, 0)) := by rw [← hW]; exact World.alloc_heap_new _ _
  have n0 : W.cell? ⟨w.heap.size, 0, none⟩ = some (.int .i64 x.x) := cell_of hN rfl
  have n1 : W.cell? ⟨w.heap.size, 1, none⟩ = some (.int .i64 x.y) := cell_of hN rfl
  have n2 : W.cell? ⟨w.heap.size, 2, none⟩ = some (.int .i64 x.z) := cell_of hN rfl
  have HW : PoolIn W base b bm v room E h := by rw [← hW]; exact H.alloc _
  have hb : PFr base v w W := by rw [← hW]; exact (PFr.refl _ _ _).below ((Below.refl _ _).alloc (Nat.le_refl _) _)
  have hWs : w.heap.size < W.heap.size := lt_of_block hN
  obtain ⟨q0, q1, q2, q3⟩ := HW.pb.cells
  have hlk := look_no hk
  by_cases hr : (E.length : Int) < room
  · simp only [if_pos hr]
    refine (callsIn_wide (n := 6)).1 ?_
    refine callsIn_of_wp Try.func9 rfl trivial ?_
    simp only [Try.ntmps9, List.size_toArray, List.length_cons, List.length_nil, Nat.reduceAdd, Nat.reduceSub, Array.replicate_succ, Array.replicate_zero, List.push_toArray, List.append_toArray, List.nil_append, List.cons_append]
    gi_wp2
    have hS : (fun wS => CellsL [(⟨b, 1, none⟩, .map (some bm)), (⟨w.heap.size, 0, none⟩, .int .i64 x.x)] wS ∧ MapAt iv wS bm (E.map En.kp) : World → Prop) (W.drew) := ⟨⟨q1, n0, trivial⟩, HW.mp⟩
    refine wpIn_region_ord [(0, true), (1, true), (2, true), (3, true), (4, true), (5, true), (6, true)] (fun wS => CellsL [(⟨b, 1, none⟩, .map (some bm)), (⟨w.heap.size, 0, none⟩, .int .i64 x.x)] wS ∧ MapAt iv wS bm (E.map En.kp) : World → Prop) (fun _ => trivial) rfl (by first | exact then_put rfl | (intro c d v a w h; cases d <;> exact h)) (by kernel_rfl) ?_
    simp only [List.length_cons, List.length_nil, Nat.reduceAdd, List.drop_succ_cons, List.drop_zero]
    iterate 7 (apply wpOrd_quiet rfl hS rfl; (intro w' hw'; obtain ⟨⟨q0, q1, _⟩, x0⟩ := hw'; have hlq := look67 (v := .pointer none) x0 (by rw [hlk]; rfl); go_simp; exact rfl); go_simp)
    refine wpOrd_nil ?_
    clear hS
    obtain ⟨r, her⟩ : ∃ r, E.length = r := ⟨_, rfl⟩
    have hr2 : (r : Int) < room := by omega
    gi_wp2
    have hS : (fun wS => CellsL [(⟨b, 1, none⟩, .map (some bm)), (⟨b, 0, none⟩, .int .i64 room)] wS ∧ MapAt iv wS bm (E.map En.kp) : World → Prop) (W.drew.drew) := ⟨⟨q1, q0, trivial⟩, HW.mp⟩
    refine wpIn_region_ord [(0, true), (1, true), (2, true), (3, true), (4, true), (5, true), (6, true), (7, true), (8, true), (9, true), (10, true), (11, true), (12, true), (13, true)] (fun wS => CellsL [(⟨b, 1, none⟩, .map (some bm)), (⟨b, 0, none⟩, .int .i64 room)] wS ∧ MapAt iv wS bm (E.map En.kp) : World → Prop) (fun _ => trivial) rfl (by first | exact then_put rfl | (intro c d v a w h; cases d <;> exact h)) (by kernel_rfl) ?_
    simp only [List.length_cons, List.length_nil, Nat.reduceAdd, List.drop_succ_cons, List.drop_zero]
    iterate 14 (apply wpOrd_quiet rfl hS rfl; (intro w' hw'; obtain ⟨⟨q0, q1, _⟩, x0⟩ := hw'; have hln := fun ty => len67 (n := r) x0 ty (by simpa using her); go_simp; exact rfl); go_simp)
    refine wpOrd_nil ?_
    clear hS
    gi_wp2
    have hS : (CellsL [(⟨b, 1, none⟩, .map (some bm)), (⟨w.heap.size, 0, none⟩, .int .i64 x.x), (⟨w.heap.size, 1, none⟩, .int .i64 x.y), (⟨w.heap.size, 2, none⟩, .int .i64 x.z)]) (W.drew.drew.drew) := ⟨q1, n0, n1, n2, trivial⟩
    refine wpIn_region_ord [(0, true), (1, true), (2, true), (3, true), (4, true), (5, true), (6, true), (7, true), (8, false)] (CellsL [(⟨b, 1, none⟩, .map (some bm)), (⟨w.heap.size, 0, none⟩, .int .i64 x.x), (⟨w.heap.size, 1, none⟩, .int .i64 x.y), (⟨w.heap.size, 2, none⟩, .int .i64 x.z)]) (fun _ => trivial) rfl (by first | exact then_put rfl | (intro c d v a w h; cases d <;> exact h)) (by kernel_rfl) ?_
    simp only [List.length_cons, List.length_nil, Nat.reduceAdd, List.drop_succ_cons, List.drop_zero]
    iterate 8 (apply wpOrd_quiet rfl hS rfl; (intro w' hw'; obtain ⟨q0, q1, q2, q3, _⟩ := hw'; go_simp; exact rfl); go_simp)
    refine wpOrd_move rfl rfl ?_
    go_simp
    have e0 : ∀ j, ((W.alloc (.cells #[.int .i64 x.x, .int .i64 x.y, .int .i64 x.z, .bool false] 74)).drew.drew.drew).cell? ⟨w.heap.size, j, none⟩ = W.cell? ⟨w.heap.size, j, none⟩ := fun j => World.cell?_alloc_lt W _ ⟨w.heap.size, j, none⟩ hWs
    have Ha := HW.alloc (.cells #[.int .i64 x.x, .int .i64 x.y, .int .i64 x.z, .bool false] 74)
    replace hS : CellsL [(⟨b, 1, none⟩, .map (some bm)), (⟨w.heap.size, 0, none⟩, .int .i64 x.x), (⟨w.heap.size, 1, none⟩, .int .i64 x.y), (⟨w.heap.size, 2, none⟩, .int .i64 x.z)] ((W.alloc (.cells #[.int .i64 x.x, .int .i64 x.y, .int .i64 x.z, .bool false] 74)).drew.drew.drew) :=
      ⟨Ha.pb.cells.2.1, (e0 0).trans n0, (e0 1).trans n1, (e0 2).trans n2, trivial⟩
    refine ⟨hS, ?_⟩
    go_simp
    refine wpOrd_nil ?_
    refine wpListIn_plain rfl fun K' hK' => ?_
    refine wpIn_mapUpdate (.tmp 71) (.tmp 73) (.tmp 76) rfl (int_keys Try.underlying3) Try.underlying67 (w := (W.alloc (.cells #[.int .i64 x.x, .int .i64 x.y, .int .i64 x.z, .bool false] 74)).drew.drew.drew) Ha.mp (k := x.x) rfl rfl rfl ?_
    intro W3 hm3 hg3
    have hg3' : (W.alloc (.cells #[.int .i64 x.x, .int .i64 x.y, .int .i64 x.z, .bool false] 74)).grownBy W3 (some bm) := ⟨hg3.os, hg3.tape, hg3.output, hg3.size, hg3.block⟩
    have H3 := HW.add hk (by omega) hm3 hg3'
    have hb3 : PFr base v w W3 := by
      refine (hb.below ((Below.refl _ _).alloc (Nat.le_refl _) (.cells #[.int .i64 x.x, .int .i64 x.y, .int .i64 x.z, .bool false] 74))).grown hg3' (fun k hk _ => ?_)
      injection hk with hk
      subst hk
      exact H.un_bm
    have hN3 := (hg3'.block w.heap.size (by simp; omega) (by simp; intro e; subst e; obtain ⟨es, cl, h1⟩ := H.mapObj; have := lt_of_block h1; omega)).trans (World.cells_alloc_lt hN (.cells #[.int .i64 x.x, .int .i64 x.y, .int .i64 x.z, .bool false] 74))
    have k0 := cell_of hN3 (j := 0) rfl
    have k1 := cell_of hN3 (j := 1) rfl
    have k2 := cell_of hN3 (j := 2) rfl
    refine hK' _ _ ?_
    clear hS hK' e0 n0 n1 n2 q0 q1 q2 q3 hN hlk
    have hbw : base ≤ W3.drew.heap.size := Nat.le_trans hbs hb3.size
    gi_wp2
    have hS : (CellsL [(⟨w.heap.size, 0, none⟩, .int .i64 x.x), (⟨w.heap.size, 1, none⟩, .int .i64 x.y), (⟨w.heap.size, 2, none⟩, .int .i64 x.z)]) (W3.drew) := ⟨k0, k1, k2, trivial⟩
    refine wpIn_region_ord [(0, true), (1, true), (2, true), (3, true)] (CellsL [(⟨w.heap.size, 0, none⟩, .int .i64 x.x), (⟨w.heap.size, 1, none⟩, .int .i64 x.y), (⟨w.heap.size, 2, none⟩, .int .i64 x.z)]) (fun _ => trivial) rfl (by first | exact then_put rfl | (intro c d v a w h; cases d <;> exact h)) (by kernel_rfl) ?_
    simp only [List.length_cons, List.length_nil, Nat.reduceAdd, List.drop_succ_cons, List.drop_zero]
    iterate 4 (apply wpOrd_quiet rfl hS rfl; (intro w' hw'; obtain ⟨q0, q1, q2, _⟩ := hw'; go_simp; exact rfl); go_simp)
    refine wpOrd_nil ?_
    gi_wp2_with (refine ⟨trivial, ?_⟩; gi_at_call 25; refine (callsIn_wide.2 (push_any x h room bm b base v _ H3.drew.pb H3.drew.row hh hbw H3.row_b)).mono ?_; rintro en w7 ⟨rfl, v', h', hh1, hh2, hpb, hrow, _, hvl, hfr⟩)
    obtain ⟨H7, hb7⟩ := H3.drew.heap hpb hrow hfr
    go_ret2
    exact ⟨rfl, _, v', h', H7, hh1, hh2, hb3.drew.trans hb7, VL.trans (.inl rfl) hvl hb3.size⟩
  · simp only [if_neg hr]
    refine (callsIn_wide (n := 6)).1 ?_
    refine callsIn_of_wp Try.func9 rfl trivial ?_
    simp only [Try.ntmps9, List.size_toArray, List.length_cons, List.length_nil, Nat.reduceAdd, Nat.reduceSub, Array.replicate_succ, Array.replicate_zero, List.push_toArray, List.append_toArray, List.nil_append, List.cons_append]
    gi_wp2
    have hS : (fun wS => CellsL [(⟨b, 1, none⟩, .map (some bm)), (⟨w.heap.size, 0, none⟩, .int .i64 x.x)] wS ∧ MapAt iv wS bm (E.map En.kp) : World → Prop) (W.drew) := ⟨⟨q1, n0, trivial⟩, HW.mp⟩
    refine wpIn_region_ord [(0, true), (1, true), (2, true), (3, true), (4, true), (5, true), (6, true)] (fun wS => CellsL [(⟨b, 1, none⟩, .map (some bm)), (⟨w.heap.size, 0, none⟩, .int .i64 x.x)] wS ∧ MapAt iv wS bm (E.map En.kp) : World → Prop) (fun _ => trivial) rfl (by first | exact then_put rfl | (intro c d v a w h; cases d <;> exact h)) (by kernel_rfl) ?_
    simp only [List.length_cons, List.length_nil, Nat.reduceAdd, List.drop_succ_cons, List.drop_zero]
    iterate 7 (apply wpOrd_quiet rfl hS rfl; (intro w' hw'; obtain ⟨⟨q0, q1, _⟩, x0⟩ := hw'; have hlq := look67 (v := .pointer none) x0 (by rw [hlk]; rfl); go_simp; exact rfl); go_simp)
    refine wpOrd_nil ?_
    clear hS
    obtain ⟨r, her⟩ : ∃ r, E.length = r := ⟨_, rfl⟩
    have hr2 : room ≤ (r : Int) := by omega
    gi_wp2
    have hS : (fun wS => CellsL [(⟨b, 1, none⟩, .map (some bm)), (⟨b, 0, none⟩, .int .i64 room)] wS ∧ MapAt iv wS bm (E.map En.kp) : World → Prop) (W.drew.drew) := ⟨⟨q1, q0, trivial⟩, HW.mp⟩
    refine wpIn_region_ord [(0, true), (1, true), (2, true), (3, true), (4, true), (5, true), (6, true), (7, true), (8, true), (9, true), (10, true), (11, true), (12, true), (13, true)] (fun wS => CellsL [(⟨b, 1, none⟩, .map (some bm)), (⟨b, 0, none⟩, .int .i64 room)] wS ∧ MapAt iv wS bm (E.map En.kp) : World → Prop) (fun _ => trivial) rfl (by first | exact then_put rfl | (intro c d v a w h; cases d <;> exact h)) (by kernel_rfl) ?_
    simp only [List.length_cons, List.length_nil, Nat.reduceAdd, List.drop_succ_cons, List.drop_zero]
    iterate 14 (apply wpOrd_quiet rfl hS rfl; (intro w' hw'; obtain ⟨⟨q0, q1, _⟩, x0⟩ := hw'; have hln := fun ty => len67 (n := r) x0 ty (by simpa using her); go_simp; exact rfl); go_simp)
    refine wpOrd_nil ?_
    clear hS
    gi_wp2
    go_ret2
    exact ⟨rfl, HW.drew.drew, hb.drew.drew⟩
theorem wpIn_put4 {m : Nat} {o : Oper} {a : Act} {w : World} {K : Act → World → Prop} {Q : Exit → Act → World → Prop} {inf : TypeInfo} (hinf : Try.prog.info? 30 = some inf) (hsz : inf.size = 3) (x y : Operand) (ho : o.op = .store 30 x y) {e : En} {v : V3}
    (hx : a.eval x = .pointer (some ⟨e.p, 0, none⟩)) (hy : a.eval y = .agg #[.int .i64 v.x, .int .i64 v.y, .int .i64 v.z]) (hg : w.heap[e.p]? = some e.obj)
    (h : ∀ w', w'.heap[e.p]? = some ({ e with x := v } : En).obj → w.grownBy w' (some e.p) → K (a.put o.dst undef) w') : o.wpIn Fence.wide m Try.prog a w K Q := by
  have h3 : v.cs.length = 3 := rfl
  refine wpIn_store_block x y ho hinf hx hy v.cs rfl (by rw [h3, hsz]) (cs_one v) hg (by rw [h3]; show 3 ≤ 4; omega) (h _ ?_ ?_)
  · rw [setRow_heap _ _ _ _ _ _ hg]; rfl
  · exact ⟨rfl, rfl, rfl, by simp [World.setRow], fun k _ hk => setRow_other w e.p k _ (fun e => hk (by rw [e]))⟩
set_option maxHeartbeats 2000000 in
set_option maxRecDepth 100000 in
theorem put_yes (x : V3) (base b bm : Nat) (v : Value) (room : Int) (E1 E2 : List En) (e : En) (h : List V3) (w : World) (hx : badX x = false) (H : PoolIn w base b bm v room (E1 ++ e :: E2) h) (hh : h.length < 1000000) (hbs : base ≤ w.heap.size) (hk : e.k = x.x) :
    Calls Try.prog 9 #[.pointer (some ⟨b, 0, none⟩), .agg #[.int .i64 x.x, .int .i64 x.y, .int .i64 x.z]] w fun en w' =>
      (if e.t = true ∨ e.x.y ≤ x.y then en = .returned (.tuple #[.bool false, .int .i64 0]) ∧ PoolIn w' base b bm v room (E1 ++ e :: E2) h ∧ PFr base v w w'
      else en = .returned (.tuple #[.bool true, .int .i64 0]) ∧ ∃ v' h', PoolIn w' base b bm v' room (E1 ++ { e with x := x } :: E2) h' ∧ (Heap h → Heap h') ∧ h'.Perm (h ++ [x]) ∧ PFr base v w w' ∧ VL v v' w) := by
  obtain ⟨x0, x1, x2, x3, x4, x5⟩ := ok_parts hx
  obtain ⟨i0, hi, hz0, hz1, hz2⟩ := info_parts info30
  obtain ⟨W, hW⟩ : ∃ W, w.alloc (.cells #[.int .i64 x.x, .int .i64 x.y, .int .i64 x.z] 30) = W := ⟨_, rfl⟩
  have hN : W.heap[w.heap.size]? = some (.cells #[.int .i64 x.x, .int .i64 x.y, .int .i64 x.z] 30 (0, 0)) := by rw [← hW]; exact World.alloc_heap_new _ _
  have n0 : W.cell? ⟨w.heap.size, 0, none⟩ = some (.int .i64 x.x) := cell_of hN rfl
  have n1 : W.cell? ⟨w.heap.size, 1, none⟩ = some (.int .i64 x.y) := cell_of hN rfl
  have n2 : W.cell? ⟨w.heap.size, 2, none⟩ = some (.int .i64 x.z) := cell_of hN rfl
  have HW : PoolIn W base b bm v room (E1 ++ e :: E2) h := by rw [← hW]; exact H.alloc _
  have hb : PFr base v w W := by rw [← hW]; exact (PFr.refl _ _ _).below ((Below.refl _ _).alloc (Nat.le_refl _) _)
  have hWs : w.heap.size < W.heap.size := lt_of_block hN
  obtain ⟨q0, q1, q2, q3⟩ := HW.pb.cells
  have hlk := look_yes H.ks hk
  have hmp := HW.mp
  obtain ⟨M, hM⟩ : ∃ M, (E1 ++ e :: E2).map En.kp = M := ⟨_, rfl⟩
  rw [hM] at hlk hmp
  clear hM
  have hmem : e ∈ E1 ++ e :: E2 := by simp
  have hnd := HW.nd e hmem
  have hpN : e.p < w.heap.size := lt_of_block (H.nd e hmem)
  have d0 : W.cell? ⟨e.p, 0, none⟩ = some (.int .i64 e.x.x) := cell_of hnd rfl
  have d1 : W.cell? ⟨e.p, 1, none⟩ = some (.int .i64 e.x.y) := cell_of hnd rfl
  have d3 : W.cell? ⟨e.p, 3, none⟩ = some (.bool e.t) := cell_of hnd rfl
  cases ht : e.t
  · rw [ht] at d3
    by_cases hle : e.x.y ≤ x.y
    · simp only [hle, or_true, if_true]
      refine (callsIn_wide (n := 6)).1 ?_
      refine callsIn_of_wp Try.func9 rfl trivial ?_
      simp only [Try.ntmps9, List.size_toArray, List.length_cons, List.length_nil, Nat.reduceAdd, Nat.reduceSub, Array.replicate_succ, Array.replicate_zero, List.push_toArray, List.append_toArray, List.nil_append, List.cons_append]
      gi_wp2
      have hS : (fun wS => CellsL [(⟨b, 1, none⟩, .map (some bm)), (⟨w.heap.size, 0, none⟩, .int .i64 x.x)] wS ∧ MapAt iv wS bm M : World → Prop) (W.drew) := ⟨⟨q1, n0, trivial⟩, hmp⟩
      refine wpIn_region_ord [(0, true), (1, true), (2, true), (3, true), (4, true), (5, true), (6, true)] (fun wS => CellsL [(⟨b, 1, none⟩, .map (some bm)), (⟨w.heap.size, 0, none⟩, .int .i64 x.x)] wS ∧ MapAt iv wS bm M : World → Prop) (fun _ => trivial) rfl (by first | exact then_put rfl | (intro c d v a w h; cases d <;> exact h)) (by kernel_rfl) ?_
      simp only [List.length_cons, List.length_nil, Nat.reduceAdd, List.drop_succ_cons, List.drop_zero]
      iterate 7 (apply wpOrd_quiet rfl hS rfl; (intro w' hw'; obtain ⟨⟨q0, q1, _⟩, x0⟩ := hw'; have hlq := look67 (v := .pointer (some ⟨e.p, 0, none⟩)) x0 (by rw [hlk]; rfl); go_simp; exact rfl); go_simp)
      refine wpOrd_nil ?_
      clear hS
      gi_wp2
      have hS : (CellsL [(⟨b, 1, none⟩, .map (some bm))]) (W.drew.drew) := ⟨q1, trivial⟩
      refine wpIn_region_ord [(0, true), (1, true), (2, true), (3, true), (4, true), (5, true), (6, true), (7, true), (8, true), (9, true), (10, true), (11, true), (12, true), (13, true)] (CellsL [(⟨b, 1, none⟩, .map (some bm))]) (fun _ => trivial) rfl (by first | exact then_put rfl | (intro c d v a w h; cases d <;> exact h)) (by kernel_rfl) ?_
      simp only [List.length_cons, List.length_nil, Nat.reduceAdd, List.drop_succ_cons, List.drop_zero]
      iterate 3 (apply wpOrd_quiet rfl hS rfl; (intro w' hw'; obtain ⟨q0, _⟩ := hw'; go_simp; exact rfl); go_simp)
      iterate 10 (refine wpOrd_off rfl hS (by rfl) ?_; go_simp)
      iterate 1 (apply wpOrd_quiet rfl hS rfl; (intro w' hw'; obtain ⟨q0, _⟩ := hw'; go_simp; exact rfl); go_simp)
      refine wpOrd_nil ?_
      clear hS
      gi_wp2
      have hS : (CellsL [(⟨e.p, 1, none⟩, .int .i64 e.x.y), (⟨e.p, 3, none⟩, .bool false), (⟨w.heap.size, 1, none⟩, .int .i64 x.y)]) (W.drew.drew.drew) := ⟨d1, d3, n1, trivial⟩
      refine wpIn_region_ord [(0, true), (1, true), (2, true), (3, true), (4, true), (5, true), (6, true), (7, true), (8, true), (9, true), (10, true), (11, true), (12, true), (13, true)] (CellsL [(⟨e.p, 1, none⟩, .int .i64 e.x.y), (⟨e.p, 3, none⟩, .bool false), (⟨w.heap.size, 1, none⟩, .int .i64 x.y)]) (fun _ => trivial) rfl (by first | exact then_put rfl | (intro c d v a w h; cases d <;> exact h)) (by kernel_rfl) ?_
      simp only [List.length_cons, List.length_nil, Nat.reduceAdd, List.drop_succ_cons, List.drop_zero]
      iterate 14 (apply wpOrd_quiet rfl hS rfl; (intro w' hw'; obtain ⟨q0, q1, q2, _⟩ := hw'; go_simp; exact rfl); go_simp)
      refine wpOrd_nil ?_
      clear hS
      gi_wp2
      go_ret2
      exact ⟨rfl, HW.drew.drew.drew, hb.drew.drew.drew⟩
    · simp only [hle, or_false, Bool.false_eq_true, if_false]
      refine (callsIn_wide (n := 6)).1 ?_
      refine callsIn_of_wp Try.func9 rfl trivial ?_
      simp only [Try.ntmps9, List.size_toArray, List.length_cons, List.length_nil, Nat.reduceAdd, Nat.reduceSub, Array.replicate_succ, Array.replicate_zero, List.push_toArray, List.append_toArray, List.nil_append, List.cons_append]
      gi_wp2
      have hS : (fun wS => CellsL [(⟨b, 1, none⟩, .map (some bm)), (⟨w.heap.size, 0, none⟩, .int .i64 x.x)] wS ∧ MapAt iv wS bm M : World → Prop) (W.drew) := ⟨⟨q1, n0, trivial⟩, hmp⟩
      refine wpIn_region_ord [(0, true), (1, true), (2, true), (3, true), (4, true), (5, true), (6, true)] (fun wS => CellsL [(⟨b, 1, none⟩, .map (some bm)), (⟨w.heap.size, 0, none⟩, .int .i64 x.x)] wS ∧ MapAt iv wS bm M : World → Prop) (fun _ => trivial) rfl (by first | exact then_put rfl | (intro c d v a w h; cases d <;> exact h)) (by kernel_rfl) ?_
      simp only [List.length_cons, List.length_nil, Nat.reduceAdd, List.drop_succ_cons, List.drop_zero]
      iterate 7 (apply wpOrd_quiet rfl hS rfl; (intro w' hw'; obtain ⟨⟨q0, q1, _⟩, x0⟩ := hw'; have hlq := look67 (v := .pointer (some ⟨e.p, 0, none⟩)) x0 (by rw [hlk]; rfl); go_simp; exact rfl); go_simp)
      refine wpOrd_nil ?_
      clear hS
      gi_wp2
      have hS : (CellsL [(⟨b, 1, none⟩, .map (some bm))]) (W.drew.drew) := ⟨q1, trivial⟩
      refine wpIn_region_ord [(0, true), (1, true), (2, true), (3, true), (4, true), (5, true), (6, true), (7, true), (8, true), (9, true), (10, true), (11, true), (12, true), (13, true)] (CellsL [(⟨b, 1, none⟩, .map (some bm))]) (fun _ => trivial) rfl (by first | exact then_put rfl | (intro c d v a w h; cases d <;> exact h)) (by kernel_rfl) ?_
      simp only [List.length_cons, List.length_nil, Nat.reduceAdd, List.drop_succ_cons, List.drop_zero]
      iterate 3 (apply wpOrd_quiet rfl hS rfl; (intro w' hw'; obtain ⟨q0, _⟩ := hw'; go_simp; exact rfl); go_simp)
      iterate 10 (refine wpOrd_off rfl hS (by rfl) ?_; go_simp)
      iterate 1 (apply wpOrd_quiet rfl hS rfl; (intro w' hw'; obtain ⟨q0, _⟩ := hw'; go_simp; exact rfl); go_simp)
      refine wpOrd_nil ?_
      clear hS
      gi_wp2
      have hS : (CellsL [(⟨e.p, 1, none⟩, .int .i64 e.x.y), (⟨e.p, 3, none⟩, .bool false), (⟨w.heap.size, 1, none⟩, .int .i64 x.y)]) (W.drew.drew.drew) := ⟨d1, d3, n1, trivial⟩
      refine wpIn_region_ord [(0, true), (1, true), (2, true), (3, true), (4, true), (5, true), (6, true), (7, true), (8, true), (9, true), (10, true), (11, true), (12, true), (13, true)] (CellsL [(⟨e.p, 1, none⟩, .int .i64 e.x.y), (⟨e.p, 3, none⟩, .bool false), (⟨w.heap.size, 1, none⟩, .int .i64 x.y)]) (fun _ => trivial) rfl (by first | exact then_put rfl | (intro c d v a w h; cases d <;> exact h)) (by kernel_rfl) ?_
      simp only [List.length_cons, List.length_nil, Nat.reduceAdd, List.drop_succ_cons, List.drop_zero]
      iterate 14 (apply wpOrd_quiet rfl hS rfl; (intro w' hw'; obtain ⟨q0, q1, q2, _⟩ := hw'; go_simp; exact rfl); go_simp)
      refine wpOrd_nil ?_
      clear hS
      have hWd : PoolIn W.drew.drew.drew base b bm v room (E1 ++ e :: E2) h := HW.drew.drew.drew
      gi_wp2_with (refine wpListIn_plain rfl fun K' hK' => ?_; refine wpIn_put4 (v := x) hi hz1 (.tmp 49) (.tmp 47) rfl (e := e) rfl rfl hnd ?_; intro W3 ho3 hg3; refine hK' _ _ ?_)
      have H3 := hWd.turn (e' := { e with x := x }) rfl rfl hg3 ho3
      have hb3 : PFr base v w W3 := by
        refine hb.drew.drew.drew.grown hg3 (fun k hk _ => ?_)
        injection hk with hk
        subst hk
        exact H.un_nd hmem
      have hN3 : W3.heap[w.heap.size]? = _ := (hg3.block w.heap.size hWs (by simp; omega)).trans hN
      have k0 := cell_of hN3 (j := 0) rfl
      have k1 := cell_of hN3 (j := 1) rfl
      have k2 := cell_of hN3 (j := 2) rfl
      clear n0 n1 n2 q0 q1 q2 q3 hN hlk d0 d1 d3
      have hbw : base ≤ W3.drew.heap.size := Nat.le_trans hbs hb3.size
      have hS : (CellsL [(⟨w.heap.size, 0, none⟩, .int .i64 x.x), (⟨w.heap.size, 1, none⟩, .int .i64 x.y), (⟨w.heap.size, 2, none⟩, .int .i64 x.z)]) (W3.drew) := ⟨k0, k1, k2, trivial⟩
      refine wpIn_region_ord [(0, true), (1, true), (2, true), (3, true)] (CellsL [(⟨w.heap.size, 0, none⟩, .int .i64 x.x), (⟨w.heap.size, 1, none⟩, .int .i64 x.y), (⟨w.heap.size, 2, none⟩, .int .i64 x.z)]) (fun _ => trivial) rfl (by first | exact then_put rfl | (intro c d v a w h; cases d <;> exact h)) (by kernel_rfl) ?_
      simp only [List.length_cons, List.length_nil, Nat.reduceAdd, List.drop_succ_cons, List.drop_zero]
      iterate 4 (apply wpOrd_quiet rfl hS rfl; (intro w' hw'; obtain ⟨q0, q1, q2, _⟩ := hw'; go_simp; exact rfl); go_simp)
      refine wpOrd_nil ?_
      gi_wp2_with (refine ⟨trivial, ?_⟩; gi_at_call 25; refine (callsIn_wide.2 (push_any x h room bm b base v _ H3.drew.pb H3.drew.row hh hbw H3.row_b)).mono ?_; rintro en w7 ⟨rfl, v', h', hh1, hh2, hpb, hrow, _, hvl, hfr⟩)
      obtain ⟨H7, hb7⟩ := H3.drew.heap hpb hrow hfr
      go_ret2
      exact ⟨rfl, v', h', (by rw [ht] at H7; exact H7), hh1, hh2, hb3.drew.trans hb7, VL.trans (.inl rfl) hvl hb3.size⟩
  · rw [ht] at d3
    simp only [true_or, if_true]
    refine (callsIn_wide (n := 6)).1 ?_
    refine callsIn_of_wp Try.func9 rfl trivial ?_
    simp only [Try.ntmps9, List.size_toArray, List.length_cons, List.length_nil, Nat.reduceAdd, Nat.reduceSub, Array.replicate_succ, Array.replicate_zero, List.push_toArray, List.append_toArray, List.nil_append, List.cons_append]
    gi_wp2
    have hS : (fun wS => CellsL [(⟨b, 1, none⟩, .map (some bm)), (⟨w.heap.size, 0, none⟩, .int .i64 x.x)] wS ∧ MapAt iv wS bm M : World → Prop) (W.drew) := ⟨⟨q1, n0, trivial⟩, hmp⟩
    refine wpIn_region_ord [(0, true), (1, true), (2, true), (3, true), (4, true), (5, true), (6, true)] (fun wS => CellsL [(⟨b, 1, none⟩, .map (some bm)), (⟨w.heap.size, 0, none⟩, .int .i64 x.x)] wS ∧ MapAt iv wS bm M : World → Prop) (fun _ => trivial) rfl (by first | exact then_put rfl | (intro c d v a w h; cases d <;> exact h)) (by kernel_rfl) ?_
    simp only [List.length_cons, List.length_nil, Nat.reduceAdd, List.drop_succ_cons, List.drop_zero]
    iterate 7 (apply wpOrd_quiet rfl hS rfl; (intro w' hw'; obtain ⟨⟨q0, q1, _⟩, x0⟩ := hw'; have hlq := look67 (v := .pointer (some ⟨e.p, 0, none⟩)) x0 (by rw [hlk]; rfl); go_simp; exact rfl); go_simp)
    refine wpOrd_nil ?_
    clear hS
    gi_wp2
    have hS : (CellsL [(⟨b, 1, none⟩, .map (some bm))]) (W.drew.drew) := ⟨q1, trivial⟩
    refine wpIn_region_ord [(0, true), (1, true), (2, true), (3, true), (4, true), (5, true), (6, true), (7, true), (8, true), (9, true), (10, true), (11, true), (12, true), (13, true)] (CellsL [(⟨b, 1, none⟩, .map (some bm))]) (fun _ => trivial) rfl (by first | exact then_put rfl | (intro c d v a w h; cases d <;> exact h)) (by kernel_rfl) ?_
    simp only [List.length_cons, List.length_nil, Nat.reduceAdd, List.drop_succ_cons, List.drop_zero]
    iterate 3 (apply wpOrd_quiet rfl hS rfl; (intro w' hw'; obtain ⟨q0, _⟩ := hw'; go_simp; exact rfl); go_simp)
    iterate 10 (refine wpOrd_off rfl hS (by rfl) ?_; go_simp)
    iterate 1 (apply wpOrd_quiet rfl hS rfl; (intro w' hw'; obtain ⟨q0, _⟩ := hw'; go_simp; exact rfl); go_simp)
    refine wpOrd_nil ?_
    clear hS
    gi_wp2
    have hS : (CellsL [(⟨e.p, 1, none⟩, .int .i64 e.x.y), (⟨e.p, 3, none⟩, .bool true), (⟨w.heap.size, 1, none⟩, .int .i64 x.y)]) (W.drew.drew.drew) := ⟨d1, d3, n1, trivial⟩
    refine wpIn_region_ord [(0, true), (1, true), (2, true), (3, true), (4, true), (5, true), (6, true), (7, true), (8, true), (9, true), (10, true), (11, true), (12, true), (13, true)] (CellsL [(⟨e.p, 1, none⟩, .int .i64 e.x.y), (⟨e.p, 3, none⟩, .bool true), (⟨w.heap.size, 1, none⟩, .int .i64 x.y)]) (fun _ => trivial) rfl (by first | exact then_put rfl | (intro c d v a w h; cases d <;> exact h)) (by kernel_rfl) ?_
    simp only [List.length_cons, List.length_nil, Nat.reduceAdd, List.drop_succ_cons, List.drop_zero]
    iterate 5 (apply wpOrd_quiet rfl hS rfl; (intro w' hw'; obtain ⟨q0, q1, q2, _⟩ := hw'; go_simp; exact rfl); go_simp)
    iterate 8 (refine wpOrd_off rfl hS (by rfl) ?_; go_simp)
    iterate 1 (apply wpOrd_quiet rfl hS rfl; (intro w' hw'; obtain ⟨q0, q1, q2, _⟩ := hw'; go_simp; exact rfl); go_simp)
    refine wpOrd_nil ?_
    clear hS
    gi_wp2
    go_ret2
    exact ⟨rfl, HW.drew.drew.drew, hb.drew.drew.drew⟩
end Go.Proofs.Ytdamcbpjefjolaa
