/- The floors of a grid as area.Mark marks them, as plain data and as they lie in memory meanwhile. No conditions. -/
import Derived.Test.YtbjbiimkhpfieaaAo
import Derived.Deep.OwnRows
import Derived.Maps.OwnIn
namespace Go.Proofs.Ytbjbiimkhpfieaa
open Go Go.RowKit Go.Sx Go.Shelf
theorem opIn_append_own_at {F : Fence} {nF : Nat} {P : Program} (w : World) {o : Oper} {a : Act} {K : Act → World → Prop} {Q : Exit → Act → World → Prop} (s x : Operand) (t : TypeId)
    (ho : o.op = .call { callee := .builtin .append, args := #[s, x], argTypes := #[t, t] })
    (base : Nat) (e : TypeId) (i : TypeInfo) (z : Value) (size bytes : Nat) (ht : P.underlying t = some (.slice e)) (hi : P.info? e = some i) (hz : i.zero = some z)
    (hsize : i.size = size) (hby : i.bytes = bytes) (hzs : z.cells.size = size) (hsz : 0 < size)
    (v : Value) (n : Nat) (xs : List Value) (hs : a.eval s = v) (hown : w.ownsRow base e size v n xs)
    (ad : Addr) (m c : Nat) (news : List Value) (hx : a.eval x = .slice (some ad) m c) (hl : news.length = m * size) (hnews : ∀ j u, news[j]? = some u → w.cell? (ad.add j) = some u) (h1 : ∀ u ∈ news, u.oneCell' = true)
    (h63 : n + m ≤ maxLen) (hbytes : (n + m) * bytes ≤ 140737488355328) (hbase : base ≤ w.heap.size)
    (h : ∀ v' w', w'.ownsRow base e size v' (n + m) (xs ++ news) → w.grownBy w' v.ownBlock → (v'.ownBlock = v.ownBlock ∨ v'.ownBlock = some w.heap.size) → K (a.put o.dst v') w') :
    o.wpIn F nF P a w K Q := by
  obtain ⟨v', w', hr, h2, h3, h4, h5⟩ := run_append_own_at (P := P) w base t o.type e i z size bytes ht hi hz hsize hby hzs hsz v n xs hown ad m c news hl hnews h1 h63 hbytes hbase
  unfold Oper.wpIn
  refine ⟨by simp [Oper.about, ho, resolve, Target.leads, Sem.run_pure], ?_⟩
  rw [Oper.semAt_plain F _ _ (by rw [ho]; intro c hc'; cases hc')]
  simp [execOp, ho, resolve, invoke, builtin, hs, hx, hr, Result.andThen]
  exact h v' w' h2 h3 h5
def mark1 (l : List B8) (X Z W : Int) (i : Nat) (v : V3) : V3 := ⟨v.x, v.y, ofF l (X + (i : Int) % W) (Z + (i : Int) / W) v.x⟩
def markF (l : List B8) (X Z W : Int) (rows : List (List V3)) : List (List V3) := rows.mapIdx fun i r => r.map (mark1 l X Z W i)
theorem markF_length (l : List B8) (X Z W : Int) (rows : List (List V3)) : (markF l X Z W rows).length = rows.length := by simp [markF]
theorem markF_get (l : List B8) (X Z W : Int) (rows : List (List V3)) (i : Nat) : (markF l X Z W rows)[i]? = (rows[i]?).map (fun r => r.map (mark1 l X Z W i)) := by simp [markF]
/-- What has been marked of row i. -/
def sel {n : Nat} (l : List B8) (X Z W : Int) (pre : List (Fin n × V3)) (i : Nat) : List V3 := (pre.filter (fun x => x.1.val == i)).map (fun x => mark1 l X Z W i x.2)
theorem sel_snoc {n : Nat} (l : List B8) (X Z W : Int) (pre : List (Fin n × V3)) (x : Fin n × V3) (i : Nat) : sel l X Z W (pre ++ [x]) i = if x.1.val = i then sel l X Z W pre i ++ [mark1 l X Z W i x.2] else sel l X Z W pre i := by
  unfold sel
  rw [List.filter_append, List.map_append]
  by_cases h : x.1.val = i
  · rw [if_pos h]; simp [h]
  · rw [if_neg h]; simp [h]
theorem sel_le {n : Nat} (l : List B8) (X Z W : Int) (pre : List (Fin n × V3)) (i : Nat) : (sel l X Z W pre i).length ≤ pre.length := by
  unfold sel; rw [List.length_map]; exact List.length_filter_le _ _
theorem sel_to (l : List B8) (X Z W : Int) (rows : List (List V3)) (i : Nat) : ∀ k, k ≤ rows.length → sel l X Z W (flatTo rows k) i = if i < k then ((rows[i]?).getD []).map (mark1 l X Z W i) else []
  | 0, _ => rfl
  | k + 1, hk => by
    have ih := sel_to l X Z W rows i k (by omega)
    have hk' : k < rows.length := hk
    rw [flatTo_succ hk']
    unfold sel at ih ⊢
    rw [List.filter_append, List.map_append, ih, List.filter_map, List.map_map]
    by_cases hi : k = i
    · subst hi
      rw [if_neg (by omega), if_pos (by omega), List.nil_append, List.getElem?_eq_getElem hk', Option.getD_some]
      have e : rows[k].filter ((fun x : Fin rows.length × V3 => x.1.val == k) ∘ fun v => (⟨k, hk'⟩, v)) = rows[k] := List.filter_eq_self.2 fun a _ => by simp
      rw [e]; rfl
    · have e : rows[k].filter ((fun x : Fin rows.length × V3 => x.1.val == i) ∘ fun v => (⟨k, hk'⟩, v)) = [] := List.filter_eq_nil_iff.2 fun a _ => by simp [hi]
      rw [e, List.map_nil, List.append_nil]
      by_cases h : i < k
      · rw [if_pos h, if_pos (by omega)]
      · rw [if_neg h, if_neg (by omega)]
theorem sel_flat (l : List B8) (X Z W : Int) (rows : List (List V3)) (i : Nat) (r : List V3) (h : rows[i]? = some r) : sel l X Z W (flat rows) i = r.map (mark1 l X Z W i) := by
  have hi := (List.getElem?_eq_some_iff.1 h).1
  rw [flat, sel_to _ _ _ _ _ _ _ (Nat.le_refl _), if_pos hi, h]; rfl
theorem vcs_snoc (l : List V3) (v : V3) : vcs (l ++ [v]) = vcs l ++ v.cs := by simp [vcs]
theorem flat_len (rows : List (List V3)) (h8 : ∀ r ∈ rows, r.length ≤ 8) : ∀ k, k ≤ rows.length → (flatTo rows k).length ≤ 8 * k
  | 0, _ => by simp [flatTo]
  | k + 1, hk => by
    have ih := flat_len rows h8 k (by omega)
    have := h8 _ (List.getElem_mem (show k < rows.length from hk))
    rw [flatTo_succ hk]
    simp
    omega
/-- The rows that are under way: M holds their heads; each is of its own, in blocks from N0 on; nothing else below N0 has changed since w1. -/
structure MarkIn {n : Nat} (N0 M : Nat) (l : List B8) (X Z W : Int) (w1 : World) (hd : List Value) (pre : List (Fin n × V3)) (Wd : World) : Prop where
  below : Below M w1 Wd
  size : N0 ≤ Wd.heap.size
  keep : ∀ j, j < N0 → j ≠ M → Wd.heap[j]? = w1.heap[j]?
  len : hd.length = n
  head : Wd.heap[M]? = some (.cells hd.toArray 36 (0, 0))
  rows : ∀ i, i < n → ∃ u, hd[i]? = some u ∧ Wd.ownsRow N0 39 3 u (sel l X Z W pre i).length (vcs (sel l X Z W pre i))
  apart : ∀ (i j : Nat) (u v : Value), i ≠ j → hd[i]? = some u → hd[j]? = some v → u.ownBlock = none ∨ u.ownBlock ≠ v.ownBlock
variable {n : Nat} {N0 M : Nat} {l : List B8} {X Z W : Int} {w1 : World} {hd : List Value} {pre : List (Fin n × V3)} {Wd : World}
theorem own_lt {w : World} {b : Nat} {e : TypeId} {s k : Nat} {u : Value} {xs : List Value} (h : w.ownsRow b e s u k xs) {g : Nat} (hg : u.ownBlock = some g) : b ≤ g ∧ g < w.heap.size ∧ ∃ cur f, w.heap[g]? = some (.cells cur e f) := by
  rcases h.2 with ⟨rfl, _⟩ | ⟨g', cap, cur, rfl, hb, hgb, _⟩
  · simp [Value.ownBlock] at hg
  · obtain rfl : g' = g := by simpa [Value.ownBlock] using hg
    exact ⟨hb, (Array.getElem?_eq_some_iff.1 hgb).1, cur, (0, 0), hgb⟩
theorem MarkIn.grown {row : Option Nat} {W' : World} (hM : M < N0) (h : MarkIn N0 M l X Z W w1 hd pre Wd) (hg : Wd.grownBy W' row) (hr : ∀ r, row = some r → N0 ≤ r ∧ ∃ o : Obj, Wd.heap[r]? = some o ∧ o.isCells = false) : MarkIn N0 M l X Z W w1 hd pre W' := by
  have hs := h.size
  have hb : ∀ j, j < N0 → W'.heap[j]? = Wd.heap[j]? := fun j hj => hg.block j (by omega) (fun e => by have := (hr j e.symm).1; omega)
  refine ⟨h.below.grown hg (by omega) (fun k e => by have := (hr k e).1; omega), Nat.le_trans hs hg.size, fun j hj hjm => (hb j hj).trans (h.keep j hj hjm), h.len, (hb M hM).trans h.head, fun i hi => ?_, h.apart⟩
  obtain ⟨u, hu, ho⟩ := h.rows i hi
  refine ⟨u, hu, ho.kept hg ?_⟩
  rcases ho.2 with ⟨rfl, _⟩ | ⟨g, cap, cur, rfl, hb, hgb, _⟩
  · exact .inl rfl
  · refine .inr fun e => ?_
    have hge : some g = row := by simpa [Value.ownBlock] using e
    obtain ⟨_, o, ho, hc⟩ := hr g hge.symm
    rw [hgb] at ho
    cases ho
    cases hc
theorem MarkIn.belowW {W' : World} (hM : M < N0) (h : MarkIn N0 M l X Z W w1 hd pre Wd) (hb : Below Wd.heap.size Wd W') : MarkIn N0 M l X Z W w1 hd pre W' :=
  h.grown hM (row := none) ⟨hb.os, hb.tape, hb.output, hb.size, fun j hj _ => hb.block j hj⟩ (fun r e => by cases e)
/-- One floor is appended to its row. -/
theorem MarkIn.step {w2 : World} {x : Fin n × V3} {u v' : Value} (hM : M < N0) (h : MarkIn N0 M l X Z W w1 hd pre Wd) (hu : hd[x.1.val]? = some u)
    (hown' : w2.ownsRow N0 39 3 v' ((sel l X Z W pre x.1.val).length + 1) (vcs (sel l X Z W pre x.1.val) ++ (mark1 l X Z W x.1.val x.2).cs)) (hg : Wd.grownBy w2 u.ownBlock)
    (hob : v'.ownBlock = u.ownBlock ∨ v'.ownBlock = some Wd.heap.size) : MarkIn N0 M l X Z W w1 (hd.set x.1.val v') (pre ++ [x]) (w2.setCell ⟨M, x.1.val, none⟩ v') := by
  have hs := h.size
  obtain ⟨u0, hu0, hou⟩ := h.rows x.1.val x.1.isLt
  obtain rfl : u0 = u := by rw [hu] at hu0; injection hu0 with e; exact e.symm
  have hub : ∀ g, u0.ownBlock = some g → N0 ≤ g := fun g e => (own_lt hou e).1
  have hb : ∀ j, j < N0 → w2.heap[j]? = Wd.heap[j]? := fun j hj => hg.block j (by omega) (fun e => by have := hub j e.symm; omega)
  have hset := heap_setCell_same w2 M x.1.val hd.toArray 36 v' ((hb M hM).trans h.head)
  have hs2 : (w2.setCell ⟨M, x.1.val, none⟩ v').heap.size = w2.heap.size := by simp
  have hgs := grownBy_setCell4 w2 M x.1.val v'
  have hlen := h.len
  have hv'b : ∀ g, v'.ownBlock = some g → N0 ≤ g := fun g e => (own_lt hown' e).1
  refine ⟨(h.below.grown hg (by omega) (fun k e => by have := hub k e; omega)).setCell (p := ⟨M, x.1.val, none⟩) (Nat.le_refl M) v', by have := hg.size; omega, fun j hj hjm => ?_, by simp [hlen], by rw [hset]; simp, fun i hi => ?_, fun i j a b hij ha hb' => ?_⟩
  · exact (hgs.block j (by have := hg.size; omega) (by intro e; injection e with e; exact hjm e)).trans ((hb j hj).trans (h.keep j hj hjm))
  · rw [sel_snoc]
    by_cases hix : x.1.val = i
    · subst hix
      rw [if_pos rfl]
      refine ⟨v', by simp [hlen], ?_⟩
      rw [vcs_snoc, List.length_append]
      refine World.ownsRow.kept hown' hgs ?_
      cases hv : v'.ownBlock with
      | none => exact .inl rfl
      | some g => exact .inr (by intro e; injection e with e; have := hv'b g hv; omega)
    · rw [if_neg hix]
      obtain ⟨ui, hui, hoi⟩ := h.rows i hi
      refine ⟨ui, by rw [List.getElem?_set_ne hix]; exact hui, ?_⟩
      refine World.ownsRow.kept (hoi.kept hg (h.apart i x.1.val ui u0 (Ne.symm hix) hui hu)) hgs ?_
      cases hv : ui.ownBlock with
      | none => exact .inl rfl
      | some g => exact .inr (by intro e; injection e with e; have := (own_lt hoi hv).1; omega)
  · have fresh : ∀ (q : Nat) (c : Value), q ≠ x.1.val → hd[q]? = some c → c.ownBlock = none ∨ c.ownBlock ≠ v'.ownBlock := fun q c hq hc => by
      have hqn : q < n := by have := (List.getElem?_eq_some_iff.1 hc).1; omega
      rcases hob with e | e
      · rw [e]; exact h.apart q x.1.val c u0 hq hc hu
      · rw [e]
        obtain ⟨c0, hc0, hoc⟩ := h.rows q hqn
        obtain rfl : c0 = c := by rw [hc] at hc0; injection hc0 with e; exact e.symm
        cases hv : c0.ownBlock with
        | none => exact .inl rfl
        | some g => exact .inr (by intro e; injection e with e; have := (own_lt hoc hv).2.1; omega)
    by_cases hi : x.1.val = i
    · subst hi
      obtain rfl : v' = a := by simpa [hlen] using ha
      rw [List.getElem?_set_ne hij] at hb'
      rcases fresh j b (Ne.symm hij) hb' with e | e
      · cases hv : v'.ownBlock with
        | none => exact .inl rfl
        | some g => exact .inr (by rw [e]; simp)
      · exact .inr (Ne.symm e)
    · rw [List.getElem?_set_ne hi] at ha
      by_cases hj : x.1.val = j
      · subst hj
        obtain rfl : v' = b := by simpa [hlen] using hb'
        exact fresh i a (Ne.symm hi) ha
      · rw [List.getElem?_set_ne hj] at hb'
        exact h.apart i j a b hij ha hb'
/-- A cell is written that is in no row. -/
theorem MarkIn.set {b k : Nat} {v : Value} (hM : M < N0) (h : MarkIn N0 M l X Z W w1 hd pre Wd) (hb : N0 ≤ b) (ha : ∀ u ∈ hd, u.ownBlock ≠ some b) : MarkIn N0 M l X Z W w1 hd pre (Wd.setCell ⟨b, k, none⟩ v) := by
  have hg := grownBy_setCell4 Wd b k v
  have hs := h.size
  have hk : ∀ j, j < N0 → (Wd.setCell ⟨b, k, none⟩ v).heap[j]? = Wd.heap[j]? := fun j hj => hg.block j (by omega) (by intro e; injection e with e; omega)
  refine ⟨h.below.setCell (p := ⟨b, k, none⟩) (by show M ≤ b; omega) v, Nat.le_trans hs hg.size, fun j hj hjm => (hk j hj).trans (h.keep j hj hjm), h.len, (hk M hM).trans h.head, fun i hi => ?_, h.apart⟩
  obtain ⟨u, hu, ho⟩ := h.rows i hi
  exact ⟨u, hu, ho.kept hg (.inr (ha u (List.mem_of_getElem? hu)))⟩
theorem MarkIn.fresh (h : MarkIn N0 M l X Z W w1 hd pre Wd) {b : Nat} (hb : Wd.heap.size ≤ b) : ∀ u ∈ hd, u.ownBlock ≠ some b := fun u hu e => by
  obtain ⟨i, hi⟩ := List.mem_iff_getElem?.1 hu
  have hin : i < n := by have := (List.getElem?_eq_some_iff.1 hi).1; rw [h.len] at this; exact this
  obtain ⟨u', hu', ho⟩ := h.rows i hin
  rw [hi] at hu'
  injection hu' with e'
  subst e'
  have := (own_lt ho e).2.1
  omega
theorem made_eq (n : Nat) (z : Value) : madeCells #[z] n = (List.replicate n z).toArray := by
  have := toList_madeCells_one z n
  rw [← this]
theorem MarkIn.new (hs : N0 ≤ w1.heap.size) (hh : w1.heap[M]? = some (.cells (List.replicate n (.slice none 0 0)).toArray 36 (0, 0))) : MarkIn N0 M l X Z W w1 (List.replicate n (.slice none 0 0)) ([] : List (Fin n × V3)) w1 := by
  refine ⟨Below.refl _ _, hs, fun _ _ _ => rfl, by simp, hh, fun i hi => ⟨.slice none 0 0, by simp [hi], World.ownsRow_nil _ _ _ _⟩, fun i j u v _ hu _ => ?_⟩
  rw [List.getElem?_replicate] at hu
  split at hu
  · injection hu with hu; subst hu; exact .inl rfl
  · cases hu
/-- Rows of floors, all in the blocks from N1 to N0. -/
def RowsIn (w : World) (N1 N0 : Nat) (A : Option Addr) (rows : List (List V3)) : Prop :=
  ∃ hd : List Value, ReadsIn w N1 N0 1 A rows.length hd ∧ ∀ (i : Nat) (r : List V3), rows[i]? = some r → ∃ (Ai : Option Addr) (ci : Nat), hd[i]? = some (Value.slice Ai r.length ci) ∧ ReadsIn w N1 N0 3 Ai r.length (vcs r)
theorem RowsIn.keep {w w' : World} {N1 N0 : Nat} {A : Option Addr} {rows : List (List V3)} (h : RowsIn w N1 N0 A rows) (k : Keep2 N1 N0 w w') : RowsIn w' N1 N0 A rows := by
  obtain ⟨hd, h1, h2⟩ := h
  exact ⟨hd, h1.keep k, fun i r hr => by obtain ⟨Ai, ci, a, b⟩ := h2 i r hr; exact ⟨Ai, ci, a, b.keep k⟩⟩
theorem RowsIn.to {w : World} {N1 N0 : Nat} {A : Option Addr} {rows : List (List V3)} (h : RowsIn w N1 N0 A rows) : RowsAt w N0 A rows := by
  obtain ⟨hd, h1, h2⟩ := h
  exact ⟨hd, h1.to, fun i r hr => by obtain ⟨Ai, ci, a, b⟩ := h2 i r hr; exact ⟨Ai, ci, a, b.to⟩⟩
theorem ReadsIn.wide {w : World} {N1 N1' N0 N0' size : Nat} {A : Option Addr} {n : Nat} {xs : List Value} (h : ReadsIn w N1 N0 size A n xs) (h1 : N1' ≤ N1) (h2 : N0 ≤ N0') : ReadsIn w N1' N0' size A n xs :=
  ⟨h.1, fun hn => by
    obtain ⟨ad, e, a, b, c⟩ := h.2 hn
    exact ⟨ad, e, Nat.le_trans h1 a, Nat.lt_of_lt_of_le b h2, c⟩⟩
theorem RowsIn.wide {w : World} {N1 N1' N0 N0' : Nat} {A : Option Addr} {rows : List (List V3)} (h : RowsIn w N1 N0 A rows) (h1 : N1' ≤ N1) (h2 : N0 ≤ N0') : RowsIn w N1' N0' A rows := by
  obtain ⟨hd, a, b⟩ := h
  exact ⟨hd, a.wide h1 h2, fun i r hr => by obtain ⟨Ai, ci, c, d⟩ := b i r hr; exact ⟨Ai, ci, c, d.wide h1 h2⟩⟩
theorem MarkIn.rowsAt {rows : List (List V3)} {Wd W' : World} (hM : M < N0) (h : MarkIn N0 M l X Z W w1 hd (flat rows) Wd) (hk : ∀ k c t f, M ≤ k → Wd.heap[k]? = some (.cells c t f) → W'.heap[k]? = some (.cells c t f)) :
    RowsIn W' M W'.heap.size (some ⟨M, 0, none⟩) (markF l X Z W rows) := by
  have hh := hk _ _ _ _ (Nat.le_refl _) h.head
  have hMl := (Array.getElem?_eq_some_iff.1 hh).1
  have hlen := h.len
  refine ⟨hd, ⟨by rw [markF_length, hlen, Nat.mul_one], fun _ => ⟨_, rfl, Nat.le_refl _, hMl, fun j u hj => ?_⟩⟩, fun i r hr => ?_⟩
  · have e : (⟨M, 0, none⟩ : Addr).add j = ⟨M, j, none⟩ := by simp [Addr.add]; exact fun h => h.symm
    rw [e]
    simp [World.cell?, hh, hj]
  · rw [markF_get] at hr
    obtain ⟨r0, h0, rfl⟩ := Option.map_eq_some_iff.1 hr
    have hi := (List.getElem?_eq_some_iff.1 h0).1
    obtain ⟨u, hu, ho⟩ := h.rows i hi
    rw [sel_flat l X Z W rows i r0 h0] at ho
    have ho' : W'.ownsRow N0 39 3 u (r0.map (mark1 l X Z W i)).length (vcs (r0.map (mark1 l X Z W i))) := by
      refine ⟨ho.1, ?_⟩
      rcases ho.2 with hn | ⟨g, cap, cur, rfl, hb, hgb, rest⟩
      · exact .inl hn
      · exact .inr ⟨g, cap, cur, rfl, hb, hk g _ _ _ (by omega) hgb, rest⟩
    obtain ⟨A, c, rfl, hrd⟩ := ReadsIn.of_own ho'
    exact ⟨A, c, hu, hrd.wide (by omega) (Nat.le_refl _)⟩
theorem cells_new (w : World) (cs : List Value) (t : TypeId) : ∀ (j : Nat) (u : Value), cs[j]? = some u → (w.alloc (.cells cs.toArray t)).cell? ((⟨w.heap.size, 0, none⟩ : Addr).add j) = some u := fun j u hj => by
  have e : (⟨w.heap.size, 0, none⟩ : Addr).add j = ⟨w.heap.size, j, none⟩ := by simp [Addr.add]; exact fun h => h.symm
  rw [e]
  exact (World.cell?_alloc_at _ _ _ _ rfl).trans (by simpa using hj)
theorem keepsO_below {w w' : World} (h : Below w.heap.size w w') : KeepsOthers w w' := ⟨h.size, fun k _ hk _ => (h.block k (Array.getElem?_eq_some_iff.1 hk).1).trans hk⟩
theorem keepsO_own {w w' : World} {b : Nat} {e : TypeId} {s k : Nat} {u : Value} {xs : List Value} (h : w.ownsRow b e s u k xs) (hg : w.grownBy w' u.ownBlock) : KeepsOthers w w' := KeepsOthers.of_grownBy hg fun j _ ej hj => by
  obtain ⟨_, _, cur, f, hc⟩ := own_lt h ej
  rw [hj] at hc
  cases hc
  rfl
end Go.Proofs.Ytbjbiimkhpfieaa
