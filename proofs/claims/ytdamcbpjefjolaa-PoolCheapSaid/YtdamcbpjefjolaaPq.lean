/- A heap of items in a list: what putting in and taking out do. The pool's memory: a struct, a row of its own. No conditions. -/
import Derived.Test.YtdamcbpjefjolaaPo
import Derived.Test.YtdamcbpjefjolaaRh
namespace Go.Proofs.Ytdamcbpjefjolaa
open Go Go.RowKit Go.Sx
theorem lessV_iff {a b : V3} : lessV a b = true ↔ a.y < b.y ∨ a.y = b.y ∧ a.x < b.x := by simp [lessV]
theorem lessV_irrefl (a : V3) : lessV a a = false := by simp [lessV]
theorem lessV_trans {a b c : V3} (h : lessV a b = true) (h' : lessV b c = true) : lessV a c = true := by
  rw [lessV_iff] at *
  omega
/-- 'not below' goes on. -/
theorem nless_trans {a b c : V3} (h : lessV b a = false) (h' : lessV c b = false) : lessV c a = false := by
  rw [← Bool.not_eq_true, lessV_iff] at *
  omega
theorem nless_of_less {a b : V3} (h : lessV a b = true) : lessV b a = false := by
  rw [← Bool.not_eq_true, lessV_iff] at *
  omega
/-- Two places change their things. -/
def swapL (l : List V3) (i j : Nat) : List V3 :=
  match l[i]?, l[j]? with
  | some x, some y => (l.set i y).set j x
  | _, _ => l
theorem swapL_length (l : List V3) (i j : Nat) : (swapL l i j).length = l.length := by
  unfold swapL
  split <;> simp
theorem swapL_get {l : List V3} {i j : Nat} (hi : i < l.length) (hj : j < l.length) (k : Nat) :
    (swapL l i j)[k]? = if k = j then l[i]? else if k = i then l[j]? else l[k]? := by
  unfold swapL
  simp only [List.getElem?_eq_getElem hi, List.getElem?_eq_getElem hj]
  by_cases hkj : k = j
  · subst hkj
    simp [hj]
  · rw [if_neg hkj, List.getElem?_set_ne (fun e => hkj e.symm)]
    by_cases hki : k = i
    · subst hki
      simp [hi]
    · rw [if_neg hki, List.getElem?_set_ne (fun e => hki e.symm)]
theorem swapL_perm {l : List V3} {i j : Nat} (hi : i < l.length) (hj : j < l.length) : (swapL l i j).Perm l := by
  unfold swapL
  simp only [List.getElem?_eq_getElem hi, List.getElem?_eq_getElem hj]
  exact List.set_set_perm hi hj
/-- No thing is below the one above it. -/
def Heap (l : List V3) : Prop := ∀ k x y, 0 < k → l[k]? = some x → l[(k - 1) / 2]? = some y → lessV x y = false
theorem Heap.top {l : List V3} (h : Heap l) {t : V3} (ht : l[0]? = some t) : ∀ (k : Nat) (x : V3), l[k]? = some x → lessV x t = false := by
  intro k
  induction k using Nat.strongRecOn with
  | _ k ih =>
    intro x hx
    by_cases hk : k = 0
    · subst hk
      rw [ht] at hx
      injection hx with hx
      rw [hx]
      exact lessV_irrefl x
    · have hlt : (k - 1) / 2 < k := by omega
      have hkl : k < l.length := by
        rcases Nat.lt_or_ge k l.length with h1 | h1
        · exact h1
        · rw [List.getElem?_eq_none h1] at hx; cases hx
      have hp : (k - 1) / 2 < l.length := by omega
      have h1 := h k x _ (by omega) hx (List.getElem?_eq_getElem hp)
      exact nless_trans (ih _ hlt _ (List.getElem?_eq_getElem hp)) h1
/-- The heap but for what may be below the one above it at place k. -/
def UpAt (l : List V3) (k : Nat) : Prop :=
  (∀ j x y, 0 < j → j ≠ k → l[j]? = some x → l[(j - 1) / 2]? = some y → lessV x y = false) ∧
  (∀ j x y, 0 < j → 0 < k → (j - 1) / 2 = k → l[j]? = some x → l[(k - 1) / 2]? = some y → lessV x y = false)
theorem UpAt.push {l : List V3} (h : Heap l) (x : V3) : UpAt (l ++ [x]) l.length := by
  have lt : ∀ {j : Nat} {u : V3}, (l ++ [x])[j]? = some u → j < l.length + 1 := fun {j u} hj => by
    rcases Nat.lt_or_ge j (l.length + 1) with h1 | h1
    · exact h1
    · rw [List.getElem?_eq_none (by simpa using h1)] at hj; cases hj
  refine ⟨fun j u v h0 hj hu hv => ?_, fun j u v h0 hk hj hu hv => ?_⟩
  · have := lt hu
    rw [List.getElem?_append_left (by omega)] at hu hv
    exact h j u v h0 hu hv
  · have := lt hu
    omega
theorem UpAt.done {l : List V3} {k : Nat} (h : UpAt l k) (hs : k = 0 ∨ ∀ x y, l[k]? = some x → l[(k - 1) / 2]? = some y → lessV x y = false) : Heap l := by
  intro j x y h0 hx hy
  by_cases hj : j = k
  · subst hj
    rcases hs with hs | hs
    · omega
    · exact hs x y hx hy
  · exact h.1 j x y h0 hj hx hy
theorem UpAt.step {l : List V3} {k : Nat} (h : UpAt l k) (hk : 0 < k) (hkl : k < l.length) (hs : ∀ x y, l[k]? = some x → l[(k - 1) / 2]? = some y → lessV x y = true) : UpAt (swapL l k ((k - 1) / 2)) ((k - 1) / 2) := by
  have hp : (k - 1) / 2 < l.length := by omega
  have hpk : (k - 1) / 2 < k := by omega
  have hx := hs _ _ (List.getElem?_eq_getElem hkl) (List.getElem?_eq_getElem hp)
  have ek := List.getElem?_eq_getElem hkl
  have ep := List.getElem?_eq_getElem hp
  refine ⟨fun j u v h0 hj hu hv => ?_, fun j u v h0 hk' hj hu hv => ?_⟩
  · rw [swapL_get hkl hp] at hu hv
    rw [if_neg hj] at hu
    by_cases hjk : j = k
    · subst hjk
      rw [if_pos rfl] at hu
      rw [if_pos rfl] at hv
      rw [ep] at hu; rw [ek] at hv
      injection hu with hu; injection hv with hv
      subst hu; subst hv
      exact nless_of_less hx
    · rw [if_neg hjk] at hu
      by_cases hj1 : (j - 1) / 2 = (k - 1) / 2
      · rw [if_pos hj1, ek] at hv
        injection hv with hv
        subst hv
        have := h.1 j u _ h0 hjk hu (by rw [hj1]; exact ep)
        exact nless_trans (nless_of_less hx) this
      · rw [if_neg hj1] at hv
        by_cases hj2 : (j - 1) / 2 = k
        · rw [if_pos hj2, ep] at hv
          injection hv with hv
          subst hv
          exact h.2 j u _ h0 hk hj2 hu ep
        · rw [if_neg hj2] at hv
          exact h.1 j u v h0 hjk hu hv
  · rw [swapL_get hkl hp] at hu hv
    rw [if_neg (show (((k - 1) / 2 - 1) / 2) ≠ (k - 1) / 2 by omega), if_neg (show (((k - 1) / 2 - 1) / 2) ≠ k by omega)] at hv
    rw [if_neg (show j ≠ (k - 1) / 2 by omega)] at hu
    have hpv := h.1 ((k - 1) / 2) _ v hk' (by omega) ep hv
    by_cases hjk : j = k
    · rw [if_pos hjk, ep] at hu
      injection hu with hu
      rw [← hu]
      exact hpv
    · rw [if_neg hjk] at hu
      have := h.1 j u _ h0 hjk hu (by rw [hj]; exact ep)
      exact nless_trans hpv this
/-- The heap but for what may be below place k. -/
def DownAt (l : List V3) (k : Nat) : Prop :=
  (∀ j x y, 0 < j → (j - 1) / 2 ≠ k → l[j]? = some x → l[(j - 1) / 2]? = some y → lessV x y = false) ∧
  (∀ j x y, 0 < j → 0 < k → (j - 1) / 2 = k → l[j]? = some x → l[(k - 1) / 2]? = some y → lessV x y = false)
theorem DownAt.done {l : List V3} {k : Nat} (h : DownAt l k) (hs : ∀ j x y, 0 < j → (j - 1) / 2 = k → l[j]? = some x → l[k]? = some y → lessV x y = false) : Heap l := by
  intro j x y h0 hx hy
  by_cases hj : (j - 1) / 2 = k
  · exact hs j x y h0 hj hx (by rw [← hj]; exact hy)
  · exact h.1 j x y h0 hj hx hy
/-- The lesser one below changes places with what is above it. -/
theorem DownAt.step {l : List V3} {k c : Nat} (h : DownAt l k) (hc0 : 0 < c) (hcl : c < l.length) (hck : (c - 1) / 2 = k)
    (hle : ∀ x y, l[c]? = some x → l[k]? = some y → lessV x y = true)
    (hmin : ∀ j x y, 0 < j → (j - 1) / 2 = k → l[j]? = some x → l[c]? = some y → lessV x y = false) : DownAt (swapL l c k) c := by
  have hk : k < l.length := by omega
  have ec := List.getElem?_eq_getElem hcl
  have ek := List.getElem?_eq_getElem hk
  have hx := hle _ _ ec ek
  refine ⟨fun j u v h0 hj hu hv => ?_, fun j u v h0 _ hj hu hv => ?_⟩
  · rw [swapL_get hcl hk] at hu hv
    rw [if_neg hj] at hv
    by_cases hjk : j = k
    · subst hjk
      rw [if_pos rfl, ec] at hu
      injection hu with hu
      rw [if_neg (by omega)] at hv
      rw [← hu]
      exact h.2 c _ v hc0 h0 hck ec hv
    · rw [if_neg hjk] at hu
      by_cases hjc : j = c
      · rw [if_pos hjc, ek] at hu
        rw [hjc, if_pos hck, ec] at hv
        injection hu with hu; injection hv with hv
        subst hu; subst hv
        exact nless_of_less hx
      · rw [if_neg hjc] at hu
        by_cases hj1 : (j - 1) / 2 = k
        · rw [if_pos hj1] at hv
          exact hmin j u v h0 hj1 hu hv
        · rw [if_neg hj1] at hv
          exact h.1 j u v h0 hj1 hu hv
  · rw [swapL_get hcl hk] at hu hv
    rw [if_pos hck, ec] at hv
    injection hv with hv
    rw [if_neg (show j ≠ k by omega), if_neg (show j ≠ c by omega)] at hu
    rw [← hv]
    exact h.1 j u _ h0 (by omega) hu (by rw [hj]; exact ec)

/-- The pool's struct. -/
def PB (w : World) (b : Nat) (room : Int) (bm : Nat) (v : Value) : Prop := w.heap[b]? = some (.cells #[.int .i64 room, .map (some bm), v, .func (.func 22) #[] #[]] 71 (0, 0))
theorem PB.cells {w : World} {b : Nat} {room : Int} {bm : Nat} {v : Value} (h : PB w b room bm v) :
    w.cell? ⟨b, 0, none⟩ = some (.int .i64 room) ∧ w.cell? ⟨b, 1, none⟩ = some (.map (some bm)) ∧ w.cell? ⟨b, 2, none⟩ = some v ∧ w.cell? ⟨b, 3, none⟩ = some (.func (.func 22) #[] #[]) :=
  ⟨cell_of h rfl, cell_of h rfl, cell_of h rfl, cell_of h rfl⟩
theorem PB.set {w : World} {b : Nat} {room : Int} {bm : Nat} {v : Value} (h : PB w b room bm v) (u : Value) : PB (w.setCell ⟨b, 2, none⟩ u) b room bm u := set_block h u
/-- A row of items: one is written. -/
theorem row_at {w : World} {base g n cap : Nat} {l : List V3} (h : w.ownsRow base 30 3 (.slice (some ⟨g, 0, none⟩) n cap) n (vcs l)) {k : Nat} (hk : k < l.length) :
    w.cell? ⟨g, k * 3, none⟩ = some (.int .i64 l[k].x) ∧ w.cell? ⟨g, k * 3 + 1, none⟩ = some (.int .i64 l[k].y) ∧ w.cell? ⟨g, k * 3 + 2, none⟩ = some (.int .i64 l[k].z) := by
  have hn : l.length = n := by have := h.1; rw [vcs_length] at this; omega
  obtain ⟨g0, g1, g2⟩ := vcs_get l k hk
  exact ⟨by rw [h.cellAt _ (by omega), g0], by rw [h.cellAt _ (by omega), g1], by rw [h.cellAt _ (by omega), g2]⟩
end Go.Proofs.Ytdamcbpjefjolaa
