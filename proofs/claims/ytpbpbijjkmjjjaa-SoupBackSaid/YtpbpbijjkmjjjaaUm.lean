/- The lists of the soup: a triangle is added, by a walk. No conditions but those named. -/
import Derived.Test.YtpbpbijjkmjjjaaUl
import Derived.Deep.RegionHeld3
set_option linter.unusedSimpArgs false
set_option linter.unusedVariables false
namespace Go.Proofs.Ytpbpbijjkmjjjaa
open Go Go.RowKit Go.Sx
attribute [local go_sem] Oper.semAt_some
abbrev SA (V : World) (g : Nat) (t : T10) (w : World) : Prop :=
  w.cell? ⟨g, 0, none⟩ = some (.int .i64 t.id) ∧ w.cell? ⟨g, 1, none⟩ = some (.int .i64 t.x0) ∧ w.cell? ⟨g, 2, none⟩ = some (.int .i64 t.y0) ∧ w.cell? ⟨g, 3, none⟩ = some (.int .i64 t.z0) ∧ w.cell? ⟨g, 4, none⟩ = some (.int .i64 t.x1) ∧ w.cell? ⟨g, 5, none⟩ = some (.int .i64 t.y1) ∧ w.cell? ⟨g, 6, none⟩ = some (.int .i64 t.z1) ∧ w.cell? ⟨g, 7, none⟩ = some (.int .i64 t.x2) ∧ w.cell? ⟨g, 8, none⟩ = some (.int .i64 t.y2) ∧ w.cell? ⟨g, 9, none⟩ = some (.int .i64 t.z2) ∧ g < V.heap.size ∧ Below V.heap.size V w
theorem SA.keep {V : World} {g : Nat} {t : T10} {w w' : World} (h : SA V g t w) (hb : Below V.heap.size w w') : SA V g t w' := by
  obtain ⟨h0, h1, h2, h3, h4, h5, h6, h7, h8, h9, hl, hw⟩ := h
  have e : ∀ q, w'.cell? ⟨g, q, none⟩ = w.cell? ⟨g, q, none⟩ := fun q => hb.cell hl
  exact ⟨(e _).trans h0, (e _).trans h1, (e _).trans h2, (e _).trans h3, (e _).trans h4, (e _).trans h5, (e _).trans h6, (e _).trans h7, (e _).trans h8, (e _).trans h9, hl, hw.trans hb⟩
theorem SA.below {V : World} {g : Nat} {t : T10} {w : World} (h : SA V g t w) : Below V.heap.size V w := h.2.2.2.2.2.2.2.2.2.2.2
theorem SA.drew {V : World} {g : Nat} {t : T10} {w : World} (h : SA V g t w) : SA V g t w.drew := h.keep ((Below.refl V.heap.size w).drew)
theorem SA.alloc {V : World} {g : Nat} {t : T10} {w : World} (h : SA V g t w) (o : Obj) : SA V g t (w.alloc o) := h.keep ((Below.refl _ _).alloc h.below.size o)
theorem SA.call {V : World} {g : Nat} {t : T10} {w w' : World} (h : SA V g t w) (hb : Below w.heap.size w w') : SA V g t w' := h.keep (hb.mono h.below.size)
theorem insA (r : List T10) (k : Nat) (hl : r.length ≤ 1000) (hk : k ≤ r.length) (t : T10) {base : Nat} {v : Value} {w6 : World} (ho : w6.ownsRow base 33 10 v r.length (fl T10.cs r)) (hb : base ≤ w6.heap.size) :
    Calls Try.prog 48 #[v, .int .i64 k, .slice (some ⟨w6.heap.size, 0, none⟩) 1 1] (w6.alloc (.cells t.cs.toArray 33)) fun en w' => (∃ A' c', en = .returned (.slice A' (r.length + 1) c') ∧ Reads w' w'.heap.size 10 A' (r.length + 1) (fl T10.cs (insAt r k t))) ∧ Below base (w6.alloc (.cells t.cs.toArray 33)) w' := by
  have ho' := ho.alloc (.cells t.cs.toArray 33)
  refine (insert_any base v r k hl hk t w6.heap.size _ ho' (World.alloc_heap_new _ _) (by simp; omega) (fun e => by have := (ho.lt _ e).2; omega)).mono ?_
  rintro en w' ⟨h, hg⟩
  exact ⟨h, (Below.refl _ _).grown hg (by simp; omega) (fun j e => (ho'.lt j e).1)⟩
theorem insB (r : List T10) (k : Nat) (hl : r.length ≤ 1000) (hk : k ≤ r.length) (t : T10) {v : Value} {X w6 : World} (ho : w6.ownsRow (X.alloc (.cells t.cs.toArray 33)).heap.size 33 10 v r.length (fl T10.cs r)) (hb : Below (X.alloc (.cells t.cs.toArray 33)).heap.size (X.alloc (.cells t.cs.toArray 33)) w6) :
    Calls Try.prog 48 #[v, .int .i64 k, .slice (some ⟨X.heap.size, 0, none⟩) 1 1] w6 fun en w' => (∃ A' c', en = .returned (.slice A' (r.length + 1) c') ∧ Reads w' w'.heap.size 10 A' (r.length + 1) (fl T10.cs (insAt r k t))) ∧ Below (X.alloc (.cells t.cs.toArray 33)).heap.size w6 w' := by
  refine (insert_any _ v r k hl hk t X.heap.size w6 ho ((hb.block _ (by simp)).trans (World.alloc_heap_new _ _)) hb.size (fun e => by have := (ho.lt _ e).1; simp at this; omega)).mono ?_
  rintro en w' ⟨h, hg⟩
  exact ⟨h, (Below.refl _ _).grown hg hb.size (fun j e => (ho.lt j e).1)⟩
set_option maxHeartbeats 4000000 in
set_option maxRecDepth 100000 in
theorem addTri_any (p : T10 → Bool) (a b : Value) (bad : Int) (r : List T10) (A : Option Addr) (cap : Nat) (t : T10) (w : World) (hp : MayAt 42 #[a, b] T10.v p w) (hr : Reads w w.heap.size 10 A r.length (fl T10.cs r)) (hl : r.length ≤ 1000) (hck : chk (oneF T10.id p) T10.id 0 r = true) :
    Calls Try.prog 19 #[listv 41 42 #[a, b] 200 bad, .slice A r.length cap, t.v] w fun en w' =>
      ((oneF T10.id p t = false ∧ en = .returned (.tuple #[.slice none 0 0, .int .i64 bad])) ∨
       (oneF T10.id p t = true ∧ (∃ x ∈ r, x.id = t.id) ∧ en = .returned (.tuple #[.slice none 0 0, .int .i64 50])) ∨
       (oneF T10.id p t = true ∧ (¬ ∃ x ∈ r, x.id = t.id) ∧ 200 ≤ r.length ∧ en = .returned (.tuple #[.slice none 0 0, .int .i64 51])) ∨
       (oneF T10.id p t = true ∧ (¬ ∃ x ∈ r, x.id = t.id) ∧ r.length < 200 ∧ ∃ k, PlaceAt r t.id k ∧ ∃ A' c', en = .returned (.tuple #[.slice A' (r.length + 1) c', .int .i64 0]) ∧ Reads w' w'.heap.size 10 A' (r.length + 1) (fl T10.cs (insAt r k t)))) ∧ Below w.heap.size w w' := by
  obtain ⟨u1, eu1, bu1, ku1⟩ := alloc_step w (.cells #[.func (.func 41) #[] #[], .func (.func 42) #[] #[a, b], .int .i64 200, .int .i64 bad] 55)
  obtain ⟨id, x0, y0, z0, x1, y1, z1, x2, y2, z2⟩ := t
  obtain ⟨u2, eu2, bu2, ku2⟩ := alloc_step u1 (.cells #[.int .i64 id, .int .i64 x0, .int .i64 y0, .int .i64 z0, .int .i64 x1, .int .i64 y1, .int .i64 z1, .int .i64 x2, .int .i64 y2, .int .i64 z2] 33)
  have hb2 : Below w.heap.size w u2 := bu1.trans (bu2.mono bu1.size)
  have ku1' := (bu2.block _ (lt_of_block ku1)).trans ku1
  obtain ⟨l0, l1, l2, l3⟩ := box4 ku1'
  obtain ⟨c0, c1, c2, c3, c4, c5, c6, c7, c8, c9⟩ := box10 ku2
  have hone := oneTri_any p a b 200 bad ⟨id, x0, y0, z0, x1, y1, z1, x2, y2, z2⟩ u2 (hp.below hb2)
  have hid := fun w => idTri_any ⟨id, x0, y0, z0, x1, y1, z1, x2, y2, z2⟩ w
  have hsm : ∀ x, oneF T10.id p x = true → Small x.id := fun x hx => by
    simp only [oneF, Bool.and_eq_true, decide_eq_true_eq] at hx
    exact ⟨by omega, hx.1.2⟩
  have hrs : ∀ x ∈ r, Small x.id := fun x hx => hsm x (chk_mem hck hx).1
  have hup : ∀ i j (hj : j < r.length) (hij : i < j), (r[i]'(by omega)).id < r[j].id := fun i j hj hij => chk_lt hck hij hj
  unfold T10.v at hone hid
  unfold listv at hone ⊢
  unfold T10.v
  clear hp
  refine (callsIn_wide (n := 6)).1 ?_
  refine callsIn_of_wp Try.func19 rfl trivial ?_
  simp only [Try.ntmps19, List.size_toArray, List.length_cons, List.length_nil, Nat.reduceAdd, Nat.reduceSub, Array.replicate_succ, Array.replicate_zero, List.push_toArray, List.append_toArray, List.nil_append, List.cons_append]
  gi_wp2
  refine ⟨trivial, (callsIn_wide.2 hone).mono ?_⟩
  rintro en w3 ⟨rfl, hb3⟩
  have hbw3 := hb2.trans (hb3.mono hb2.size)
  clear l0 l1 l2 l3 c0 c1 c2 c3 c4 c5 c6 c7 c8 c9 hone
  have m1 := (hb3.block _ (lt_of_block ku1')).trans ku1'
  have m2 := (hb3.block _ (lt_of_block ku2)).trans ku2
  obtain ⟨l0, l1, l2, l3⟩ := box4 m1
  cases hq : oneF T10.id p ⟨id, x0, y0, z0, x1, y1, z1, x2, y2, z2⟩ with
  | false =>
    replace hq := Lib.hid hq
    gi_wp2
    have hS : (CellsL [(⟨w.heap.size, 3, none⟩, .int .i64 bad)]) (w3.drew) := ⟨l3, trivial⟩
    refine wpIn_region_ord [(0, true), (1, true), (2, true)] (CellsL [(⟨w.heap.size, 3, none⟩, .int .i64 bad)]) (fun _ => trivial) rfl (by first | exact then_put rfl | (intro c d v a w h; cases d <;> exact h)) (by kernel_rfl) ?_
    simp only [List.length_cons, List.length_nil, Nat.reduceAdd, List.drop_succ_cons, List.drop_zero]
    iterate 3 (apply wpOrd_quiet rfl hS rfl; (intro w' hw'; obtain ⟨q0, _⟩ := hw'; go_simp; exact rfl); go_simp)
    refine wpOrd_nil ?_
    clear hS
    gi_wp2
    go_ret2
    exact ⟨.inl ⟨hq.out, rfl⟩, hbw3.drew⟩
  | true =>
    have hsid : Small id := hsm _ hq
    replace hq := Lib.hid hq
    obtain ⟨c0, c1, c2, c3, c4, c5, c6, c7, c8, c9⟩ := box10 m2
    gi_wp2
    refine ⟨trivial, (callsIn_wide.2 (hid _)).mono ?_⟩
    rintro en w4 ⟨rfl, hb4⟩
    have hbw4 := hbw3.trans (hb4.mono hbw3.size)
    clear l0 l1 l2 l3 c0 c1 c2 c3 c4 c5 c6 c7 c8 c9
    have n1 := (hb4.block _ (lt_of_block m1)).trans m1
    have n2 := (hb4.block _ (lt_of_block m2)).trans m2
    have hse := search_any id w.heap.size r A cap w4 (cell_of n1 rfl) (lt_of_block n1) hsid ((hr.below hbw4).more hbw4.size) hl hrs hup
    gi_wp2
    refine ⟨trivial, (callsIn_wide.2 hse).mono ?_⟩
    rintro en w5 ⟨⟨k, there, rfl, hpl, hth⟩, hb5⟩
    have hbw5 := hbw4.trans (hb5.mono hbw4.size)
    have o1 := (hb5.block _ (lt_of_block n1)).trans n1
    have o2 := (hb5.block _ (lt_of_block n2)).trans n2
    obtain ⟨l0, l1, l2, l3⟩ := box4 o1
    replace hpl := Lib.hid hpl
    cases there with
    | true =>
      replace hth := Lib.hid (hth.1 rfl)
      gi_wp2
      go_ret2
      exact ⟨.inr (.inl ⟨hq.out, hth.out, rfl⟩), hbw5⟩
    | false =>
      replace hth : Hid (¬ ∃ x ∈ r, x.id = id) := Lib.hid (fun h => by cases hth.2 h)
      by_cases hf : 200 ≤ r.length
      · have hf' : (200 : Int) ≤ (r.length : Int) := by omega
        gi_wp2
        go_ret2
        exact ⟨.inr (.inr (.inl ⟨hq.out, hth.out, hf, rfl⟩)), hbw5⟩
      · have hf' : ¬ (200 : Int) ≤ (r.length : Int) := by omega
        gi_wp2
        refine wpIn_wide.2 ?_
        obtain ⟨c0, c1, c2, c3, c4, c5, c6, c7, c8, c9⟩ := box10 o2
        have hS5 : SA w5 u1.heap.size ⟨id, x0, y0, z0, x1, y1, z1, x2, y2, z2⟩ w5 := ⟨c0, c1, c2, c3, c4, c5, c6, c7, c8, c9, lt_of_block o2, Below.refl _ _⟩
        have hcl : ∀ {V' : World}, Below w5.heap.size w5 V' → Calls Try.prog 49 #[.slice A r.length cap] V' fun en w' => ∃ v, en = .returned v ∧ w'.ownsRow V'.heap.size 33 10 v r.length (fl T10.cs r) ∧ Below V'.heap.size V' w' := fun {V'} h => cloneTri_any r A cap V' ((hr.below (hbw5.trans (h.mono hbw5.size))).more (Nat.le_trans hbw5.size h.size)) hl
        have hkl : k ≤ r.length := hpl.out.1
        have hA : ∀ {base : Nat} {v : Value} {w6 : World}, w6.ownsRow base 33 10 v r.length (fl T10.cs r) → base ≤ w6.heap.size → Calls Try.prog 48 #[v, .int .i64 k, .slice (some ⟨w6.heap.size, 0, none⟩) 1 1] (w6.alloc (.cells #[.int .i64 id, .int .i64 x0, .int .i64 y0, .int .i64 z0, .int .i64 x1, .int .i64 y1, .int .i64 z1, .int .i64 x2, .int .i64 y2, .int .i64 z2] 33)) fun en w' => (∃ A' c', en = .returned (.slice A' (r.length + 1) c') ∧ Reads w' w'.heap.size 10 A' (r.length + 1) (fl T10.cs (insAt r k ⟨id, x0, y0, z0, x1, y1, z1, x2, y2, z2⟩))) ∧ Below base (w6.alloc (.cells #[.int .i64 id, .int .i64 x0, .int .i64 y0, .int .i64 z0, .int .i64 x1, .int .i64 y1, .int .i64 z1, .int .i64 x2, .int .i64 y2, .int .i64 z2] 33)) w' := fun h1 h2 => insA r k hl hkl ⟨id, x0, y0, z0, x1, y1, z1, x2, y2, z2⟩ h1 h2
        have hB : ∀ {v : Value} {X w6 : World}, w6.ownsRow (X.alloc (.cells #[.int .i64 id, .int .i64 x0, .int .i64 y0, .int .i64 z0, .int .i64 x1, .int .i64 y1, .int .i64 z1, .int .i64 x2, .int .i64 y2, .int .i64 z2] 33)).heap.size 33 10 v r.length (fl T10.cs r) → Below (X.alloc (.cells #[.int .i64 id, .int .i64 x0, .int .i64 y0, .int .i64 z0, .int .i64 x1, .int .i64 y1, .int .i64 z1, .int .i64 x2, .int .i64 y2, .int .i64 z2] 33)).heap.size (X.alloc (.cells #[.int .i64 id, .int .i64 x0, .int .i64 y0, .int .i64 z0, .int .i64 x1, .int .i64 y1, .int .i64 z1, .int .i64 x2, .int .i64 y2, .int .i64 z2] 33)) w6 → Calls Try.prog 48 #[v, .int .i64 k, .slice (some ⟨X.heap.size, 0, none⟩) 1 1] w6 fun en w' => (∃ A' c', en = .returned (.slice A' (r.length + 1) c') ∧ Reads w' w'.heap.size 10 A' (r.length + 1) (fl T10.cs (insAt r k ⟨id, x0, y0, z0, x1, y1, z1, x2, y2, z2⟩))) ∧ Below (X.alloc (.cells #[.int .i64 id, .int .i64 x0, .int .i64 y0, .int .i64 z0, .int .i64 x1, .int .i64 y1, .int .i64 z1, .int .i64 x2, .int .i64 y2, .int .i64 z2] 33)).heap.size w6 w' := fun h1 h2 => insB r k hl hkl ⟨id, x0, y0, z0, x1, y1, z1, x2, y2, z2⟩ h1 h2
        have hB2 : ∀ {v : Value} {X w6 : World}, w6.ownsRow (X.alloc (.cells #[.int .i64 id, .int .i64 x0, .int .i64 y0, .int .i64 z0, .int .i64 x1, .int .i64 y1, .int .i64 z1, .int .i64 x2, .int .i64 y2, .int .i64 z2] 33)).drew.heap.size 33 10 v r.length (fl T10.cs r) → Below (X.alloc (.cells #[.int .i64 id, .int .i64 x0, .int .i64 y0, .int .i64 z0, .int .i64 x1, .int .i64 y1, .int .i64 z1, .int .i64 x2, .int .i64 y2, .int .i64 z2] 33)).drew.heap.size (X.alloc (.cells #[.int .i64 id, .int .i64 x0, .int .i64 y0, .int .i64 z0, .int .i64 x1, .int .i64 y1, .int .i64 z1, .int .i64 x2, .int .i64 y2, .int .i64 z2] 33)).drew w6 → Calls Try.prog 48 #[v, .int .i64 k, .slice (some ⟨X.heap.size, 0, none⟩) 1 1] w6 fun en w' => (∃ A' c', en = .returned (.slice A' (r.length + 1) c') ∧ Reads w' w'.heap.size 10 A' (r.length + 1) (fl T10.cs (insAt r k ⟨id, x0, y0, z0, x1, y1, z1, x2, y2, z2⟩))) ∧ Below (X.alloc (.cells #[.int .i64 id, .int .i64 x0, .int .i64 y0, .int .i64 z0, .int .i64 x1, .int .i64 y1, .int .i64 z1, .int .i64 x2, .int .i64 y2, .int .i64 z2] 33)).heap.size w6 w' := fun h1 h2 => insB r k hl hkl ⟨id, x0, y0, z0, x1, y1, z1, x2, y2, z2⟩ h1 ⟨h2.os, h2.tape, h2.output, h2.size, h2.block⟩
        go_region_held3 (fun w' => w'.cell? ⟨u1.heap.size, 0, none⟩ = some (.int .i64 id) ∧ w'.cell? ⟨u1.heap.size, 1, none⟩ = some (.int .i64 x0) ∧ w'.cell? ⟨u1.heap.size, 2, none⟩ = some (.int .i64 y0) ∧ w'.cell? ⟨u1.heap.size, 3, none⟩ = some (.int .i64 z0) ∧ w'.cell? ⟨u1.heap.size, 4, none⟩ = some (.int .i64 x1) ∧ w'.cell? ⟨u1.heap.size, 5, none⟩ = some (.int .i64 y1) ∧ w'.cell? ⟨u1.heap.size, 6, none⟩ = some (.int .i64 z1) ∧ w'.cell? ⟨u1.heap.size, 7, none⟩ = some (.int .i64 x2) ∧ w'.cell? ⟨u1.heap.size, 8, none⟩ = some (.int .i64 y2) ∧ w'.cell? ⟨u1.heap.size, 9, none⟩ = some (.int .i64 z2) ∧ u1.heap.size < w5.heap.size ∧ Below w5.heap.size w5 w')
          (first | (with_reducible exact hS5) | (with_reducible exact SA.drew hS5) | (with_reducible exact SA.drew (SA.alloc hS5 _)) | (with_reducible exact SA.alloc (SA.drew hS5) _) | (with_reducible exact hS8) | (with_reducible exact SA.drew (V := w5) (g := u1.heap.size) (t := ⟨id, x0, y0, z0, x1, y1, z1, x2, y2, z2⟩) (by assumption)) | (with_reducible exact SA.alloc (V := w5) (g := u1.heap.size) (t := ⟨id, x0, y0, z0, x1, y1, z1, x2, y2, z2⟩) (by assumption) _) | (with_reducible exact hS6) | (with_reducible exact SA.alloc hS6 _))
          (first
            | (go_at_call 49; refine (hcl (SA.below (V := w5) (g := u1.heap.size) (t := ⟨id, x0, y0, z0, x1, y1, z1, x2, y2, z2⟩) (by assumption))).mono ?_; rintro en w6 ⟨v6, rfl, hown6, hb6⟩; have hS6 := SA.call (V := w5) (g := u1.heap.size) (t := ⟨id, x0, y0, z0, x1, y1, z1, x2, y2, z2⟩) (by assumption) hb6)
            | (go_at_call 48; (with_reducible refine (hA hown6 hb6.size).mono ?_); rintro en w8 ⟨⟨A8, c8, rfl, hr8⟩, hb8⟩; have hS8 := SA.keep (SA.alloc hS6 _) (hb8.mono (by first | exact Nat.le_refl _ | simp)))
            | (go_at_call 48; (with_reducible refine (hB hown6 hb6).mono ?_); rintro en w8 ⟨⟨A8, c8, rfl, hr8⟩, hb8⟩; have hS8 := SA.keep hS6 (hb8.mono (by simp)))
            | (go_at_call 48; (with_reducible refine (hB2 hown6 hb6).mono ?_); rintro en w8 ⟨⟨A8, c8, rfl, hr8⟩, hb8⟩; have hS8 := SA.keep hS6 (hb8.mono (by simp))))
        all_goals gi_wp2
        all_goals go_ret2
        all_goals exact ⟨.inr (.inr (.inr ⟨hq.out, hth.out, by omega, k, hpl.out, A8, c8, rfl, hr8⟩)), hbw5.trans (hS8.below.mono hbw5.size)⟩
end Go.Proofs.Ytpbpbijjkmjjjaa
