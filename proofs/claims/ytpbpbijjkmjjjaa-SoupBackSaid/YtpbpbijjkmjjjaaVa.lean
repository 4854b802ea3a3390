/- footpathlaw05.wakes by a walk: it is true. No conditions. -/
import Derived.Test.YtpbpbijjkmjjjaaUz
import Derived.Deep.RegionHeld3
set_option linter.unusedSimpArgs false
set_option linter.unusedVariables false
namespace Go.Proofs.Ytpbpbijjkmjjjaa
open Go Go.RowKit Go.Sx
attribute [local go_sem] Oper.semAt_some
def w1 (i : Int) : T10 := ⟨i, 0, 0, 0, 2, 0, 0, 0, 0, 2⟩
def wk0 : Soup := ⟨[w1 1, w1 5], [], []⟩
def wk1 : Soup := ⟨[w1 1, w1 3, w1 5], [], []⟩
theorem wk0_ok : soupC 0 1 3 1 1 8 8 wk0 = 0 := by kernel_rfl
theorem wk1_ok : soupC 0 1 3 1 1 8 8 wk1 = 0 := by kernel_rfl
theorem wk_one : oneF T10.id (triMay 8 8) (w1 3) = true := by kernel_rfl
theorem wk0_add {er : Int} (h : addR0 8 8 wk0.ts (w1 3) er) : False := by
  rcases h with ⟨_, h⟩ | ⟨_, _, x, hx, h⟩ | ⟨_, _, _, h⟩
  · rw [wk_one] at h; cases h
  · simp only [wk0, List.mem_cons, List.not_mem_nil, or_false] at hx
    rcases hx with rfl | rfl <;> simp [w1] at h
  · simp [wk0] at h
theorem wk0_place {k : Nat} (h : PlaceAt wk0.ts 3 k) : insAt wk0.ts k (w1 3) = wk1.ts := by
  obtain ⟨h1, h2, h3⟩ := h
  have e : k = 1 := by
    have a := h2 1 (by decide)
    have b := h3 0 (by decide)
    simp [wk0, w1] at a b h1
    omega
  subst e
  rfl
theorem wk1_add {er : Int} (h : addR0 8 8 wk1.ts (w1 3) er) : er = 50 := by
  rcases h with ⟨_, h⟩ | ⟨h, _⟩ | ⟨_, _, h, _⟩
  · rw [wk_one] at h; cases h
  · exact h
  · exact absurd ⟨w1 3, by simp [wk1], rfl⟩ h
theorem wk1_no {l' : List T10} (h : addR1 8 8 wk1.ts (w1 3) l') : False := h.2.1 ⟨w1 3, by simp [wk1], rfl⟩
theorem cfg5_any (w : World) : Calls Try.prog 13 #[] w fun en w' => en = .returned (.agg #[.int .i64 0, .int .i64 1, .int .i64 3, .int .i64 1, .int .i64 1, .int .i64 8, .int .i64 8]) ∧ Below w.heap.size w w' :=
  Con.calls cfg5C_holds [] rfl (by kernel_rfl) (by kernel_rfl) w
theorem one5_any (i : Int) (w : World) : Calls Try.prog 14 #[.int .i64 i] w fun en w' => en = .returned (.agg #[.int .i64 i, .int .i64 0, .int .i64 0, .int .i64 0, .int .i64 2, .int .i64 0, .int .i64 0, .int .i64 0, .int .i64 0, .int .i64 2]) ∧ Below w.heap.size w w' :=
  Con.calls one5C_holds [.int .i64 i] ⟨i, _, rfl, rfl⟩ (by kernel_rfl) (by kernel_rfl) w
/-- One more triangle in the row of two. -/
theorem wkadd1 (W : World) (A1 : Option Addr) (c1 : Nat) (hs : SoupAt W W.heap.size A1 none none wk0) :
    Calls Try.prog 7 #[.agg #[.int .i64 0, .int .i64 1, .int .i64 3, .int .i64 1, .int .i64 1, .int .i64 8, .int .i64 8], .agg #[.slice A1 2 c1, .slice none 0 0, .slice none 0 0], .agg #[.int .i64 3, .int .i64 0, .int .i64 0, .int .i64 0, .int .i64 2, .int .i64 0, .int .i64 0, .int .i64 0, .int .i64 0, .int .i64 2]] W fun en w' =>
      (∃ B1 B2 B3 d1 d2 d3, en = .returned (.tuple #[.agg #[.slice B1 3 d1, .slice B2 0 d2, .slice B3 0 d3], .int .i64 0]) ∧ SoupAt w' w'.heap.size B1 B2 B3 wk1) ∧ Below W.heap.size W w' := by
  refine (addS_any 0 1 3 1 1 8 8 wk0 (w1 3) A1 none none c1 0 0 W hs ⟨by decide, by decide, by decide⟩).mono ?_
  rintro en w' ⟨h, hb⟩
  refine ⟨?_, hb⟩
  rcases h with ⟨h, _⟩ | ⟨_, ⟨er, _, h, _⟩ | ⟨l', B1, B2, B3, d1, d2, d3, ⟨_, _, _, k, hk, rfl⟩, rfl, hs'⟩⟩
  · exact absurd wk0_ok h
  · exact (wk0_add h).elim
  · have hk' : insAt wk0.ts k (w1 3) = wk1.ts := wk0_place hk
    have e : ({ wk0 with ts := insAt wk0.ts k (w1 3) } : Soup) = wk1 := by
      show (⟨insAt wk0.ts k (w1 3), wk0.bs, wk0.hs⟩ : Soup) = wk1
      rw [hk']; rfl
    rw [e] at hs' ⊢
    exact ⟨B1, B2, B3, d1, d2, d3, rfl, hs'⟩
/-- The same once more: there is one. -/
theorem wkadd2 (W : World) (A1 A2 A3 : Option Addr) (c1 c2 c3 : Nat) (hs : SoupAt W W.heap.size A1 A2 A3 wk1) :
    Calls Try.prog 7 #[.agg #[.int .i64 0, .int .i64 1, .int .i64 3, .int .i64 1, .int .i64 1, .int .i64 8, .int .i64 8], .agg #[.slice A1 3 c1, .slice A2 0 c2, .slice A3 0 c3], .agg #[.int .i64 3, .int .i64 0, .int .i64 0, .int .i64 0, .int .i64 2, .int .i64 0, .int .i64 0, .int .i64 0, .int .i64 0, .int .i64 2]] W fun en w' =>
      en = .returned (.tuple #[.agg #[.slice none 0 0, .slice none 0 0, .slice none 0 0], .int .i64 50]) ∧ Below W.heap.size W w' := by
  refine (addS_any 0 1 3 1 1 8 8 wk1 (w1 3) A1 A2 A3 c1 c2 c3 W hs ⟨by decide, by decide, by decide⟩).mono ?_
  rintro en w' ⟨h, hb⟩
  refine ⟨?_, hb⟩
  rcases h with ⟨h, _⟩ | ⟨_, ⟨er, _, h, rfl⟩ | ⟨l', B1, B2, B3, d1, d2, d3, hn, _⟩⟩
  · exact absurd wk1_ok h
  · rw [wk1_add h]; rfl
  · exact (wk1_no hn).elim
abbrev SB (V : World) (g : Nat) (v0 v1 v2 : Value) (w : World) : Prop := w.cell? ⟨g, 0, none⟩ = some v0 ∧ w.cell? ⟨g, 1, none⟩ = some v1 ∧ w.cell? ⟨g, 2, none⟩ = some v2 ∧ g < V.heap.size ∧ Below V.heap.size V w
section
variable {V : World} {g : Nat} {v0 v1 v2 : Value} {w w' : World}
theorem SB.keep (h : SB V g v0 v1 v2 w) (hb : Below V.heap.size w w') : SB V g v0 v1 v2 w' := by
  obtain ⟨h0, h1, h2, hl, hw⟩ := h
  have e : ∀ q, w'.cell? ⟨g, q, none⟩ = w.cell? ⟨g, q, none⟩ := fun q => hb.cell hl
  exact ⟨(e _).trans h0, (e _).trans h1, (e _).trans h2, hl, hw.trans hb⟩
theorem SB.below (h : SB V g v0 v1 v2 w) : Below V.heap.size V w := h.2.2.2.2
theorem SB.drew (h : SB V g v0 v1 v2 w) : SB V g v0 v1 v2 w.drew := h.keep ((Below.refl V.heap.size w).drew)
theorem SB.alloc (h : SB V g v0 v1 v2 w) (o : Obj) : SB V g v0 v1 v2 (w.alloc o) := h.keep ((Below.refl _ _).alloc h.below.size o)
theorem SB.call (h : SB V g v0 v1 v2 w) (hb : Below w.heap.size w w') : SB V g v0 v1 v2 w' := h.keep (hb.mono h.below.size)
theorem SB.set3 (h : SB V g v0 v1 v2 w) {b : Nat} (hb : V.heap.size ≤ b) (u0 u1 u2 : Value) : SB V g v0 v1 v2 (((w.setCell ⟨b, 0, none⟩ u0).setCell ⟨b, 1, none⟩ u1).setCell ⟨b, 2, none⟩ u2) := by
  have k : ∀ {x : World} (j : Nat) (u : Value), SB V g v0 v1 v2 x → SB V g v0 v1 v2 (x.setCell ⟨b, j, none⟩ u) := fun j u hx => hx.keep ((Below.refl _ _).setCell (p := ⟨b, j, none⟩) hb u)
  exact k 2 u2 (k 1 u1 (k 0 u0 h))
end
theorem fin_world {G : World → Prop} (S : World → Prop) {W0 : World} (h1 : S W0) (h2 : ∀ W, S W → G W) : G W0 := h2 _ h1
/-- A block that holds no soup yet. -/
def PZ (P : Nat) (w : World) : Prop := w.heap[P]? = some (.cells #[.slice none 0 0, .slice none 0 0, .slice none 0 0] 28 (0, 0))
theorem PZ.keep {P : Nat} {V w' : World} (h : PZ P V) (hb : Below V.heap.size V w') : PZ P w' := (hb.block P (lt_of_block h)).trans h
theorem PZ.keepd {P : Nat} {V w' : World} (h : PZ P V) (hb : Below V.drew.heap.size V.drew w') : PZ P w' := PZ.keep (V := V.drew) h hb
theorem PZ.new {X w' : World} (hb : Below (X.alloc (.cells #[.slice none 0 0, .slice none 0 0, .slice none 0 0] 28)).heap.size (X.alloc (.cells #[.slice none 0 0, .slice none 0 0, .slice none 0 0] 28)) w') : PZ X.heap.size w' := PZ.keep (V := X.alloc (.cells #[.slice none 0 0, .slice none 0 0, .slice none 0 0] 28)) (World.alloc_heap_new _ _) hb
theorem PZ.newd {X w' : World} (hb : Below (X.drew.alloc (.cells #[.slice none 0 0, .slice none 0 0, .slice none 0 0] 28)).heap.size (X.drew.alloc (.cells #[.slice none 0 0, .slice none 0 0, .slice none 0 0] 28)) w') : PZ X.heap.size w' := PZ.keep (V := X.drew.alloc (.cells #[.slice none 0 0, .slice none 0 0, .slice none 0 0] 28)) (World.alloc_heap_new X.drew _) hb
theorem PZ.newe {X w' : World} (hb : Below (X.alloc (.cells #[.slice none 0 0, .slice none 0 0, .slice none 0 0] 28)).drew.heap.size (X.alloc (.cells #[.slice none 0 0, .slice none 0 0, .slice none 0 0] 28)).drew w') : PZ X.heap.size w' := PZ.keep (V := (X.alloc (.cells #[.slice none 0 0, .slice none 0 0, .slice none 0 0] 28)).drew) (World.alloc_heap_new X _) hb
theorem PZ.cells {P : Nat} {w : World} (h : PZ P w) : w.cell? ⟨P, 0, none⟩ = some (.slice none 0 0) ∧ w.cell? ⟨P, 1, none⟩ = some (.slice none 0 0) ∧ w.cell? ⟨P, 2, none⟩ = some (.slice none 0 0) ∧ w.frozen? ⟨P, 0, none⟩ = false ∧ w.frozen? ⟨P, 1, none⟩ = false ∧ w.frozen? ⟨P, 2, none⟩ = false :=
  ⟨cell_of h rfl, cell_of h rfl, cell_of h rfl, not_frozen h, not_frozen h, not_frozen h⟩
theorem PZ.ge {V X : World} (h : Below V.heap.size V X) : V.heap.size ≤ X.heap.size := h.size
set_option maxHeartbeats 4000000 in
set_option maxRecDepth 100000 in
theorem wakes_any (w : World) : Calls Try.prog 6 #[] w fun en w' => en = .returned (.bool true) ∧ Below w.heap.size w w' := by
  have hc := fun w => cfg5_any w
  have h1 := fun w => one5_any 1 w
  have h5 := fun w => one5_any 5 w
  have h3 := fun w => one5_any 3 w
  refine (callsIn_wide (n := 6)).1 ?_
  refine callsIn_of_wp Try.func6 rfl trivial ?_
  simp only [Try.ntmps6, List.size_toArray, List.length_cons, List.length_nil, Nat.reduceAdd, Nat.reduceSub, Array.replicate_succ, Array.replicate_zero, List.push_toArray, List.append_toArray, List.nil_append, List.cons_append]
  gi_wp2
  refine ⟨trivial, (callsIn_wide.2 (hc _)).mono ?_⟩
  rintro en w2 ⟨rfl, hb2⟩
  gi_wp2
  refine ⟨trivial, (callsIn_wide.2 (h1 _)).mono ?_⟩
  rintro en w3 ⟨rfl, hb3⟩
  gi_wp2
  refine ⟨trivial, (callsIn_wide.2 (h5 _)).mono ?_⟩
  rintro en w4 ⟨rfl, hb4⟩
  have hbw4 := hb2.trans ((hb3.trans (hb4.mono hb3.size)).mono hb2.size)
  obtain ⟨u5, eu5, bu5, ku5⟩ := alloc_step w4 (.cells #[.int .i64 1, .int .i64 0, .int .i64 0, .int .i64 0, .int .i64 2, .int .i64 0, .int .i64 0, .int .i64 0, .int .i64 0, .int .i64 2, .int .i64 5, .int .i64 0, .int .i64 0, .int .i64 0, .int .i64 2, .int .i64 0, .int .i64 0, .int .i64 0, .int .i64 0, .int .i64 2] 33)
  have hbw5 := hbw4.trans (bu5.mono hbw4.size)
  have hs5 : SoupAt u5 u5.heap.size (some ⟨w4.heap.size, 0, none⟩) none none wk0 := ⟨⟨rfl, fun _ => ⟨_, rfl, lt_of_block ku5, fun j u hj => by rw [Addr.add_lit, Nat.zero_add]; exact cell_of ku5 (by rw [← List.getElem?_toArray] at hj; exact hj)⟩⟩, Reads.none_, Reads.none_⟩
  obtain ⟨iT, hiT, hzT0, hzT1, hzT2⟩ := info_parts infoSoup
  gi_wp2
  refine ⟨trivial, (callsIn_wide.2 (h3 _)).mono ?_⟩
  rintro en w6 ⟨rfl, hb6⟩
  have hbw6 := hbw5.trans (hb6.mono hbw5.size)
  have hadd := wkadd1 w6 (some ⟨w4.heap.size, 0, none⟩) 2 ((hs5.below hb6).more hb6.size)
  gi_wp2
  refine ⟨trivial, (callsIn_wide.2 hadd).mono ?_⟩
  rintro en w7 ⟨⟨B1, B2, B3, d1, d2, d3, rfl, hs7⟩, hb7⟩
  have hbw7 := hbw6.trans (hb7.mono hbw6.size)
  obtain ⟨u8, eu8, bu8, ku8⟩ := alloc_step w7 (.cells #[.slice none 0 0, .slice none 0 0, .slice none 0 0] 28)
  have hs8 := (hs7.below bu8).more bu8.size
  have hbw8 := hbw7.trans (bu8.mono hbw7.size)
  clear hadd hs5 hs7
  gi_wp2_with (refine wpListIn_plain rfl fun K' hK' => ?_; refine wpIn_store_boxg (.tmp 1) (.tmp 13) rfl hiT rfl rfl [.slice B1 3 d1, .slice B2 0 d2, .slice B3 0 d3] rfl hzT1.symm (by simp [Value.oneCell']) ku8 rfl ?_; intro w9 hk9 hg9; refine hK' _ _ ?_)
  have hbw9 := below_own hbw8 hbw8.size hg9 hbw7.size
  have hs9 := (hs8.apart ku8 hg9).more hg9.size
  refine wpIn_wide.2 ?_
  obtain ⟨s0, s1, s2⟩ := box3 hk9
  have hS9 : SB w9 w7.heap.size (.slice B1 3 d1) (.slice B2 0 d2) (.slice B3 0 d3) w9 := ⟨s0, s1, s2, lt_of_block hk9, Below.refl _ _⟩
  have hadd : ∀ {V' : World}, Below w9.heap.size w9 V' → Calls Try.prog 7 #[.agg #[.int .i64 0, .int .i64 1, .int .i64 3, .int .i64 1, .int .i64 1, .int .i64 8, .int .i64 8], .agg #[.slice B1 3 d1, .slice B2 0 d2, .slice B3 0 d3], .agg #[.int .i64 3, .int .i64 0, .int .i64 0, .int .i64 0, .int .i64 2, .int .i64 0, .int .i64 0, .int .i64 0, .int .i64 0, .int .i64 2]] V' fun en w' =>
      en = .returned (.tuple #[.agg #[.slice none 0 0, .slice none 0 0, .slice none 0 0], .int .i64 50]) ∧ Below V'.heap.size V' w' := fun {V'} h => wkadd2 V' B1 B2 B3 d1 d2 d3 ((hs9.below h).more h.size)
  go_region_held3 (fun w' => w'.cell? ⟨w7.heap.size, 0, none⟩ = some (.slice B1 3 d1) ∧ w'.cell? ⟨w7.heap.size, 1, none⟩ = some (.slice B2 0 d2) ∧ w'.cell? ⟨w7.heap.size, 2, none⟩ = some (.slice B3 0 d3) ∧ w7.heap.size < w9.heap.size ∧ Below w9.heap.size w9 w')
    (first | (with_reducible exact hS9) | (with_reducible exact SB.drew hS9) | (with_reducible exact SB.alloc hS9 _) | (with_reducible exact SB.drew (SB.alloc hS9 _)) | (with_reducible exact SB.alloc (SB.drew hS9) _) | (with_reducible exact hS12) | (with_reducible exact hS11) | (with_reducible exact hS10) | (with_reducible exact SB.alloc hS12 _) | (with_reducible exact SB.alloc hS11 _) | (with_reducible exact SB.alloc hS10 _) | (with_reducible exact SB.drew hS12) | (with_reducible exact SB.drew hS11) | (with_reducible exact SB.drew hS10) | (with_reducible exact SB.drew (SB.alloc hS10 _)) | (with_reducible exact SB.drew (SB.alloc hS11 _)) | ((with_reducible refine SB.set3 hS12 ?_ _ _ _); omega) | (with_reducible exact SB.alloc (V := w9) (g := w7.heap.size) (v0 := .slice B1 3 d1) (v1 := .slice B2 0 d2) (v2 := .slice B3 0 d3) (by assumption) _) | (with_reducible exact SB.drew (V := w9) (g := w7.heap.size) (v0 := .slice B1 3 d1) (v1 := .slice B2 0 d2) (v2 := .slice B3 0 d3) (by assumption)))
    (first
      | (go_at_call 13; refine (hc _).mono ?_; rintro en w10 ⟨rfl, hb10⟩; have hS10 := SB.call (V := w9) (g := w7.heap.size) (v0 := .slice B1 3 d1) (v1 := .slice B2 0 d2) (v2 := .slice B3 0 d3) (by assumption) hb10; have z10 := (SB.below hS10).size; (with_reducible first | (have hP := PZ.keep hP hb10) | (have hP := PZ.keepd hP hb10) | (have hP := PZ.newd hb10) | (have hP := PZ.newe hb10) | (have hP := PZ.new hb10) | skip))
      | (go_at_call 14; refine (h3 _).mono ?_; rintro en w11 ⟨rfl, hb11⟩; have hS11 := SB.call (V := w9) (g := w7.heap.size) (v0 := .slice B1 3 d1) (v1 := .slice B2 0 d2) (v2 := .slice B3 0 d3) (by assumption) hb11; have z11 := (SB.below hS11).size; (with_reducible first | (have hP := PZ.keep hP hb11) | (have hP := PZ.keepd hP hb11) | (have hP := PZ.newd hb11) | (have hP := PZ.newe hb11) | (have hP := PZ.new hb11) | skip))
      | (go_at_call 7; refine (hadd (SB.below (V := w9) (g := w7.heap.size) (v0 := .slice B1 3 d1) (v1 := .slice B2 0 d2) (v2 := .slice B3 0 d3) (by assumption))).mono ?_; rintro en w12 ⟨rfl, hb12⟩; have hS12 := SB.call (V := w9) (g := w7.heap.size) (v0 := .slice B1 3 d1) (v1 := .slice B2 0 d2) (v2 := .slice B3 0 d3) (by assumption) hb12; have z12 := (SB.below hS12).size; (with_reducible first | (have hP := PZ.keep hP hb12) | (have hP := PZ.keepd hP hb12) | (have hP := PZ.newd hb12) | (have hP := PZ.newe hb12) | (have hP := PZ.new hb12) | skip); (with_reducible first | (have hPc := PZ.cells hP) | skip)))
  all_goals refine fin_world (G := fun W => Exit.then _ _ Exit.normal _ W) (SB w9 w7.heap.size (.slice B1 3 d1) (.slice B2 0 d2) (.slice B3 0 d3)) ?_ ?_
  all_goals first
    | (with_reducible exact hS12)
    | (with_reducible exact SB.alloc hS12 _)
    | ((with_reducible refine SB.set3 hS12 ?_ _ _ _); omega)
    | skip
  all_goals intro W hW
  all_goals obtain ⟨t0, t1, t2, _, hlo⟩ := hW
  all_goals clear s0 s1 s2
  all_goals obtain ⟨ad, rfl, hba, c0, -⟩ := T10.at_ (hs9.below hlo).t rfl (j := 1) (by decide)
  all_goals replace c0 : W.cell? ⟨ad.block, ad.off + 10, none⟩ = some (.int .i64 3) := c0
  all_goals gi_wp2
  all_goals go_ret
  all_goals exact ⟨rfl, hbw9.trans (hlo.mono hbw9.size)⟩
end Go.Proofs.Ytpbpbijjkmjjjaa
