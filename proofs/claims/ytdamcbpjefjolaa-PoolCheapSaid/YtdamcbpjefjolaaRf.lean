/- What a pool keeps, that only is put into, and then only is taken from. No conditions but that the pool lies where it is said to lie. -/
import Derived.Test.YtdamcbpjefjolaaPx
namespace Go.Proofs.Ytdamcbpjefjolaa
open Go Go.RowKit Go.Sx Go.Mp
/-- A list of items, each number once, with its least cost. -/
def upL (x : V3) (e : V3) : V3 := if e.x = x.x ∧ x.y < e.y then x else e
def leastU (L : List V3) (x : V3) : List V3 := if ∃ e ∈ L, e.x = x.x then L.map (upL x) else L ++ [x]
theorem leastU_length (L : List V3) (x : V3) : (leastU L x).length ≤ L.length + 1 := by
  unfold leastU
  split <;> simp
theorem upL_self {x e : V3} (h : e.x ≠ x.x) : upL x e = e := by simp [upL, h]
structure InvC (E : List En) (h : List V3) : Prop where
  heap : Heap h
  hall : ∀ y ∈ h, ∃ e ∈ E, e.k = y.x
  kx : ∀ e ∈ E, e.k = e.x.x
  op : ∀ e ∈ E, e.t = false → e.x ∈ h
  kb : ∀ e ∈ E, 0 ≤ e.k ∧ e.k ≤ 1125899906842624
theorem InvC.start : InvC [] [] := ⟨fun k x y _ hx _ => by simp at hx, by simp, by simp, by simp, by simp⟩
theorem InvC.new {E : List En} {h h' : List V3} (I : InvC E h) {x : V3} {p : Nat} (hx : badX x = false) (hh : Heap h → Heap h') (hp : h'.Perm (h ++ [x])) : InvC (E ++ [⟨x.x, p, x, false⟩]) h' := by
  have hb := ok_parts hx
  have mem : ∀ e ∈ E ++ [(⟨x.x, p, x, false⟩ : En)], e ∈ E ∨ e = ⟨x.x, p, x, false⟩ := fun e he => by simpa using he
  refine ⟨hh I.heap, fun y hy => ?_, fun e he => ?_, fun e he ht => ?_, fun e he => ?_⟩
  · have := hp.mem_iff.1 hy
    rcases List.mem_append.1 this with h1 | h1
    · obtain ⟨e, he, hk⟩ := I.hall y h1
      exact ⟨e, by simp [he], hk⟩
    · simp only [List.mem_singleton] at h1
      exact ⟨⟨x.x, p, x, false⟩, by simp, by rw [h1]⟩
  · rcases mem e he with he | rfl
    · exact I.kx e he
    · rfl
  · rcases mem e he with he | rfl
    · exact hp.mem_iff.2 (by simp [I.op e he ht])
    · exact hp.mem_iff.2 (by simp)
  · rcases mem e he with he | rfl
    · exact I.kb e he
    · exact ⟨hb.1, hb.2.1⟩
theorem InvC.cheaper {E1 E2 : List En} {e : En} {h h' : List V3} (I : InvC (E1 ++ e :: E2) h) {x : V3} (hx : badX x = false) (hk : e.k = x.x) (hh : Heap h → Heap h') (hp : h'.Perm (h ++ [x])) : InvC (E1 ++ { e with x := x } :: E2) h' := by
  have hb := ok_parts hx
  have mem : ∀ e' ∈ E1 ++ { e with x := x } :: E2, (e' ∈ E1 ++ e :: E2) ∨ e' = { e with x := x } := fun e' he => by
    simp only [List.mem_append, List.mem_cons] at he ⊢
    rcases he with he | he | he
    · exact .inl (.inl he)
    · exact .inr he
    · exact .inl (.inr (.inr he))
  refine ⟨hh I.heap, fun y hy => ?_, fun e' he => ?_, fun e' he ht' => ?_, fun e' he => ?_⟩
  · have := hp.mem_iff.1 hy
    rcases List.mem_append.1 this with h1 | h1
    · obtain ⟨e0, he, hk0⟩ := I.hall y h1
      simp only [List.mem_append, List.mem_cons] at he
      rcases he with he | rfl | he
      · exact ⟨e0, by simp [he], hk0⟩
      · exact ⟨{ e0 with x := x }, by simp, hk0⟩
      · exact ⟨e0, by simp [he], hk0⟩
    · simp only [List.mem_singleton] at h1
      exact ⟨{ e with x := x }, by simp, by rw [h1]; exact hk⟩
  · rcases mem e' he with he | rfl
    · exact I.kx e' he
    · exact hk
  · rcases mem e' he with he | rfl
    · exact hp.mem_iff.2 (by simp [I.op e' he ht'])
    · exact hp.mem_iff.2 (by simp)
  · rcases mem e' he with he | rfl
    · exact I.kb e' he
    · exact I.kb e (by simp)
theorem map_upL_other {x : V3} : ∀ {E : List En}, (∀ e ∈ E, e.k = e.x.x) → (∀ e ∈ E, e.k ≠ x.x) → (E.map (·.x)).map (upL x) = E.map (·.x)
  | [], _, _ => rfl
  | e :: E, h1, h2 => by
    simp only [List.map_cons]
    rw [map_upL_other (fun e he => h1 e (by simp [he])) (fun e he => h2 e (by simp [he])), upL_self (by rw [← h1 e (by simp)]; exact h2 e (by simp))]
theorem others_ne {E1 E2 : List En} {e : En} (hks : ((E1 ++ e :: E2).map (·.k)).Nodup) : (∀ e' ∈ E1, e'.k ≠ e.k) ∧ ∀ e' ∈ E2, e'.k ≠ e.k := by
  rw [List.map_append, List.map_cons, List.nodup_append, List.nodup_cons] at hks
  exact ⟨fun e' he e0 => hks.2.2 e'.k (List.mem_map.2 ⟨e', he, rfl⟩) e.k (by simp) e0, fun e' he e0 => hks.2.1.1 (List.mem_map.2 ⟨e', he, e0⟩)⟩
set_option maxRecDepth 100000 in
/-- Put. -/
theorem put_c {base b bm : Nat} {v : Value} {E : List En} {h : List V3} {w : World} (x : V3) (H : PoolIn w base b bm v 16384 E h) (I : InvC E h) (ht : ∀ e ∈ E, e.t = false) (hh : h.length < 1000) (hE : E.length < 1000) (hbs : base ≤ w.heap.size) :
    Calls Try.prog 9 #[.pointer (some ⟨b, 0, none⟩), .agg #[.int .i64 x.x, .int .i64 x.y, .int .i64 x.z]] w fun en w' =>
      ∃ ok er v' E' h', en = .returned (.tuple #[.bool ok, .int .i64 er]) ∧ (er = 0 ∧ E'.map (·.x) = leastU (E.map (·.x)) x ∨ er ≠ 0 ∧ E' = E) ∧ PoolIn w' base b bm v' 16384 E' h' ∧ InvC E' h' ∧ (∀ e ∈ E', e.t = false) ∧ h'.length ≤ h.length + 1 ∧ E'.length ≤ E.length + 1 ∧ PFr base v w w' ∧ VL v v' w := by
  cases hx : badX x with
  | true =>
    exact (put_bad x b w hx).mono fun en w' ⟨he, hb⟩ => ⟨false, 2, v, E, h, he, .inr ⟨by decide, rfl⟩, H.below hb, I, ht, by omega, by omega, (PFr.refl _ _ _).below hb, .inl rfl⟩
  | false =>
    by_cases hk : ∃ e ∈ E, e.k = x.x
    · obtain ⟨e, he, hk⟩ := hk
      obtain ⟨E1, E2, rfl⟩ := List.append_of_mem he
      have hon := others_ne H.ks
      have kx := I.kx
      have hex : ∃ e' ∈ (E1 ++ e :: E2).map (·.x), e'.x = x.x := ⟨e.x, List.mem_map.2 ⟨e, he, rfl⟩, by rw [← hk]; exact (kx e he).symm⟩
      have m1 : (E1.map (·.x)).map (upL x) = E1.map (·.x) := map_upL_other (fun e' he => kx e' (by simp [he])) (fun e' he => by rw [← hk]; exact hon.1 e' he)
      have m2 : (E2.map (·.x)).map (upL x) = E2.map (·.x) := map_upL_other (fun e' he => kx e' (by simp [he])) (fun e' he => by rw [← hk]; exact hon.2 e' he)
      refine (put_yes x base b bm v 16384 E1 E2 e h w hx H (by omega) hbs hk).mono fun en w' hp => ?_
      split at hp
      · rename_i hc
        obtain ⟨he', hP, hF⟩ := hp
        refine ⟨false, 0, v, _, h, he', .inl ⟨rfl, ?_⟩, hP, I, ht, by omega, by omega, hF, .inl rfl⟩
        rcases hc with hc | hc
        · rw [ht e he] at hc; cases hc
        · rw [leastU, if_pos hex, List.map_append, List.map_cons, List.map_append, List.map_cons, m1, m2, upL, if_neg (by omega)]
      · rename_i hc
        obtain ⟨he', v', h', hP, hh1, hh2, hF, hV⟩ := hp
        have hl := hh2.length_eq
        simp at hl
        refine ⟨true, 0, v', _, h', he', .inl ⟨rfl, ?_⟩, hP, I.cheaper hx hk hh1 hh2, fun e0 he0 => ?_, by omega, by simp, hF, hV⟩
        · have hkx := kx e he
          have hlt : x.y < e.x.y := by
            rcases Int.lt_or_le x.y e.x.y with h1 | h1
            · exact h1
            · exact absurd (.inr h1) hc
          rw [leastU, if_pos hex, List.map_append, List.map_cons, List.map_append, List.map_cons, List.map_append, List.map_cons, m1, m2, upL, if_pos ⟨by omega, hlt⟩]
        · simp only [List.mem_append, List.mem_cons] at he0
          rcases he0 with he0 | rfl | he0
          · exact ht e0 (by simp [he0])
          · exact ht e he
          · exact ht e0 (by simp [he0])
    · have hk' : ∀ e ∈ E, e.k ≠ x.x := fun e he e0 => hk ⟨e, he, e0⟩
      refine (put_no x base b bm v 16384 E h w hx H (by omega) hbs hk').mono fun en w' hp => ?_
      rw [if_pos (by omega)] at hp
      obtain ⟨he, p, v', h', hP, hh1, hh2, hF, hV⟩ := hp
      have hl := hh2.length_eq
      simp at hl
      refine ⟨true, 0, v', _, h', he, .inl ⟨rfl, ?_⟩, hP, I.new hx hh1 hh2, fun e0 he0 => ?_, by omega, by simp, hF, hV⟩
      · rw [leastU, if_neg ?_]
        · simp
        · rintro ⟨y, hy, hyx⟩
          obtain ⟨e, he, rfl⟩ := List.mem_map.1 hy
          exact hk' e he (by rw [I.kx e he]; exact hyx)
      · rcases List.mem_append.1 he0 with he0 | he0
        · exact ht e0 he0
        · simp only [List.mem_singleton] at he0
          rw [he0]
/-- How many are taken. -/
def tkN (E : List En) : Nat := (E.filter (·.t)).length
def opN (E : List En) : Nat := (E.filter fun e => !e.t).length
theorem tk_op (E : List En) : tkN E + opN E = E.length := by
  unfold tkN opN
  induction E with
  | nil => rfl
  | cons e E ih => cases h : e.t <;> simp [h] <;> omega
/-- Take. -/
theorem take_c {base b bm : Nat} {v : Value} {E : List En} {h : List V3} {w : World} (H : PoolIn w base b bm v 16384 E h) (I : InvC E h) (hh : h.length < 1000) :
    Calls Try.prog 10 #[.pointer (some ⟨b, 0, none⟩)] w fun en w' =>
      ∃ (y : V3) (er : Int) (v' : Value) (E' : List En) (h' : List V3), en = .returned (.tuple #[.agg #[.int .i64 y.x, .int .i64 y.y, .int .i64 y.z], .int .i64 er]) ∧ PoolIn w' base b bm v' 16384 E' h' ∧ PFr base v w w' ∧ VL v v' w ∧ h'.length ≤ h.length ∧ InvC E' h' ∧ E'.map (·.x) = E.map (·.x) ∧
        (er = 4 ∧ opN E = 0 ∧ E' = E ∨ er = 0 ∧ y ∈ E.map (·.x) ∧ opN E' + 1 = opN E) := by
  refine (take_any base b bm v 16384 E h w H (by omega) I.heap I.hall).mono fun en w' ⟨E', h', v', hT, hP, hF, hv⟩ => ?_
  rcases hT with ⟨he, rfl, rfl, hn⟩ | ⟨y, D, E1, e, E2, he, rfl, hk, ht, hx, rfl, hp, hD, hmin, hh'⟩
  · have hno : ∀ e ∈ E', e.t = true := fun e he => by
      cases ht : e.t with
      | true => rfl
      | false => exact absurd ⟨e, he, I.kx e he, ht, rfl⟩ (hn e.x (I.op e he ht))
    refine ⟨⟨0, 0, 0⟩, 4, v', _, _, he, hP, hF, .inl hv, by simp, ⟨fun k x y _ hx _ => by simp at hx, by simp, I.kx, fun e he ht => ?_, I.kb⟩, rfl, .inl ⟨rfl, ?_, rfl⟩⟩
    · rw [hno e he] at ht; cases ht
    · unfold opN
      rw [List.length_eq_zero_iff, List.filter_eq_nil_iff]
      intro e he
      simp [hno e he]
  · have hl := hp.length_eq
    simp at hl
    have hon := others_ne H.ks
    have mem2 : ∀ e' ∈ E1 ++ e :: E2, e' = e ∨ e' ∈ E1 ++ { e with t := true } :: E2 := fun e' he => by
      simp only [List.mem_append, List.mem_cons] at he ⊢
      rcases he with he | he | he
      · exact .inr (.inl he)
      · exact .inl he
      · exact .inr (.inr (.inr he))
    have mem : ∀ e' ∈ E1 ++ { e with t := true } :: E2, (e' ∈ E1 ++ e :: E2 ∧ e'.k ≠ e.k) ∨ e' = { e with t := true } := fun e' he => by
      simp only [List.mem_append, List.mem_cons] at he ⊢
      rcases he with he | he | he
      · exact .inl ⟨.inl he, hon.1 e' he⟩
      · exact .inr he
      · exact .inl ⟨.inr (.inr he), hon.2 e' he⟩
    refine ⟨y, 0, v', _, _, he, hP, hF, .inl hv, by omega, ⟨hh', fun z hz => ?_, fun e' he => ?_, fun e' he ht' => ?_, fun e' he => ?_⟩, by simp, .inr ⟨rfl, ?_, ?_⟩⟩
    · obtain ⟨e0, he, hk0⟩ := I.hall z (hp.mem_iff.1 (by simp [hz]))
      rcases mem2 e0 he with rfl | he
      · exact ⟨{ e0 with t := true }, by simp, hk0⟩
      · exact ⟨e0, he, hk0⟩
    · rcases mem e' he with ⟨he, _⟩ | rfl
      · exact I.kx e' he
      · exact I.kx e (by simp)
    · rcases mem e' he with ⟨he, hne⟩ | rfl
      · have hkx := I.kx e' he
        have := hp.mem_iff.2 (I.op e' he ht')
        rcases List.mem_append.1 this with h1 | h1
        · exact absurd ⟨e', he, hkx, ht', rfl⟩ (hD _ h1)
        · rcases List.mem_cons.1 h1 with h1 | h1
          · exact absurd (by rw [hkx, h1, ← hk]) hne
          · exact h1
      · cases ht'
    · rcases mem e' he with ⟨he, _⟩ | rfl
      · exact I.kb e' he
      · exact I.kb e (by simp)
    · exact List.mem_map.2 ⟨e, by simp, hx⟩
    · unfold opN
      simp [ht]
      omega
end Go.Proofs.Ytdamcbpjefjolaa
