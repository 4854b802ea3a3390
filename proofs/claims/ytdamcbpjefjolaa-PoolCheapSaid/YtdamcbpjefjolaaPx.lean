/- What a pool keeps, that is taken from while dearer and dearer things are put in. No conditions but that the pool lies where it is said to lie. -/
import Derived.Test.YtdamcbpjefjolaaPv
namespace Go.Proofs.Ytdamcbpjefjolaa
open Go Go.RowKit Go.Sx Go.Mp
/-- What holds between the rounds: L was taken last, TL are those taken. -/
structure Inv26 (L : V3) (TL : List Int) (E : List En) (h : List V3) : Prop where
  heap : Heap h
  hall : ∀ y ∈ h, ∃ e ∈ E, e.k = y.x
  kx : ∀ e ∈ E, e.k = e.x.x
  op : ∀ e ∈ E, e.t = false → e.x ∈ h
  gt : ∀ e ∈ E, e.t = false → lessV L e.x = true
  tk : ∀ n ∈ TL, ∃ e ∈ E, e.k = n ∧ e.t = true
  bd : ∀ e ∈ E, 0 ≤ e.x.y ∧ e.x.y ≤ 1125899906842624
  lo : 0 ≤ L.y ∧ L.y ≤ 1125899906842624
theorem PFr.low {base : Nat} {v : Value} {w w' : World} (h : PFr base v w w') (hb : base ≤ w.heap.size) : Below base w w' := ⟨h.os, h.tape, h.output, h.size, fun k hk => h.block k (Nat.lt_of_lt_of_le hk hb) (.inl hk)⟩
theorem Inv26.start : Inv26 ⟨-1, 0, 0⟩ [] [] [] :=
  ⟨fun k x y _ hx _ => by simp at hx, by simp, by simp, by simp, by simp, by simp, by simp, by decide⟩
theorem Inv26.new {L : V3} {TL : List Int} {E : List En} {h h' : List V3} (I : Inv26 L TL E h) {x : V3} {p : Nat} (hL : L.y < x.y) (hx : badX x = false) (hh : Heap h → Heap h') (hp : h'.Perm (h ++ [x])) : Inv26 L TL (E ++ [⟨x.x, p, x, false⟩]) h' := by
  have hb := ok_parts hx
  have mem : ∀ e ∈ E ++ [(⟨x.x, p, x, false⟩ : En)], e ∈ E ∨ e = ⟨x.x, p, x, false⟩ := fun e he => by simpa using he
  refine ⟨hh I.heap, fun y hy => ?_, fun e he => ?_, fun e he ht => ?_, fun e he ht => ?_, fun n hn => ?_, fun e he => ?_, I.lo⟩
  · have := hp.mem_iff.1 hy
    rcases List.mem_append.1 this with h1 | h1
    · obtain ⟨e, he, hk⟩ := I.hall y h1
      exact ⟨e, by simp [he], hk⟩
    · simp only [List.mem_singleton] at h1
      exact ⟨⟨x.x, p, x, false⟩, by simp, by rw [h1]⟩
  · rcases mem e he with he | rfl
    · exact I.kx e he
    · rfl
  · rcases mem e he with he | rfl
    · exact hp.mem_iff.2 (by simp [I.op e he ht])
    · exact hp.mem_iff.2 (by simp)
  · rcases mem e he with he | rfl
    · exact I.gt e he ht
    · rw [lessV_iff]; exact .inl hL
  · obtain ⟨e, he, h1⟩ := I.tk n hn
    exact ⟨e, by simp [he], h1⟩
  · rcases mem e he with he | rfl
    · exact I.bd e he
    · exact ⟨hb.2.2.1, hb.2.2.2.1⟩
theorem Inv26.cheaper {L : V3} {TL : List Int} {E1 E2 : List En} {e : En} {h h' : List V3} (I : Inv26 L TL (E1 ++ e :: E2) h) {x : V3} (hL : L.y < x.y) (hx : badX x = false) (hk : e.k = x.x) (ht : e.t = false) (hh : Heap h → Heap h') (hp : h'.Perm (h ++ [x])) : Inv26 L TL (E1 ++ { e with x := x } :: E2) h' := by
  have hb := ok_parts hx
  have mem : ∀ e' ∈ E1 ++ { e with x := x } :: E2, (e' ∈ E1 ++ e :: E2) ∨ e' = { e with x := x } := fun e' he => by
    simp only [List.mem_append, List.mem_cons] at he ⊢
    rcases he with he | he | he
    · exact .inl (.inl he)
    · exact .inr he
    · exact .inl (.inr (.inr he))
  have mem2 : ∀ e' ∈ E1 ++ e :: E2, e' = e ∨ e' ∈ E1 ++ { e with x := x } :: E2 := fun e' he => by
    simp only [List.mem_append, List.mem_cons] at he ⊢
    rcases he with he | he | he
    · exact .inr (.inl he)
    · exact .inl he
    · exact .inr (.inr (.inr he))
  refine ⟨hh I.heap, fun y hy => ?_, fun e' he => ?_, fun e' he ht' => ?_, fun e' he ht' => ?_, fun n hn => ?_, fun e' he => ?_, I.lo⟩
  · have := hp.mem_iff.1 hy
    rcases List.mem_append.1 this with h1 | h1
    · obtain ⟨e0, he, hk0⟩ := I.hall y h1
      rcases mem2 e0 he with rfl | he
      · exact ⟨{ e0 with x := x }, by simp, hk0⟩
      · exact ⟨e0, he, hk0⟩
    · simp only [List.mem_singleton] at h1
      exact ⟨{ e with x := x }, by simp, by rw [h1]; exact hk⟩
  · rcases mem e' he with he | rfl
    · exact I.kx e' he
    · exact hk
  · rcases mem e' he with he | rfl
    · exact hp.mem_iff.2 (by simp [I.op e' he ht'])
    · exact hp.mem_iff.2 (by simp)
  · rcases mem e' he with he | rfl
    · exact I.gt e' he ht'
    · rw [lessV_iff]; exact .inl hL
  · obtain ⟨e0, he, h1, h2⟩ := I.tk n hn
    rcases mem2 e0 he with rfl | he
    · rw [ht] at h2; cases h2
    · exact ⟨e0, he, h1, h2⟩
  · rcases mem e' he with he | rfl
    · exact I.bd e' he
    · exact ⟨hb.2.2.1, hb.2.2.2.1⟩
theorem Inv26.none {L : V3} {TL : List Int} {E : List En} {h : List V3} (I : Inv26 L TL E h) (hn : ∀ y ∈ h, ¬ Valid E y) : Inv26 L TL E [] :=
  ⟨fun k x y _ hx _ => by simp at hx, by simp, I.kx, fun e he ht => absurd ⟨e, he, I.kx e he, ht, rfl⟩ (hn e.x (I.op e he ht)), I.gt, I.tk, I.bd, I.lo⟩
theorem Inv26.some {L : V3} {TL : List Int} {E1 E2 : List En} {e : En} {h h' D : List V3} {y : V3} (I : Inv26 L TL (E1 ++ e :: E2) h) (hks : ((E1 ++ e :: E2).map (·.k)).Nodup) (hk : e.k = y.x) (ht : e.t = false) (hx : e.x = y) (hp : (D ++ y :: h').Perm h) (hD : ∀ z ∈ D, ¬ Valid (E1 ++ e :: E2) z) (hmin : ∀ z ∈ h', lessV z y = false) (hh : Heap h') :
    Inv26 y (TL ++ [y.x]) (E1 ++ { e with t := true } :: E2) h' ∧ lessV L y = true ∧ y.x ∉ TL := by
  have hme : e ∈ E1 ++ e :: E2 := by simp
  have mem : ∀ e' ∈ E1 ++ { e with t := true } :: E2, (e' ∈ E1 ++ e :: E2 ∧ e'.k ≠ e.k) ∨ e' = { e with t := true } := fun e' he => by
    have hn := hks
    rw [List.map_append, List.map_cons, List.nodup_append, List.nodup_cons] at hn
    simp only [List.mem_append, List.mem_cons] at he ⊢
    rcases he with he | he | he
    · exact .inl ⟨.inl he, fun e0 => hn.2.2 e'.k (List.mem_map.2 ⟨e', he, rfl⟩) e.k (by simp) e0⟩
    · exact .inr he
    · exact .inl ⟨.inr (.inr he), fun e0 => hn.2.1.1 (List.mem_map.2 ⟨e', he, e0⟩)⟩
  have mem2 : ∀ e' ∈ E1 ++ e :: E2, e' = e ∨ e' ∈ E1 ++ { e with t := true } :: E2 := fun e' he => by
    simp only [List.mem_append, List.mem_cons] at he ⊢
    rcases he with he | he | he
    · exact .inr (.inl he)
    · exact .inl he
    · exact .inr (.inr (.inr he))
  have inh : ∀ e' ∈ E1 ++ { e with t := true } :: E2, e'.t = false → e'.x ∈ h' ∧ e'.x.x ≠ y.x := by
    intro e' he ht'
    rcases mem e' he with ⟨he, hne⟩ | rfl
    · have hkx := I.kx e' he
      have hne' : e'.x.x ≠ y.x := by rw [← hkx, ← hk]; exact hne
      have := hp.mem_iff.2 (I.op e' he ht')
      rcases List.mem_append.1 this with h1 | h1
      · exact absurd ⟨e', he, hkx, ht', rfl⟩ (hD _ h1)
      · rcases List.mem_cons.1 h1 with h1 | h1
        · rw [h1] at hne'; exact absurd rfl hne'
        · exact ⟨h1, hne'⟩
    · cases ht'
  refine ⟨⟨hh, fun z hz => ?_, fun e' he => ?_, fun e' he ht' => (inh e' he ht').1, fun e' he ht' => ?_, fun n hn => ?_, fun e' he => ?_, by rw [← hx]; exact I.bd e hme⟩, by rw [← hx]; exact I.gt e hme ht, fun hin => ?_⟩
  · obtain ⟨e0, he, hk0⟩ := I.hall z (hp.mem_iff.1 (by simp [hz]))
    rcases mem2 e0 he with rfl | he
    · exact ⟨{ e0 with t := true }, by simp, hk0⟩
    · exact ⟨e0, he, hk0⟩
  · rcases mem e' he with ⟨he, _⟩ | rfl
    · exact I.kx e' he
    · exact I.kx e hme
  · obtain ⟨h1, h2⟩ := inh e' he ht'
    have := hmin _ h1
    rw [← Bool.not_eq_true, lessV_iff] at this
    rw [lessV_iff]
    omega
  · rcases List.mem_append.1 hn with hn | hn
    · obtain ⟨e0, he, h1, h2⟩ := I.tk n hn
      rcases mem2 e0 he with rfl | he
      · rw [ht] at h2; cases h2
      · exact ⟨e0, he, h1, h2⟩
    · simp only [List.mem_singleton] at hn
      exact ⟨{ e with t := true }, by simp, by rw [hn]; exact hk, rfl⟩
  · rcases mem e' he with ⟨he, _⟩ | rfl
    · exact I.bd e' he
    · exact I.bd e hme
  · obtain ⟨e0, he, h1, h2⟩ := I.tk _ hin
    have := key_unique hks he hme (by rw [h1, hk])
    rw [this, ht] at h2
    cases h2
set_option maxRecDepth 100000 in
/-- Put, in the law. -/
theorem put_law {base b bm : Nat} {v : Value} {E : List En} {h : List V3} {L : V3} {TL : List Int} {w : World} (x : V3) (H : PoolIn w base b bm v 16384 E h) (I : Inv26 L TL E h) (hL : L.y < x.y) (hh : h.length < 1000) (hE : E.length < 1000) (hbs : base ≤ w.heap.size) :
    Calls Try.prog 9 #[.pointer (some ⟨b, 0, none⟩), .agg #[.int .i64 x.x, .int .i64 x.y, .int .i64 x.z]] w fun en w' =>
      ∃ ok er v' E' h', en = .returned (.tuple #[.bool ok, .int .i64 er]) ∧ (er = 0 ∨ er = 2) ∧ PoolIn w' base b bm v' 16384 E' h' ∧ Inv26 L TL E' h' ∧ h'.length ≤ h.length + 1 ∧ E'.length ≤ E.length + 1 ∧ PFr base v w w' ∧ VL v v' w := by
  cases hx : badX x with
  | true =>
    exact (put_bad x b w hx).mono fun en w' ⟨he, hb⟩ => ⟨false, 2, v, E, h, he, .inr rfl, H.below hb, I, by omega, by omega, (PFr.refl _ _ _).below hb, .inl rfl⟩
  | false =>
    by_cases hk : ∃ e ∈ E, e.k = x.x
    · obtain ⟨e, he, hk⟩ := hk
      obtain ⟨E1, E2, rfl⟩ := List.append_of_mem he
      refine (put_yes x base b bm v 16384 E1 E2 e h w hx H (by omega) hbs hk).mono fun en w' hp => ?_
      split at hp
      · obtain ⟨he, hP, hF⟩ := hp
        exact ⟨false, 0, v, _, h, he, .inl rfl, hP, I, by omega, by omega, hF, .inl rfl⟩
      · rename_i hc
        obtain ⟨he, v', h', hP, hh1, hh2, hF, hV⟩ := hp
        have hl := hh2.length_eq
        simp at hl
        exact ⟨true, 0, v', _, h', he, .inl rfl, hP, I.cheaper hL hx hk (by simpa using fun e => hc (.inl e)) hh1 hh2, by omega, by simp, hF, hV⟩
    · have hk' : ∀ e ∈ E, e.k ≠ x.x := fun e he e0 => hk ⟨e, he, e0⟩
      refine (put_no x base b bm v 16384 E h w hx H (by omega) hbs hk').mono fun en w' hp => ?_
      rw [if_pos (by omega)] at hp
      obtain ⟨he, p, v', h', hP, hh1, hh2, hF, hV⟩ := hp
      have hl := hh2.length_eq
      simp at hl
      exact ⟨true, 0, v', _, h', he, .inl rfl, hP, I.new hL hx hh1 hh2, by omega, by simp, hF, hV⟩
/-- Take, in the law. -/
theorem take_law {base b bm : Nat} {v : Value} {E : List En} {h : List V3} {L : V3} {TL : List Int} {w : World} (H : PoolIn w base b bm v 16384 E h) (I : Inv26 L TL E h) (hh : h.length < 1000) :
    Calls Try.prog 10 #[.pointer (some ⟨b, 0, none⟩)] w fun en w' =>
      ∃ (y : V3) (er : Int) (v' : Value) (E' : List En) (h' : List V3), en = .returned (.tuple #[.agg #[.int .i64 y.x, .int .i64 y.y, .int .i64 y.z], .int .i64 er]) ∧ PoolIn w' base b bm v' 16384 E' h' ∧ PFr base v w w' ∧ VL v v' w ∧ h'.length ≤ h.length ∧ E'.length = E.length ∧
        (er = 4 ∧ Inv26 L TL E' h' ∨ er = 0 ∧ Inv26 y (TL ++ [y.x]) E' h' ∧ lessV L y = true ∧ y.x ∉ TL) := by
  refine (take_any base b bm v 16384 E h w H (by omega) I.heap I.hall).mono fun en w' ⟨E', h', v', hT, hP, hF, hv⟩ => ?_
  rcases hT with ⟨he, rfl, rfl, hn⟩ | ⟨y, D, E1, e, E2, he, rfl, hk, ht, hx, rfl, hp, hD, hmin, hh'⟩
  · exact ⟨⟨0, 0, 0⟩, 4, v', _, _, he, hP, hF, .inl hv, by simp, rfl, .inl ⟨rfl, I.none hn⟩⟩
  · have hl := hp.length_eq
    simp at hl
    exact ⟨y, 0, v', _, _, he, hP, hF, .inl hv, by omega, by simp, .inr ⟨rfl, I.some H.ks hk ht hx hp hD hmin hh'⟩⟩
end Go.Proofs.Ytdamcbpjefjolaa
