/- footpathref06.All by a walk. No conditions. -/
import Derived.Test.YteneneadfpkahaaBa
namespace Go.Proofs.Yteneneadfpkahaa
open Go Go.RowKit Go.Sx
theorem own_row1 {w : World} {base : Nat} {e : TypeId} {v : Value} {n : Nat} {xs : List Value} (h : w.ownsRow base e 1 v n xs) : ∃ A cap, v = .slice A n cap ∧ n ≤ cap ∧ Reads w w.heap.size 1 A n xs := by
  have h' := h
  rcases h.2 with ⟨rfl, rfl⟩ | ⟨g, cap, cur, rfl, _, _, hc, _⟩
  · exact ⟨none, 0, rfl, Nat.le_refl _, Reads.of_own h'⟩
  · exact ⟨_, cap, rfl, hc, Reads.of_own h'⟩
set_option maxHeartbeats 1000000 in
set_option maxRecDepth 100000 in
theorem rall_any (a b c d e f g x0 z0 x1 z1 : Int) (w : World) (T : Int → Bool) (hT : T = fun i => touchF a b c d e f g i x0 z0 x1 z1) (n : Nat) (hn : countF a b c d e f g = n) (hn16 : n ≤ 16) :
    Calls Try.prog 26 #[cfgv a b c d e f g, .int .i64 x0, .int .i64 z0, .int .i64 x1, .int .i64 z1] w fun en w' =>
      ∃ A cap, en = .returned (.slice A (hits T n).length cap) ∧ (hits T n).length ≤ cap ∧ Reads w' w'.heap.size 1 A (hits T n).length (ics (hits T n)) ∧ Below w.heap.size w w' := by
  obtain ⟨i0, hi, hz0, hz1, hz2⟩ := info_parts info3
  have hc := fun w => rcount_any a b c d e f g w
  rw [hn] at hc
  unfold cfgv at hc ⊢
  go_enter Try.func26, Try.ntmps26
  go_wp2_with (go_at_call 27; refine (hc _).mono ?_; rintro en w1 ⟨rfl, hb1⟩)
  go_loopw [11, 13] (fun o x wr => ∃ k : Nat, x = .int .i64 k ∧ k ≤ n ∧ wr.ownsRow (w.heap.size + 1) 3 1 o (hits T k).length (ics (hits T k)) ∧ Below (w.heap.size + 1) (w.alloc (.cells #[.int .i64 a, .int .i64 b, .int .i64 c, .int .i64 d, .int .i64 e, .int .i64 f, .int .i64 g] 23)) wr)
    (fun _ x _ => n - (intOf x).toNat)
  case atStart => exact ⟨0, rfl, Nat.zero_le _, World.ownsRow_nil _ _ _ _, by simpa using hb1⟩
  case round =>
    obtain ⟨k, rfl, hk, ho, hb⟩ := hrel
    obtain ⟨h0, h1, h2, h3, h4, h5, h6, h7⟩ := (CfgAt.new a b c d e f g w 23).below hb (Nat.lt_succ_self _)
    have ht := fun w => rtouch_any a b c d e f g k x0 z0 x1 z1 w
    unfold cfgv at ht
    by_cases hkn : k < n
    · have hle := hits_le T k
      have hmx : maxLen = 9223372036854775807 := rfl
      go_wp2_with (first
        | (go_at_call 29; refine (ht _).mono ?_; rintro en w2 ⟨rfl, hb2⟩; have hs2 := hb.size; have hs3 := hb2.size)
        | (at_builtin; refine wpList_append_own_at _ rfl _ _ 34 rfl (w.heap.size + 1) 3 i0 (.int .i64 0) 1 8 Try.underlying34 hi hz0 hz1 hz2 rfl (by decide) _ _ _ rfl ((ownsRow_below ho hb2).alloc _) ⟨w2.heap.size, 0, none⟩ 1 1 [.int .i64 k] rfl rfl (cell_one_new _ _ _) (by intro u hu; simp at hu; subst hu; rfl) (by omega) (by omega) (by simp at *; omega) ?_; intro v' w3 hown' hgrow hnil hloc))
      · have hk1 : T k = true := by rw [hT]; assumption
        refine ⟨⟨k + 1, by go_num, by omega, ?_, below_round hb h7 hb2 ho hgrow⟩, by simp [intOf]; omega⟩
        rw [hits_hit hk1, ics_append]
        simpa [ics] using hown'
      · have hk1 : T k = false := by rw [hT]; assumption
        refine ⟨⟨k + 1, by go_num, by omega, ?_, hb.trans (hb2.mono h7)⟩, by simp [intOf]; omega⟩
        rw [hits_miss hk1]
        exact ownsRow_below ho hb2
    · obtain rfl : k = n := by omega
      obtain ⟨A, cap, rfl, hcap, hrd⟩ := own_row1 ho
      go_wp2
      go_ret
      exact ⟨A, cap, rfl, hcap, hrd, ((Below.refl _ w).alloc (Nat.le_refl _) _).trans (hb.mono (Nat.le_succ _))⟩
end Go.Proofs.Yteneneadfpkahaa
