/- footpathref06.Boxes: by the executor up to its last call, and by a walk behind it. No conditions. -/
import Derived.Test.YteneneadfpkahaaSxSeg
import Derived.Test.YteneneadfpkahaaBb
import Derived.Test.YteneneadfpkahaaBx
namespace Go.Proofs.Yteneneadfpkahaa
open Go Go.RowKit Go.Sx
section
variable (a b c d e f g i x0 z0 x1 z1 y0 y1 ar : Int)
def rboxes_cells : List Value := [.int .i64 a, .int .i64 b, .int .i64 c, .int .i64 d, .int .i64 e, .int .i64 f, .int .i64 g, .int .i64 i, .int .i64 x0, .int .i64 z0, .int .i64 x1, .int .i64 z1, .int .i64 y0, .int .i64 y1, .int .i64 ar]
noncomputable def rboxes_c0 : Bool := !(checkRF a b c d e f g == 0)
noncomputable def rboxes_c1 : Bool := ((!(mayBoxF a b c d e f g i x0 z0 x1 z1 y0 y1 ar) || decide (i < 1)) || decide (1073741824 < i))
def rboxes_G (v : Value) : Prop := ((rboxes_c0 a b c d e f g) = true ∧ v = .tuple #[.bool false, .agg #[.int .i64 0, .int .i64 0, .int .i64 0, .int .i64 0, .int .i64 0, .int .i64 0, .int .i64 0], .agg #[.int .i64 0, .int .i64 0, .int .i64 0, .int .i64 0, .int .i64 0, .int .i64 0, .int .i64 0, .int .i64 0], .slice none 0 0, .int .i64 (checkRF a b c d e f g)]) ∨ ((rboxes_c0 a b c d e f g) = false ∧ (rboxes_c1 a b c d e f g i x0 z0 x1 z1 y0 y1 ar) = true ∧ v = .tuple #[.bool false, .agg #[.int .i64 0, .int .i64 0, .int .i64 0, .int .i64 0, .int .i64 0, .int .i64 0, .int .i64 0], .agg #[.int .i64 0, .int .i64 0, .int .i64 0, .int .i64 0, .int .i64 0, .int .i64 0, .int .i64 0, .int .i64 0], .slice none 0 0, .int .i64 2]) ∨ ((rboxes_c0 a b c d e f g) = false ∧ (rboxes_c1 a b c d e f g i x0 z0 x1 z1 y0 y1 ar) = false ∧ v = .tuple #[.bool true, .agg #[.int .i64 a, .int .i64 b, .int .i64 c, .int .i64 d, .int .i64 e, .int .i64 f, .int .i64 g], .agg #[.int .i64 i, .int .i64 x0, .int .i64 z0, .int .i64 x1, .int .i64 z1, .int .i64 y0, .int .i64 y1, .int .i64 ar], .slice none 0 0, .int .i64 0])
def rboxes_nest : Prop := ((rboxes_c0 a b c d e f g) = true → rboxes_G a b c d e f g i x0 z0 x1 z1 y0 y1 ar (.tuple #[.bool false, .agg #[.int .i64 0, .int .i64 0, .int .i64 0, .int .i64 0, .int .i64 0, .int .i64 0, .int .i64 0], .agg #[.int .i64 0, .int .i64 0, .int .i64 0, .int .i64 0, .int .i64 0, .int .i64 0, .int .i64 0, .int .i64 0], .slice none 0 0, .int .i64 (checkRF a b c d e f g)])) ∧ ((rboxes_c0 a b c d e f g) = false → ((rboxes_c1 a b c d e f g i x0 z0 x1 z1 y0 y1 ar) = true → rboxes_G a b c d e f g i x0 z0 x1 z1 y0 y1 ar (.tuple #[.bool false, .agg #[.int .i64 0, .int .i64 0, .int .i64 0, .int .i64 0, .int .i64 0, .int .i64 0, .int .i64 0], .agg #[.int .i64 0, .int .i64 0, .int .i64 0, .int .i64 0, .int .i64 0, .int .i64 0, .int .i64 0, .int .i64 0], .slice none 0 0, .int .i64 2])) ∧ ((rboxes_c1 a b c d e f g i x0 z0 x1 z1 y0 y1 ar) = false → rboxes_G a b c d e f g i x0 z0 x1 z1 y0 y1 ar (.tuple #[.bool true, .agg #[.int .i64 a, .int .i64 b, .int .i64 c, .int .i64 d, .int .i64 e, .int .i64 f, .int .i64 g], .agg #[.int .i64 i, .int .i64 x0, .int .i64 z0, .int .i64 x1, .int .i64 z1, .int .i64 y0, .int .i64 y1, .int .i64 ar], .slice none 0 0, .int .i64 0])))
def rboxes_okP : Prop := (segRun Try.prog [checkRC, mayBoxC] 4000 4 Try.f76 [(some 0, [.i, .i, .i, .i, .i, .i, .i]), (some 0, [.i, .i, .i, .i, .i, .i, .i, .i])] [.cell 2 23, .cell 3 81] [.agg [.int 0, .int 0, .int 0, .int 0, .int 0, .int 0, .int 0], .agg [.int 0, .int 0, .int 0, .int 0, .int 0, .int 0, .int 0, .int 0]] [.one (.val (.slice none 0 0)), .one (.int 0)]).ok (envOf [checkRC, mayBoxC] (rboxes_cells a b c d e f g i x0 z0 x1 z1 y0 y1 ar)) (rboxes_G a b c d e f g i x0 z0 x1 z1 y0 y1 ar)
theorem rboxes_eq : rboxes_okP a b c d e f g i x0 z0 x1 z1 y0 y1 ar = rboxes_nest a b c d e f g i x0 z0 x1 z1 y0 y1 ar := by kernel_rfl
theorem rboxes_ok : rboxes_okP a b c d e f g i x0 z0 x1 z1 y0 y1 ar := by
  rw [rboxes_eq]
  exact ⟨fun h0 => .inl ⟨h0, rfl⟩, fun h0 => ⟨fun h1 => .inr (.inl ⟨h0, h1, rfl⟩), fun h1 => .inr (.inr (⟨h0, h1, rfl⟩))⟩⟩
end
theorem rboxes_expand (t : Array Value) (h : t.size = 36) : ∃ u0 u1 u2 u3 u4 u5 u6 u7 u8 u9 u10 u11 u12 u13 u14 u15 u16 u17 u18 u19 u20 u21 u22 u23 u24 u25 u26 u27 u28 u29 u30 u31 u32 u33 u34 u35 : Value, t = #[u0, u1, u2, u3, u4, u5, u6, u7, u8, u9, u10, u11, u12, u13, u14, u15, u16, u17, u18, u19, u20, u21, u22, u23, u24, u25, u26, u27, u28, u29, u30, u31, u32, u33, u34, u35] := ⟨_, _, _, _, _, _, _, _, _, _, _, _, _, _, _, _, _, _, _, _, _, _, _, _, _, _, _, _, _, _, _, _, _, _, _, _, expand t 36 h⟩
set_option maxRecDepth 100000 in
set_option maxHeartbeats 1000000 in
theorem rboxes_any (a b c d e f g i x0 z0 x1 z1 y0 y1 ar : Int) (w : World) (N : Nat) (hN : countF a b c d e f g = N) (hN16 : N ≤ 16) :
    Calls Try.prog 76 #[.agg #[.int .i64 a, .int .i64 b, .int .i64 c, .int .i64 d, .int .i64 e, .int .i64 f, .int .i64 g], .agg #[.int .i64 i, .int .i64 x0, .int .i64 z0, .int .i64 x1, .int .i64 z1, .int .i64 y0, .int .i64 y1, .int .i64 ar]] w fun en w' =>
      ∃ L er A cap, en = .returned (.tuple #[.slice A L.length cap, .int .i64 er]) ∧ Reads w' w'.heap.size 1 A L.length (ics L) ∧ Below w.heap.size w w' ∧ (((rboxes_c0 a b c d e f g) = true ∧ L = [] ∧ er = checkRF a b c d e f g) ∨ ((rboxes_c0 a b c d e f g) = false ∧ (rboxes_c1 a b c d e f g i x0 z0 x1 z1 y0 y1 ar) = true ∧ L = [] ∧ er = 2) ∨ ((rboxes_c0 a b c d e f g) = false ∧ (rboxes_c1 a b c d e f g i x0 z0 x1 z1 y0 y1 ar) = false ∧ L = hits (fun j => touchF a b c d e f g j x0 z0 x1 z1) N ∧ er = 0)) := by
  refine calls_seg (P := Try.prog) (cons_holds checkRC_holds (cons_holds mayBoxC_holds nil_holds)) 4000 4 Try.func76 rfl [(some 0, [.i, .i, .i, .i, .i, .i, .i]), (some 0, [.i, .i, .i, .i, .i, .i, .i, .i])] [.cell 2 23, .cell 3 81] [.agg [.int 0, .int 0, .int 0, .int 0, .int 0, .int 0, .int 0], .agg [.int 0, .int 0, .int 0, .int 0, .int 0, .int 0, .int 0, .int 0]] [.one (.val (.slice none 0 0)), .one (.int 0)] rfl (rboxes_cells a b c d e f g i x0 z0 x1 z1 y0 y1 ar)
    ⟨a, _, rfl, b, _, rfl, c, _, rfl, d, _, rfl, e, _, rfl, f, _, rfl, g, _, rfl, i, _, rfl, x0, _, rfl, z0, _, rfl, x1, _, rfl, z1, _, rfl, y0, _, rfl, y1, _, rfl, ar, _, rfl, rfl⟩ _ (rboxes_ok a b c d e f g i x0 z0 x1 z1 y0 y1 ar) w _ ?_ ?_
  · intro β st l av w' hsz hdf hl hG hi
    obtain ⟨v0, v1, r0, r1, rfl⟩ := results_two hl
    rcases hG with ⟨k0, h⟩ | ⟨k0, k1, h⟩ | ⟨k0, k1, h⟩
    · simp only [resVal, List.cons_append, List.nil_append, List.map_cons, Value.tuple.injEq] at h
      have h' := congrArg Array.toList h
      have h0 : Value.bool true = Value.bool false := (List.cons.inj h').1
      cases h0
    · simp only [resVal, List.cons_append, List.nil_append, List.map_cons, Value.tuple.injEq] at h
      have h' := congrArg Array.toList h
      have h0 : Value.bool true = Value.bool false := (List.cons.inj h').1
      cases h0
    · have hd : v0.den (envOf [checkRC, mayBoxC] (rboxes_cells a b c d e f g i x0 z0 x1 z1 y0 y1 ar)) = .agg #[.int .i64 a, .int .i64 b, .int .i64 c, .int .i64 d, .int .i64 e, .int .i64 f, .int .i64 g] ∧ v1.den (envOf [checkRC, mayBoxC] (rboxes_cells a b c d e f g i x0 z0 x1 z1 y0 y1 ar)) = .agg #[.int .i64 i, .int .i64 x0, .int .i64 z0, .int .i64 x1, .int .i64 z1, .int .i64 y0, .int .i64 y1, .int .i64 ar] := by
        simp only [resVal, List.cons_append, List.nil_append, List.map_cons, Value.tuple.injEq] at h
        have h' := congrArg Array.toList h
        simp only [List.cons.injEq] at h'
        exact ⟨h'.2.1, h'.2.2.1⟩
      obtain ⟨b0, o0, g0, _, l0, c0⟩ := cell_facts2 hi r0 (us := [.int .i64 a, .int .i64 b, .int .i64 c, .int .i64 d, .int .i64 e, .int .i64 f, .int .i64 g]) hd.1
      have c0_0 : w'.cell? ⟨b0, o0, none⟩ = _ := c0 0 _ rfl
      have c0_1 := c0 1 _ rfl
      have c0_2 := c0 2 _ rfl
      have c0_3 := c0 3 _ rfl
      have c0_4 := c0 4 _ rfl
      have c0_5 := c0 5 _ rfl
      have c0_6 := c0 6 _ rfl
      obtain ⟨b1, o1, g1, _, l1, c1⟩ := cell_facts2 hi r1 (us := [.int .i64 i, .int .i64 x0, .int .i64 z0, .int .i64 x1, .int .i64 z1, .int .i64 y0, .int .i64 y1, .int .i64 ar]) hd.2
      have c1_0 : w'.cell? ⟨b1, o1, none⟩ = _ := c1 0 _ rfl
      have c1_1 := c1 1 _ rfl
      have c1_2 := c1 2 _ rfl
      have c1_3 := c1 3 _ rfl
      have c1_4 := c1 4 _ rfl
      have c1_5 := c1 5 _ rfl
      have c1_6 := c1 6 _ rfl
      have c1_7 := c1 7 _ rfl
      have hbl := hi.below
      have h4 := fun p q r s w => rall_any a b c d e f g p q r s w (fun i => touchF a b c d e f g i p q r s) rfl N hN hN16
      unfold cfgv at h4
      clear hi hd h hl r0 r1 c0 c1
      obtain ⟨tm, df⟩ := av
      obtain rfl : df = [] := hdf
      obtain ⟨u0, u1, u2, u3, u4, u5, u6, u7, u8, u9, u10, u11, u12, u13, u14, u15, u16, u17, u18, u19, u20, u21, u22, u23, u24, u25, u26, u27, u28, u29, u30, u31, u32, u33, u34, u35, rfl⟩ := rboxes_expand tm hsz
      obtain rfl : u2 = .pointer (some ⟨b0, o0, none⟩) := g0
      obtain rfl : u3 = .pointer (some ⟨b1, o1, none⟩) := g1
      simp only [cut, Try.f76, Option.getD]
      go_wp2_with (go_at_call 26; refine (h4 _ _ _ _ _).mono ?_; rintro en w5 ⟨A, cap, rfl, _, hrd, hb5⟩)
      refine bodyPost_ret (results_tmp2 rfl _ _ _) rfl ?_
      exact ⟨_, 0, A, cap, rfl, hrd, hbl.trans (hb5.mono hbl.size), .inr (.inr (⟨k0, k1, rfl, rfl⟩))⟩
  · intro l w' hG hb
    have hd : ∀ er, resVal (envOf [checkRC, mayBoxC] (rboxes_cells a b c d e f g i x0 z0 x1 z1 y0 y1 ar)) (.one (.bool false) :: ([.agg [.int 0, .int 0, .int 0, .int 0, .int 0, .int 0, .int 0], .agg [.int 0, .int 0, .int 0, .int 0, .int 0, .int 0, .int 0, .int 0]] ++ l)) = .tuple #[.bool false, .agg #[.int .i64 0, .int .i64 0, .int .i64 0, .int .i64 0, .int .i64 0, .int .i64 0, .int .i64 0], .agg #[.int .i64 0, .int .i64 0, .int .i64 0, .int .i64 0, .int .i64 0, .int .i64 0, .int .i64 0, .int .i64 0], .slice none 0 0, .int .i64 er] → resVal (envOf [checkRC, mayBoxC] (rboxes_cells a b c d e f g i x0 z0 x1 z1 y0 y1 ar)) l = .tuple #[.slice none 0 0, .int .i64 er] := by
      intro er h
      apply resVal_two
      simp only [resVal, List.cons_append, List.nil_append, List.map_cons, Value.tuple.injEq] at h
      have h' := congrArg Array.toList h
      simp only [List.cons.injEq] at h'
      exact h'.2.2.2
    rcases hG with ⟨k0, h⟩ | ⟨k0, k1, h⟩ | ⟨k0, k1, h⟩
    · exact ⟨[], _, none, 0, congrArg Ending.returned (hd _ h), Reads.none_, hb, .inl ⟨k0, rfl, rfl⟩⟩
    · exact ⟨[], _, none, 0, congrArg Ending.returned (hd _ h), Reads.none_, hb, .inr (.inl ⟨k0, k1, rfl, rfl⟩)⟩
    · simp only [resVal, List.cons_append, List.nil_append, List.map_cons, Value.tuple.injEq] at h
      have h' := congrArg Array.toList h
      have h0 : Value.bool false = Value.bool true := (List.cons.inj h').1
      cases h0
end Go.Proofs.Yteneneadfpkahaa
