/- bins.Tris: by the executor up to its last call, and by a walk behind it. No conditions. -/
import Derived.Test.YteneneadfpkahaaSxSeg
import Derived.Test.YteneneadfpkahaaAl
import Derived.Test.YteneneadfpkahaaTr
namespace Go.Proofs.Yteneneadfpkahaa
open Go Go.RowKit Go.Sx
section
variable (a b c d e f g i x0 y0 z0 x1 y1 z1 x2 y2 z2 : Int)
def btris_cells : List Value := [.int .i64 a, .int .i64 b, .int .i64 c, .int .i64 d, .int .i64 e, .int .i64 f, .int .i64 g, .int .i64 i, .int .i64 x0, .int .i64 y0, .int .i64 z0, .int .i64 x1, .int .i64 y1, .int .i64 z1, .int .i64 x2, .int .i64 y2, .int .i64 z2]
noncomputable def btris_c0 : Bool := !(tcheckF a b c d e f g i x0 y0 z0 x1 y1 z1 x2 y2 z2 == 0)
def btris_G (v : Value) : Prop := ((btris_c0 a b c d e f g i x0 y0 z0 x1 y1 z1 x2 y2 z2) = true ∧ v = .tuple #[.bool false, .agg #[.int .i64 0, .int .i64 0, .int .i64 0, .int .i64 0, .int .i64 0, .int .i64 0, .int .i64 0], .agg #[.int .i64 0, .int .i64 0, .int .i64 0], .agg #[.int .i64 0, .int .i64 0, .int .i64 0], .slice none 0 0, .int .i64 (tcheckF a b c d e f g i x0 y0 z0 x1 y1 z1 x2 y2 z2)]) ∨ ((btris_c0 a b c d e f g i x0 y0 z0 x1 y1 z1 x2 y2 z2) = false ∧ v = .tuple #[.bool true, .agg #[.int .i64 a, .int .i64 b, .int .i64 c, .int .i64 d, .int .i64 e, .int .i64 f, .int .i64 g], .agg #[.int .i64 (tboundsF0 i x0 y0 z0 x1 y1 z1 x2 y2 z2), .int .i64 (tboundsF1 i x0 y0 z0 x1 y1 z1 x2 y2 z2), .int .i64 (tboundsF2 i x0 y0 z0 x1 y1 z1 x2 y2 z2)], .agg #[.int .i64 (tboundsF3 i x0 y0 z0 x1 y1 z1 x2 y2 z2), .int .i64 (tboundsF4 i x0 y0 z0 x1 y1 z1 x2 y2 z2), .int .i64 (tboundsF5 i x0 y0 z0 x1 y1 z1 x2 y2 z2)], .slice none 0 0, .int .i64 0])
def btris_nest : Prop := ((btris_c0 a b c d e f g i x0 y0 z0 x1 y1 z1 x2 y2 z2) = true → btris_G a b c d e f g i x0 y0 z0 x1 y1 z1 x2 y2 z2 (.tuple #[.bool false, .agg #[.int .i64 0, .int .i64 0, .int .i64 0, .int .i64 0, .int .i64 0, .int .i64 0, .int .i64 0], .agg #[.int .i64 0, .int .i64 0, .int .i64 0], .agg #[.int .i64 0, .int .i64 0, .int .i64 0], .slice none 0 0, .int .i64 (tcheckF a b c d e f g i x0 y0 z0 x1 y1 z1 x2 y2 z2)])) ∧ ((btris_c0 a b c d e f g i x0 y0 z0 x1 y1 z1 x2 y2 z2) = false → btris_G a b c d e f g i x0 y0 z0 x1 y1 z1 x2 y2 z2 (.tuple #[.bool true, .agg #[.int .i64 a, .int .i64 b, .int .i64 c, .int .i64 d, .int .i64 e, .int .i64 f, .int .i64 g], .agg #[.int .i64 (tboundsF0 i x0 y0 z0 x1 y1 z1 x2 y2 z2), .int .i64 (tboundsF1 i x0 y0 z0 x1 y1 z1 x2 y2 z2), .int .i64 (tboundsF2 i x0 y0 z0 x1 y1 z1 x2 y2 z2)], .agg #[.int .i64 (tboundsF3 i x0 y0 z0 x1 y1 z1 x2 y2 z2), .int .i64 (tboundsF4 i x0 y0 z0 x1 y1 z1 x2 y2 z2), .int .i64 (tboundsF5 i x0 y0 z0 x1 y1 z1 x2 y2 z2)], .slice none 0 0, .int .i64 0]))
def btris_okP : Prop := (segRun Try.prog [tcheckC, tboundsC] 4000 3 Try.f73 [(some 0, [.i, .i, .i, .i, .i, .i, .i]), (some 0, [.i, .i, .i, .i, .i, .i, .i, .i, .i, .i])] [.cell 2 23, .cell 7 57, .cell 8 57] [.agg [.int 0, .int 0, .int 0, .int 0, .int 0, .int 0, .int 0], .agg [.int 0, .int 0, .int 0], .agg [.int 0, .int 0, .int 0]] [.one (.val (.slice none 0 0)), .one (.int 0)]).ok (envOf [tcheckC, tboundsC] (btris_cells a b c d e f g i x0 y0 z0 x1 y1 z1 x2 y2 z2)) (btris_G a b c d e f g i x0 y0 z0 x1 y1 z1 x2 y2 z2)
theorem btris_eq : btris_okP a b c d e f g i x0 y0 z0 x1 y1 z1 x2 y2 z2 = btris_nest a b c d e f g i x0 y0 z0 x1 y1 z1 x2 y2 z2 := by kernel_rfl
theorem btris_ok : btris_okP a b c d e f g i x0 y0 z0 x1 y1 z1 x2 y2 z2 := by
  rw [btris_eq]
  exact ⟨fun h0 => .inl ⟨h0, rfl⟩, fun h0 => .inr (⟨h0, rfl⟩)⟩
end
theorem btris_expand (t : Array Value) (h : t.size = 35) : ∃ u0 u1 u2 u3 u4 u5 u6 u7 u8 u9 u10 u11 u12 u13 u14 u15 u16 u17 u18 u19 u20 u21 u22 u23 u24 u25 u26 u27 u28 u29 u30 u31 u32 u33 u34 : Value, t = #[u0, u1, u2, u3, u4, u5, u6, u7, u8, u9, u10, u11, u12, u13, u14, u15, u16, u17, u18, u19, u20, u21, u22, u23, u24, u25, u26, u27, u28, u29, u30, u31, u32, u33, u34] := ⟨_, _, _, _, _, _, _, _, _, _, _, _, _, _, _, _, _, _, _, _, _, _, _, _, _, _, _, _, _, _, _, _, _, _, _, expand t 35 h⟩
set_option maxRecDepth 100000 in
set_option maxHeartbeats 1000000 in
theorem btris_any (a b c d e f g i x0 y0 z0 x1 y1 z1 x2 y2 z2 : Int) (w : World) (N : Nat) (hN : countF a b c d e f g = N) (hN16 : N ≤ 16) :
    Calls Try.prog 73 #[.agg #[.int .i64 a, .int .i64 b, .int .i64 c, .int .i64 d, .int .i64 e, .int .i64 f, .int .i64 g], .agg #[.int .i64 i, .int .i64 x0, .int .i64 y0, .int .i64 z0, .int .i64 x1, .int .i64 y1, .int .i64 z1, .int .i64 x2, .int .i64 y2, .int .i64 z2]] w fun en w' =>
      ∃ L er A cap, en = .returned (.tuple #[.slice A L.length cap, .int .i64 er]) ∧ Reads w' w'.heap.size 1 A L.length (ics L) ∧ Below w.heap.size w w' ∧ (((btris_c0 a b c d e f g i x0 y0 z0 x1 y1 z1 x2 y2 z2) = true ∧ L = [] ∧ er = tcheckF a b c d e f g i x0 y0 z0 x1 y1 z1 x2 y2 z2) ∨ ((btris_c0 a b c d e f g i x0 y0 z0 x1 y1 z1 x2 y2 z2) = false ∧ L = hits (fun j => touchF a b c d e f g j (wrap64 (tboundsF0 i x0 y0 z0 x1 y1 z1 x2 y2 z2 - 1)) (wrap64 (tboundsF2 i x0 y0 z0 x1 y1 z1 x2 y2 z2 - 1)) (tboundsF3 i x0 y0 z0 x1 y1 z1 x2 y2 z2) (tboundsF5 i x0 y0 z0 x1 y1 z1 x2 y2 z2)) N ∧ er = 0)) := by
  refine calls_seg (P := Try.prog) (cons_holds tcheckC_holds (cons_holds tboundsC_holds nil_holds)) 4000 3 Try.func73 rfl [(some 0, [.i, .i, .i, .i, .i, .i, .i]), (some 0, [.i, .i, .i, .i, .i, .i, .i, .i, .i, .i])] [.cell 2 23, .cell 7 57, .cell 8 57] [.agg [.int 0, .int 0, .int 0, .int 0, .int 0, .int 0, .int 0], .agg [.int 0, .int 0, .int 0], .agg [.int 0, .int 0, .int 0]] [.one (.val (.slice none 0 0)), .one (.int 0)] rfl (btris_cells a b c d e f g i x0 y0 z0 x1 y1 z1 x2 y2 z2)
    ⟨a, _, rfl, b, _, rfl, c, _, rfl, d, _, rfl, e, _, rfl, f, _, rfl, g, _, rfl, i, _, rfl, x0, _, rfl, y0, _, rfl, z0, _, rfl, x1, _, rfl, y1, _, rfl, z1, _, rfl, x2, _, rfl, y2, _, rfl, z2, _, rfl, rfl⟩ _ (btris_ok a b c d e f g i x0 y0 z0 x1 y1 z1 x2 y2 z2) w _ ?_ ?_
  · intro β st l av w' hsz hdf hl hG hi
    obtain ⟨v0, v1, v2, r0, r1, r2, rfl⟩ := results_three hl
    rcases hG with ⟨k0, h⟩ | ⟨k0, h⟩
    · simp only [resVal, List.cons_append, List.nil_append, List.map_cons, Value.tuple.injEq] at h
      have h' := congrArg Array.toList h
      have h0 : Value.bool true = Value.bool false := (List.cons.inj h').1
      cases h0
    · have hd : v0.den (envOf [tcheckC, tboundsC] (btris_cells a b c d e f g i x0 y0 z0 x1 y1 z1 x2 y2 z2)) = .agg #[.int .i64 a, .int .i64 b, .int .i64 c, .int .i64 d, .int .i64 e, .int .i64 f, .int .i64 g] ∧ v1.den (envOf [tcheckC, tboundsC] (btris_cells a b c d e f g i x0 y0 z0 x1 y1 z1 x2 y2 z2)) = .agg #[.int .i64 (tboundsF0 i x0 y0 z0 x1 y1 z1 x2 y2 z2), .int .i64 (tboundsF1 i x0 y0 z0 x1 y1 z1 x2 y2 z2), .int .i64 (tboundsF2 i x0 y0 z0 x1 y1 z1 x2 y2 z2)] ∧ v2.den (envOf [tcheckC, tboundsC] (btris_cells a b c d e f g i x0 y0 z0 x1 y1 z1 x2 y2 z2)) = .agg #[.int .i64 (tboundsF3 i x0 y0 z0 x1 y1 z1 x2 y2 z2), .int .i64 (tboundsF4 i x0 y0 z0 x1 y1 z1 x2 y2 z2), .int .i64 (tboundsF5 i x0 y0 z0 x1 y1 z1 x2 y2 z2)] := by
        simp only [resVal, List.cons_append, List.nil_append, List.map_cons, Value.tuple.injEq] at h
        have h' := congrArg Array.toList h
        simp only [List.cons.injEq] at h'
        exact ⟨h'.2.1, h'.2.2.1, h'.2.2.2.1⟩
      obtain ⟨b0, o0, g0, _, l0, c0⟩ := cell_facts2 hi r0 (us := [.int .i64 a, .int .i64 b, .int .i64 c, .int .i64 d, .int .i64 e, .int .i64 f, .int .i64 g]) hd.1
      have c0_0 : w'.cell? ⟨b0, o0, none⟩ = _ := c0 0 _ rfl
      have c0_1 := c0 1 _ rfl
      have c0_2 := c0 2 _ rfl
      have c0_3 := c0 3 _ rfl
      have c0_4 := c0 4 _ rfl
      have c0_5 := c0 5 _ rfl
      have c0_6 := c0 6 _ rfl
      obtain ⟨b1, o1, g1, _, l1, c1⟩ := cell_facts2 hi r1 (us := [.int .i64 (tboundsF0 i x0 y0 z0 x1 y1 z1 x2 y2 z2), .int .i64 (tboundsF1 i x0 y0 z0 x1 y1 z1 x2 y2 z2), .int .i64 (tboundsF2 i x0 y0 z0 x1 y1 z1 x2 y2 z2)]) hd.2.1
      have c1_0 : w'.cell? ⟨b1, o1, none⟩ = _ := c1 0 _ rfl
      have c1_1 := c1 1 _ rfl
      have c1_2 := c1 2 _ rfl
      obtain ⟨b2, o2, g2, _, l2, c2⟩ := cell_facts2 hi r2 (us := [.int .i64 (tboundsF3 i x0 y0 z0 x1 y1 z1 x2 y2 z2), .int .i64 (tboundsF4 i x0 y0 z0 x1 y1 z1 x2 y2 z2), .int .i64 (tboundsF5 i x0 y0 z0 x1 y1 z1 x2 y2 z2)]) hd.2.2
      have c2_0 : w'.cell? ⟨b2, o2, none⟩ = _ := c2 0 _ rfl
      have c2_1 := c2 1 _ rfl
      have c2_2 := c2 2 _ rfl
      have hbl := hi.below
      have h4 := fun p q r s w => all_any a b c d e f g p q r s (fun i => touchF a b c d e f g i p q r s) rfl N hN hN16 w
      unfold cfgv at h4
      clear hi hd h hl r0 r1 r2 c0 c1 c2
      obtain ⟨tm, df⟩ := av
      obtain rfl : df = [] := hdf
      obtain ⟨u0, u1, u2, u3, u4, u5, u6, u7, u8, u9, u10, u11, u12, u13, u14, u15, u16, u17, u18, u19, u20, u21, u22, u23, u24, u25, u26, u27, u28, u29, u30, u31, u32, u33, u34, rfl⟩ := btris_expand tm hsz
      obtain rfl : u2 = .pointer (some ⟨b0, o0, none⟩) := g0
      obtain rfl : u7 = .pointer (some ⟨b1, o1, none⟩) := g1
      obtain rfl : u8 = .pointer (some ⟨b2, o2, none⟩) := g2
      simp only [cut, Try.f73, Option.getD]
      go_wp2_with (go_at_call 104; refine (h4 _ _ _ _ _).mono ?_; rintro en w5 ⟨A, cap, rfl, hrd, hb5⟩)
      refine bodyPost_ret (results_tmp2 rfl _ _ _) rfl ?_
      exact ⟨_, 0, A, cap, rfl, hrd, hbl.trans (hb5.mono hbl.size), .inr (⟨k0, rfl, rfl⟩)⟩
  · intro l w' hG hb
    have hd : ∀ er, resVal (envOf [tcheckC, tboundsC] (btris_cells a b c d e f g i x0 y0 z0 x1 y1 z1 x2 y2 z2)) (.one (.bool false) :: ([.agg [.int 0, .int 0, .int 0, .int 0, .int 0, .int 0, .int 0], .agg [.int 0, .int 0, .int 0], .agg [.int 0, .int 0, .int 0]] ++ l)) = .tuple #[.bool false, .agg #[.int .i64 0, .int .i64 0, .int .i64 0, .int .i64 0, .int .i64 0, .int .i64 0, .int .i64 0], .agg #[.int .i64 0, .int .i64 0, .int .i64 0], .agg #[.int .i64 0, .int .i64 0, .int .i64 0], .slice none 0 0, .int .i64 er] → resVal (envOf [tcheckC, tboundsC] (btris_cells a b c d e f g i x0 y0 z0 x1 y1 z1 x2 y2 z2)) l = .tuple #[.slice none 0 0, .int .i64 er] := by
      intro er h
      apply resVal_two
      simp only [resVal, List.cons_append, List.nil_append, List.map_cons, Value.tuple.injEq] at h
      have h' := congrArg Array.toList h
      simp only [List.cons.injEq] at h'
      exact h'.2.2.2.2
    rcases hG with ⟨k0, h⟩ | ⟨k0, h⟩
    · exact ⟨[], _, none, 0, congrArg Ending.returned (hd _ h), Reads.none_, hb, .inl ⟨k0, rfl, rfl⟩⟩
    · simp only [resVal, List.cons_append, List.nil_append, List.map_cons, Value.tuple.injEq] at h
      have h' := congrArg Array.toList h
      have h0 : Value.bool false = Value.bool true := (List.cons.inj h').1
      cases h0
end Go.Proofs.Yteneneadfpkahaa
