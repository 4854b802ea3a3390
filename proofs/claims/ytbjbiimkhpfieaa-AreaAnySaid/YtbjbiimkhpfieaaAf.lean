/- bins.Boxes: by the executor up to the call of all, and by a walk behind it. No conditions. -/
import Derived.Test.YtbjbiimkhpfieaaSxSeg
import Derived.Test.YtbjbiimkhpfieaaAe
namespace Go.Proofs.Ytbjbiimkhpfieaa
open Go Go.RowKit Go.Sx
def zs7 : Value := .agg #[.int .i64 0, .int .i64 0, .int .i64 0, .int .i64 0, .int .i64 0, .int .i64 0, .int .i64 0]
def zs4 : Value := .agg #[.int .i64 0, .int .i64 0, .int .i64 0, .int .i64 0]
section
variable (a b c d e f g i x0 z0 x1 z1 y0 y1 ar : Int)
noncomputable def boxBad : Bool := ((((((emptyF x0 z0 x1 z1 || !((x0 == meetF0 x0 z0 x1 z1 0 0 (w64 (f - 1)) (w64 (g - 1))) && ((z0 == meetF1 x0 z0 x1 z1 0 0 (w64 (f - 1)) (w64 (g - 1))) && ((x1 == meetF2 x0 z0 x1 z1 0 0 (w64 (f - 1)) (w64 (g - 1))) && (z1 == meetF3 x0 z0 x1 z1 0 0 (w64 (f - 1)) (w64 (g - 1))))))) ||
  !((decide (y0 ≤ y1) && decide (-2048 ≤ y0)) && decide (y1 ≤ 2048))) || decide (ar < 0)) || decide (7 < ar)) || decide (i < 1)) || decide (1073741824 < i))
def boxCells : List Value := [.int .i64 a, .int .i64 b, .int .i64 c, .int .i64 d, .int .i64 e, .int .i64 f, .int .i64 g, .int .i64 i, .int .i64 x0, .int .i64 z0, .int .i64 x1, .int .i64 z1, .int .i64 y0, .int .i64 y1, .int .i64 ar]
def boxG (v : Value) : Prop :=
  ((!(checkF a b c d e f g == 0)) = true ∧ v = .tuple #[.bool false, zs7, zs4, .slice none 0 0, .int .i64 (checkF a b c d e f g)]) ∨
  ((!(checkF a b c d e f g == 0)) = false ∧ boxBad f g i x0 z0 x1 z1 y0 y1 ar = true ∧ v = .tuple #[.bool false, zs7, zs4, .slice none 0 0, .int .i64 2]) ∨
  ((!(checkF a b c d e f g == 0)) = false ∧ boxBad f g i x0 z0 x1 z1 y0 y1 ar = false ∧ v = .tuple #[.bool true, cfgv a b c d e f g, .agg #[.int .i64 x0, .int .i64 z0, .int .i64 x1, .int .i64 z1], .slice none 0 0, .int .i64 0])
def p15 : List (Option Nat × List Ty) := [(some 0, [.i, .i, .i, .i, .i, .i, .i]), (some 0, [.i, .i, .i, .i, .i, .i, .i, .i])]
def pn2 : List SV := [.agg [.int 0, .int 0, .int 0, .int 0, .int 0, .int 0, .int 0], .agg [.int 0, .int 0, .int 0, .int 0]]
def pr2 : List SV := [.one (.val (.slice none 0 0)), .one (.int 0)]
def boxNest : Prop := ((!(checkF a b c d e f g == 0)) = true → boxG a b c d e f g i x0 z0 x1 z1 y0 y1 ar (.tuple #[.bool false, zs7, zs4, .slice none 0 0, .int .i64 (checkF a b c d e f g)])) ∧ ((!(checkF a b c d e f g == 0)) = false →
    (boxBad f g i x0 z0 x1 z1 y0 y1 ar = true → boxG a b c d e f g i x0 z0 x1 z1 y0 y1 ar (.tuple #[.bool false, zs7, zs4, .slice none 0 0, .int .i64 2])) ∧
    (boxBad f g i x0 z0 x1 z1 y0 y1 ar = false → boxG a b c d e f g i x0 z0 x1 z1 y0 y1 ar (.tuple #[.bool true, cfgv a b c d e f g, .agg #[.int .i64 x0, .int .i64 z0, .int .i64 x1, .int .i64 z1], .slice none 0 0, .int .i64 0])))
def boxOk : Prop := (segRun Try.prog [checkC, emptyC, meetC] 4000 5 Try.f36 p15 [.cell 2 23, .cell 7 89] pn2 pr2).ok (envOf [checkC, emptyC, meetC] (boxCells a b c d e f g i x0 z0 x1 z1 y0 y1 ar)) (boxG a b c d e f g i x0 z0 x1 z1 y0 y1 ar)
theorem box_eq : boxOk a b c d e f g i x0 z0 x1 z1 y0 y1 ar = boxNest a b c d e f g i x0 z0 x1 z1 y0 y1 ar := by kernel_rfl
theorem box_ok : boxOk a b c d e f g i x0 z0 x1 z1 y0 y1 ar := by
  rw [box_eq]
  exact ⟨fun h => .inl ⟨h, rfl⟩, fun h => ⟨fun h2 => .inr (.inl ⟨h, h2, rfl⟩), fun h2 => .inr (.inr ⟨h, h2, rfl⟩)⟩⟩
end
theorem expand82 (t : Array Value) (h : t.size = 82) : ∃ u0 u1 u2 u3 u4 u5 u6 u7 u8 u9 u10 u11 u12 u13 u14 u15 u16 u17 u18 u19 u20 u21 u22 u23 u24 u25 u26 u27 u28 u29 u30 u31 u32 u33 u34 u35 u36 u37 u38 u39 u40 u41 u42 u43 u44 u45 u46 u47 u48 u49 u50 u51 u52 u53 u54 u55 u56 u57 u58 u59 u60 u61 u62 u63 u64 u65 u66 u67 u68 u69 u70 u71 u72 u73 u74 u75 u76 u77 u78 u79 u80 u81 : Value, t = #[u0, u1, u2, u3, u4, u5, u6, u7, u8, u9, u10, u11, u12, u13, u14, u15, u16, u17, u18, u19, u20, u21, u22, u23, u24, u25, u26, u27, u28, u29, u30, u31, u32, u33, u34, u35, u36, u37, u38, u39, u40, u41, u42, u43, u44, u45, u46, u47, u48, u49, u50, u51, u52, u53, u54, u55, u56, u57, u58, u59, u60, u61, u62, u63, u64, u65, u66, u67, u68, u69, u70, u71, u72, u73, u74, u75, u76, u77, u78, u79, u80, u81] := ⟨_, _, _, _, _, _, _, _, _, _, _, _, _, _, _, _, _, _, _, _, _, _, _, _, _, _, _, _, _, _, _, _, _, _, _, _, _, _, _, _, _, _, _, _, _, _, _, _, _, _, _, _, _, _, _, _, _, _, _, _, _, _, _, _, _, _, _, _, _, _, _, _, _, _, _, _, _, _, _, _, _, _, expand t 82 h⟩
set_option maxRecDepth 100000 in
set_option maxHeartbeats 1000000 in
theorem boxes_any (a b c d e f g i x0 z0 x1 z1 y0 y1 ar : Int) (w : World) (T : Int → Bool) (hT : T = fun i => touchF a b c d e f g i x0 z0 x1 z1) (N : Nat) (hN : countF a b c d e f g = N) (hN16 : N ≤ 16) :
    Calls Try.prog 36 #[cfgv a b c d e f g, .agg #[.int .i64 i, .int .i64 x0, .int .i64 z0, .int .i64 x1, .int .i64 z1, .int .i64 y0, .int .i64 y1, .int .i64 ar]] w fun en w' =>
      ∃ L er A cap, en = .returned (.tuple #[.slice A L.length cap, .int .i64 er]) ∧ Reads w' w'.heap.size 1 A L.length (ics L) ∧ Below w.heap.size w w' ∧
        ((checkF a b c d e f g ≠ 0 ∧ L = [] ∧ er = checkF a b c d e f g) ∨ (checkF a b c d e f g = 0 ∧ boxBad f g i x0 z0 x1 z1 y0 y1 ar = true ∧ L = [] ∧ er = 2) ∨ (checkF a b c d e f g = 0 ∧ boxBad f g i x0 z0 x1 z1 y0 y1 ar = false ∧ L = hits T N ∧ er = 0)) := by
  refine calls_seg (P := Try.prog) (cons_holds checkC_holds (cons_holds emptyC_holds (cons_holds meetC_holds nil_holds))) 4000 5 Try.func36 rfl p15 [.cell 2 23, .cell 7 89] pn2 pr2 rfl (boxCells a b c d e f g i x0 z0 x1 z1 y0 y1 ar)
    ⟨a, _, rfl, b, _, rfl, c, _, rfl, d, _, rfl, e, _, rfl, f, _, rfl, g, _, rfl, i, _, rfl, x0, _, rfl, z0, _, rfl, x1, _, rfl, z1, _, rfl, y0, _, rfl, y1, _, rfl, ar, _, rfl, rfl⟩ _ (box_ok a b c d e f g i x0 z0 x1 z1 y0 y1 ar) w _ ?_ ?_
  · intro β st l av w' hsz hdf hl hG hi
    obtain ⟨v1, v2, r1, r2, rfl⟩ := results_two hl
    rcases hG with ⟨_, h⟩ | ⟨_, _, h⟩ | ⟨hk, hbad, h⟩
    · simp only [resVal, List.cons_append, List.nil_append, List.map_cons, Value.tuple.injEq] at h
      have h' := congrArg Array.toList h
      have h0 : Value.bool true = Value.bool false := (List.cons.inj h').1
      cases h0
    · simp only [resVal, List.cons_append, List.nil_append, List.map_cons, Value.tuple.injEq] at h
      have h' := congrArg Array.toList h
      have h0 : Value.bool true = Value.bool false := (List.cons.inj h').1
      cases h0
    · have hd : v1.den (envOf [checkC, emptyC, meetC] (boxCells a b c d e f g i x0 z0 x1 z1 y0 y1 ar)) = cfgv a b c d e f g ∧ v2.den (envOf [checkC, emptyC, meetC] (boxCells a b c d e f g i x0 z0 x1 z1 y0 y1 ar)) = .agg #[.int .i64 x0, .int .i64 z0, .int .i64 x1, .int .i64 z1] := by
        simp only [resVal, List.cons_append, List.nil_append, List.map_cons, Value.tuple.injEq] at h
        have h' := congrArg Array.toList h
        simp only [List.cons.injEq] at h'
        exact ⟨h'.2.1, h'.2.2.1⟩
      obtain ⟨b1, o1, g1, _, l1, c1⟩ := cell_facts2 hi r1 (us := [.int .i64 a, .int .i64 b, .int .i64 c, .int .i64 d, .int .i64 e, .int .i64 f, .int .i64 g]) hd.1
      obtain ⟨b2, o2, g2, _, l2, c2⟩ := cell_facts2 hi r2 (us := [.int .i64 x0, .int .i64 z0, .int .i64 x1, .int .i64 z1]) hd.2
      have c10 : w'.cell? ⟨b1, o1, none⟩ = _ := c1 0 _ rfl
      have c11 := c1 1 _ rfl
      have c12 := c1 2 _ rfl
      have c13 := c1 3 _ rfl
      have c14 := c1 4 _ rfl
      have c15 := c1 5 _ rfl
      have c16 := c1 6 _ rfl
      have c20 : w'.cell? ⟨b2, o2, none⟩ = _ := c2 0 _ rfl
      have c21 := c2 1 _ rfl
      have c22 := c2 2 _ rfl
      have c23 := c2 3 _ rfl
      have hbl := hi.below
      have h4 := fun w => all_any a b c d e f g x0 z0 x1 z1 T hT N hN hN16 w
      unfold cfgv at h4
      have hck : checkF a b c d e f g = 0 := by simpa using hk
      clear hi hd h hl r1 r2 c1 c2 hT
      obtain ⟨tm, df⟩ := av
      obtain rfl : df = [] := hdf
      obtain ⟨u0, u1, u2, u3, u4, u5, u6, u7, u8, u9, u10, u11, u12, u13, u14, u15, u16, u17, u18, u19, u20, u21, u22, u23, u24, u25, u26, u27, u28, u29, u30, u31, u32, u33, u34, u35, u36, u37, u38, u39, u40, u41, u42, u43, u44, u45, u46, u47, u48, u49, u50, u51, u52, u53, u54, u55, u56, u57, u58, u59, u60, u61, u62, u63, u64, u65, u66, u67, u68, u69, u70, u71, u72, u73, u74, u75, u76, u77, u78, u79, u80, u81, rfl⟩ := expand82 tm hsz
      obtain rfl : u2 = .pointer (some ⟨b1, o1, none⟩) := g1
      obtain rfl : u7 = .pointer (some ⟨b2, o2, none⟩) := g2
      simp only [cut, Try.f36, Option.getD]
      go_wp2_with (go_at_call 45; refine (h4 _).mono ?_; rintro en w5 ⟨A, cap, rfl, hrd, hb5⟩)
      refine bodyPost_ret (results_tmp2 rfl _ _ _) rfl ?_
      exact ⟨hits T N, 0, A, cap, rfl, hrd, hbl.trans (hb5.mono hbl.size), .inr (.inr ⟨hck, hbad, rfl, rfl⟩)⟩
  · intro l w' hG hb
    have hd : ∀ er, resVal (envOf [checkC, emptyC, meetC] (boxCells a b c d e f g i x0 z0 x1 z1 y0 y1 ar)) (.one (.bool false) :: (pn2 ++ l)) = .tuple #[.bool false, zs7, zs4, .slice none 0 0, .int .i64 er] → resVal (envOf [checkC, emptyC, meetC] (boxCells a b c d e f g i x0 z0 x1 z1 y0 y1 ar)) l = .tuple #[.slice none 0 0, .int .i64 er] := by
      intro er h
      apply resVal_two
      simp only [resVal, pn2, List.cons_append, List.nil_append, List.map_cons, Value.tuple.injEq] at h
      have h' := congrArg Array.toList h
      simp only [List.cons.injEq] at h'
      exact h'.2.2.2
    rcases hG with ⟨hk, h⟩ | ⟨hk, hbad, h⟩ | ⟨hk, hbad, h⟩
    · exact ⟨[], _, none, 0, congrArg Ending.returned (hd _ h), Reads.none_, hb, .inl ⟨by simpa using hk, rfl, rfl⟩⟩
    · exact ⟨[], _, none, 0, congrArg Ending.returned (hd _ h), Reads.none_, hb, .inr (.inl ⟨by simpa using hk, hbad, rfl, rfl⟩)⟩
    · simp only [resVal, pn2, List.cons_append, List.nil_append, List.map_cons, Value.tuple.injEq] at h
      have h' := congrArg Array.toList h
      have h0 : Value.bool false = Value.bool true := (List.cons.inj h').1
      cases h0
end Go.Proofs.Ytbjbiimkhpfieaa
