/- A map of ints as the library's laws on maps read it. No conditions but that it lies where it is said to lie. -/
import Derived.Test.YtdamcbpjefjolaaPt
import Derived.Lib.SlKeysI
namespace Go.Mp
open Go Go.RowKit Go.Sx
/-- Whatever a map holds reads as nothing. -/
def RN (_ : Value) : Option (DataW Unit × List MemPlace) := some (.nil, [])
theorem MapAt.owns {P : Program} {k : TypeId} (hk : P.underlying k = some (.int .i64)) {w : World} {b : Nat} {m : List (Int × Value)} (h : MapAt iv w b m) (hw : ∀ p ∈ m, (Lit.int .i64 p.1).wf = true) (hl : m.length ≤ maxLen) :
    ∃ D0 : DataW Unit, w.ownsMap P k RN b m.length D0 ∧ (intKeys D0).Perm (m.map (·.1)) ∧ Maps.size D0 = m.length := by
  obtain ⟨es, clock, hb, hs, hm⟩ := h
  have hlen : es.size = m.length := by simpa using congrArg List.length hm
  have hrd : ∀ (l : List MapEntry) (m : List (Int × Value)), l.map (fun e => (e.key, e.val)) = m.map (fun p => (iv p.1, p.2)) → (∀ p ∈ m, (Lit.int .i64 p.1).wf = true) →
      (∀ x ∈ l, ∃ y, WideElems.rd P k RN x = some y) ∧ l.map (WideElems.rg P k RN) = m.map (fun p => (Lit.int .i64 p.1, DataW.nil)) := by
    intro l
    induction l with
    | nil => intro m hm _; cases m <;> simp_all
    | cons e l ih =>
      intro m hm hw
      cases m with
      | nil => simp at hm
      | cons p m =>
        simp only [List.map_cons, List.cons.injEq, Prod.mk.injEq] at hm
        obtain ⟨i1, i2⟩ := ih m hm.2 (fun q hq => hw q (by simp [hq]))
        have hwp := hw p (by simp)
        have hr : WideElems.rd P k RN e = some (Lit.int .i64 p.1, DataW.nil) := by
          simp [WideElems.rd, hm.1.1, iv, keyOf, hk, mapKey, hwp, RN]
        refine ⟨fun x hx => ?_, ?_⟩
        · rcases List.mem_cons.1 hx with rfl | hx
          · exact ⟨_, hr⟩
          · exact i1 x hx
        · simp only [List.map_cons, i2, WideElems.rg, hr, Option.getD_some]
  obtain ⟨h1, h2⟩ := hrd _ _ hm hw
  refine ⟨_, ⟨es, clock, hb, ⟨by omega, hs, h1⟩, by omega, rfl⟩, ?_, ?_⟩
  · rw [h2]
    show (((m.map fun p => (Lit.int IntKind.i64 p.1, (DataW.nil : DataW Unit))).foldr DataW.insert []).map fun p => intOf p.1).Perm _
    refine ((WideShapes.sorted_perm _).map _).trans ?_
    rw [List.map_map]
    exact .refl _
  · simp [Maps.size, Go.length_sorted, hlen]
end Go.Mp
