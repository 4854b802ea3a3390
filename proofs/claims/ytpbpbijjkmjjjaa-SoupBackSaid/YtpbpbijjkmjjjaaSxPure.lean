/- The symbolic executor: operations that leave the world alone are told rightly. No conditions. -/
import Derived.Test.YtpbpbijjkmjjjaaSxDefs
import Derived.Laws.CopyRow
import Derived.Laws.StructEq
import Derived.ChangeKeysEq
namespace Go.Sx
open Go Go.RowKit
variable {ρ : Env}

theorem oc_one (v : Value) : (oc v).oneCell' = true := by cases v <;> rfl
theorem oc_of_one {v : Value} (h : v.oneCell' = true) : oc v = v := by cases v <;> first | rfl | simp [Value.oneCell'] at h
theorem cells_of_one {v : Value} (h : v.oneCell' = true) : v.cells = #[v] := by cases v <;> first | rfl | simp [Value.oneCell'] at h

section dens
variable (x y c : E) (n j f : Nat)
@[simp] theorem den_ati : (E.atom .i n).den ρ = .int .i64 (ρ.i n) := rfl
@[simp] theorem den_atb : (E.atom .b n).den ρ = .bool (ρ.b n) := rfl
@[simp] theorem den_atv : (E.atom .v n).den ρ = oc (ρ.v n) := rfl
@[simp] theorem den_int (m : Int) : (E.int m).den ρ = .int .i64 m := rfl
@[simp] theorem den_bool (b : Bool) : (E.bool b).den ρ = .bool b := rfl
@[simp] theorem den_val (v : Value) : (E.val v).den ρ = oc v := rfl
@[simp] theorem den_add : (E.add x y).den ρ = .int .i64 (w64 (intOf (x.den ρ) + intOf (y.den ρ))) := rfl
@[simp] theorem den_sub : (E.sub x y).den ρ = .int .i64 (w64 (intOf (x.den ρ) - intOf (y.den ρ))) := rfl
@[simp] theorem den_mul : (E.mul x y).den ρ = .int .i64 (w64 (intOf (x.den ρ) * intOf (y.den ρ))) := rfl
@[simp] theorem den_quo : (E.quo x y).den ρ = .int .i64 (w64 ((intOf (x.den ρ)).tdiv (intOf (y.den ρ)))) := rfl
@[simp] theorem den_rem : (E.rem x y).den ρ = .int .i64 ((intOf (x.den ρ)).tmod (intOf (y.den ρ))) := rfl
@[simp] theorem den_mx : (E.mx x y).den ρ = .int .i64 (max (intOf (x.den ρ)) (intOf (y.den ρ))) := rfl
@[simp] theorem den_mn : (E.mn x y).den ρ = .int .i64 (min (intOf (x.den ρ)) (intOf (y.den ρ))) := rfl
@[simp] theorem den_lt : (E.lt x y).den ρ = .bool (decide (intOf (x.den ρ) < intOf (y.den ρ))) := rfl
@[simp] theorem den_le : (E.le x y).den ρ = .bool (decide (intOf (x.den ρ) ≤ intOf (y.den ρ))) := rfl
@[simp] theorem den_eq : (E.eq x y).den ρ = .bool (intOf (x.den ρ) == intOf (y.den ρ)) := rfl
@[simp] theorem den_beq : (E.beq x y).den ρ = .bool (boolOf (x.den ρ) == boolOf (y.den ρ)) := rfl
@[simp] theorem den_not : (E.not x).den ρ = .bool (!boolOf (x.den ρ)) := rfl
@[simp] theorem den_and : (E.and x y).den ρ = .bool (boolOf (x.den ρ) && boolOf (y.den ρ)) := rfl
@[simp] theorem den_or : (E.or x y).den ρ = .bool (boolOf (x.den ρ) || boolOf (y.den ρ)) := rfl
@[simp] theorem den_itei : (E.ite .i c x y).den ρ = .int .i64 (if boolOf (c.den ρ) = true then intOf (x.den ρ) else intOf (y.den ρ)) := rfl
@[simp] theorem den_iteb : (E.ite .b c x y).den ρ = .bool (if boolOf (c.den ρ) = true then boolOf (x.den ρ) else boolOf (y.den ρ)) := rfl
@[simp] theorem den_itev : (E.ite .v c x y).den ρ = if boolOf (c.den ρ) = true then x.den ρ else y.den ρ := rfl
@[simp] theorem den_app (t : Ty) : (E.app t f j x).den ρ = appVal ρ.fns t f j (x.lst ρ) := rfl
@[simp] theorem lst_nil : E.nil.lst ρ = [] := rfl
@[simp] theorem lst_cons : (E.cons x y).lst ρ = x.den ρ :: y.lst ρ := rfl
@[simp] theorem intOf_int (k : IntKind) (m : Int) : intOf (.int k m) = m := rfl
@[simp] theorem boolOf_bool (b : Bool) : boolOf (.bool b) = b := rfl
end dens

theorem den_one (e : E) : (e.den ρ).oneCell' = true := by
  induction e with
  | atom t n => cases t <;> first | rfl | exact oc_one _
  | val v => exact oc_one _
  | ite t c x y _ ih1 ih2 =>
    cases t <;> first | rfl | skip
    rw [den_itev]; split <;> assumption
  | app t f j args =>
    rw [den_app]; unfold appVal
    cases findCon ρ.fns f <;> cases t <;> first | rfl | exact oc_one _
  | get t n sz off i => cases t <;> first | rfl | exact oc_one _
  | _ => rfl

theorem den_i {e : E} (h : e.ty = .i) : e.den ρ = .int .i64 (intOf (e.den ρ)) := by
  cases e <;> simp only [E.ty] at h <;> first | rfl | (cases h; done) | (subst h; first | rfl | skip) | skip
  rw [den_app]; unfold appVal
  cases findCon ρ.fns _ <;> rfl
theorem den_b {e : E} (h : e.ty = .b) : e.den ρ = .bool (boolOf (e.den ρ)) := by
  cases e <;> simp only [E.ty] at h <;> first | rfl | (cases h; done) | (subst h; first | rfl | skip) | skip
  rw [den_app]; unfold appVal
  cases findCon ρ.fns _ <;> rfl

@[simp] theorem den_mkAdd (x y : E) : (mkAdd x y).den ρ = .int .i64 (w64 (intOf (x.den ρ) + intOf (y.den ρ))) := by unfold mkAdd; split <;> rfl
@[simp] theorem den_mkSub (x y : E) : (mkSub x y).den ρ = .int .i64 (w64 (intOf (x.den ρ) - intOf (y.den ρ))) := by unfold mkSub; split <;> rfl
@[simp] theorem den_mkMul (x y : E) : (mkMul x y).den ρ = .int .i64 (w64 (intOf (x.den ρ) * intOf (y.den ρ))) := by unfold mkMul; split <;> rfl
@[simp] theorem den_mkQuo (x y : E) : (mkQuo x y).den ρ = .int .i64 (w64 ((intOf (x.den ρ)).tdiv (intOf (y.den ρ)))) := by unfold mkQuo; split <;> rfl
@[simp] theorem den_mkRem (x y : E) : (mkRem x y).den ρ = .int .i64 ((intOf (x.den ρ)).tmod (intOf (y.den ρ))) := by unfold mkRem; split <;> rfl
@[simp] theorem den_mkLt (x y : E) : (mkLt x y).den ρ = .bool (decide (intOf (x.den ρ) < intOf (y.den ρ))) := by unfold mkLt; split <;> rfl
@[simp] theorem den_mkLe (x y : E) : (mkLe x y).den ρ = .bool (decide (intOf (x.den ρ) ≤ intOf (y.den ρ))) := by unfold mkLe; split <;> rfl
@[simp] theorem den_mkEq (x y : E) : (mkEq x y).den ρ = .bool (intOf (x.den ρ) == intOf (y.den ρ)) := by unfold mkEq; split <;> rfl
@[simp] theorem den_mkBeq (x y : E) : (mkBeq x y).den ρ = .bool (boolOf (x.den ρ) == boolOf (y.den ρ)) := by unfold mkBeq; split <;> rfl
@[simp] theorem den_mkNot (x : E) : (mkNot x).den ρ = .bool (!boolOf (x.den ρ)) := by
  unfold mkNot
  split
  · rfl
  · split
    · rename_i x h
      rw [den_b (Ty.same_eq h)]; simp
    · rfl
  · rfl
@[simp] theorem den_mkAnd (x y : E) : (mkAnd x y).den ρ = .bool (boolOf (x.den ρ) && boolOf (y.den ρ)) := by
  unfold mkAnd
  split
  · split
    · rename_i h; rw [den_b (Ty.same_eq h)]; simp
    · rfl
  · simp
  · split
    · rename_i h; rw [den_b (Ty.same_eq h)]; simp
    · rfl
  · rfl
@[simp] theorem den_mkOr (x y : E) : (mkOr x y).den ρ = .bool (boolOf (x.den ρ) || boolOf (y.den ρ)) := by
  unfold mkOr
  split
  · simp
  · split
    · rename_i h; rw [den_b (Ty.same_eq h)]; simp
    · rfl
  · split
    · rename_i h; rw [den_b (Ty.same_eq h)]; simp
    · rfl
  · rfl
theorem den_mkIte (t : Ty) (c x y : E) (hx : x.ty = t) (hy : y.ty = t) : (mkIte t c x y).den ρ = if boolOf (c.den ρ) = true then x.den ρ else y.den ρ := by
  cases t
  · have e : (mkIte .i c x y) = .ite .i c x y := rfl
    rw [e, den_itei, den_i hx, den_i hy]; split <;> simp
  · unfold mkIte
    rw [den_b hx, den_b hy]
    dsimp only
    split
    · rw [den_mkOr]; cases boolOf (c.den ρ) <;> simp
    · rw [den_mkAnd]; cases boolOf (c.den ρ) <;> simp
    · rw [den_iteb]; cases boolOf (c.den ρ) <;> simp
  · rfl

theorem cstE_den {v : Value} {e : E} (h : cstE v = some e) : e.den ρ = v := by
  unfold cstE at h
  split at h <;> first | (injection h with h; subst h; first | rfl | skip) | (cases h; done)
  rename_i h1 h2
  rw [den_val]
  apply oc_of_one
  cases v <;> first | rfl | (exact absurd rfl (h1 _)) | (exact absurd rfl (h2 _))

theorem mapM_cst {ρ : Env} : ∀ {l : List Value} {es : List E}, l.mapM cstE = some es → es.map (E.den ρ) = l
  | [], es, h => by simp at h; subst h; rfl
  | v :: l, es, h => by
    simp only [List.mapM_cons] at h
    cases hv : cstE v with
    | none => simp [hv] at h
    | some e =>
      cases hl : l.mapM cstE with
      | none => simp [hv, hl] at h
      | some r =>
        simp [hv, hl] at h
        subst h
        simp [cstE_den hv, mapM_cst hl]

theorem cstS_den {v : Value} {x : S0} {β : Nat → Nat} (h : cstS v = some x) : x.den ρ β = v := by
  unfold cstS at h
  split at h
  · rename_i l
    cases hm : l.toList.mapM cstE with
    | none => simp [hm] at h
    | some es =>
      simp [hm] at h
      subst h
      simp [S0.den, SV.den, mapM_cst hm]
  · cases h
  · rename_i h1 h2
    cases hm : cstE v with
    | none => simp [hm] at h
    | some e =>
      simp [hm] at h
      subst h
      simpa [S0.den, SV.den] using cstE_den hm

/-! ## A state and a frame -/
def S0.low (A : Nat → Prop) : S0 → Prop
  | .ptr b _ => A b
  | .clo _ l => ∀ p ∈ l, A p.1
  | _ => True

def slotOk (ρ : Env) (β : Nat → Nat) (A : Nat → Prop) (tm : Array Value) : Sl → Value → Prop
  | .dead, _ => True
  | .full x, v => v = x.den ρ β ∧ x.low A
  | .may t w x, v => x.low A ∧ (tm.getD t undef = .bool w → v = x.den ρ β)

structure FitsA (ρ : Env) (β : Nat → Nat) (A : Nat → Prop) (st : St) (tm : Array Value) : Prop where
  size : tm.size = st.tmps.length
  slot : ∀ i s, st.tmps[i]? = some s → slotOk ρ β A tm s (tm.getD i undef)
abbrev Fits (ρ : Env) (β : Nat → Nat) (st : St) (tm : Array Value) : Prop := FitsA ρ β (· < st.mem.length) st tm

def MemAt (ρ : Env) (β : Nat → Nat) (mem : List (List E × Nat)) (w : World) (k : Nat) : Prop :=
  ∀ c T, mem[k]? = some (c, T) → w.heap[β k]? = some (.cells (c.map (E.den ρ)).toArray T (0, 0))
def MemOk (ρ : Env) (β : Nat → Nat) (mem : List (List E × Nat)) (w : World) : Prop := ∀ k, MemAt ρ β mem w k

/-- A guard holds. -/
def gOk (tm : Array Value) : Option (Nat × Bool) → Prop
  | none => True
  | some (t, w) => tm.getD t undef = .bool w

theorem geq_ok {t : Nat} {w : Bool} {g : Option (Nat × Bool)} {tm : Array Value} (h : geq t w g = true) (hg : gOk tm g) : tm.getD t undef = .bool w := by
  cases g with
  | none => simp [geq] at h
  | some p =>
    obtain ⟨t', w'⟩ := p
    simp only [geq, Bool.and_eq_true, beq_iff_eq] at h
    obtain ⟨h1, rfl⟩ := h
    have := Nat.eq_of_beq_eq_true h1
    subst this
    exact hg

theorem opnd_ok {β : Nat → Nat} {A : Nat → Prop} {st : St} {a : Act} {g h : Option (Nat × Bool)} {x : Operand} {s : S0} (hf : FitsA ρ β A st a.tmps) (ho : opnd st g h x = some s)
    (hg : gOk a.tmps g) (hh : gOk a.tmps h) : a.eval x = s.den ρ β ∧ s.low A := by
  unfold opnd at ho
  split at ho
  · rename_i t
    split at ho
    · rename_i x hx
      injection ho with ho; subst ho
      exact hf.slot _ _ hx
    · rename_i t' w x hx
      split at ho
      · rename_i hc
        injection ho with ho; subst ho
        obtain ⟨h1, h2⟩ := hf.slot _ _ hx
        refine ⟨h2 ?_, h1⟩
        rw [Bool.or_eq_true] at hc
        rcases hc with hc | hc
        · exact geq_ok hc hg
        · exact geq_ok hc hh
      · cases ho
    · cases ho
  · refine ⟨(cstS_den ho).symm, ?_⟩
    unfold cstS at ho
    split at ho
    · rw [Option.map_eq_some_iff] at ho
      obtain ⟨_, _, rfl⟩ := ho; trivial
    · cases ho
    · rw [Option.map_eq_some_iff] at ho
      obtain ⟨_, _, rfl⟩ := ho; trivial
  · injection ho with ho; subst ho
    exact ⟨rfl, fun p hp => by cases hp⟩
  · cases ho

theorem isAgg_run {P : Program} {t : TypeId} {d : TypeDesc} (h : P.underlying t = some d) (w : World) : (isAgg t).run P w = .ok (isAggD d) w := by
  simp only [isAgg, Sem.run_bind, run_underlying h, Result.andThen_ok]
  cases d <;> rfl
theorem sizeOf_run {P : Program} {t : TypeId} {i : TypeInfo} (h : P.info? t = some i) (w : World) : (sizeOf t).run P w = .ok i.size w := by
  simp [sizeOf, typeInfo, h]
theorem zeroValue_run {P : Program} {t : TypeId} {i : TypeInfo} {z : Value} (h : P.info? t = some i) (hz : i.zero = some z) (w : World) : (zeroValue t).run P w = .ok z w := by
  simp [zeroValue, typeInfo, h, hz]

/-- A part of an aggregate. -/
theorem part_run {P : Program} {t : TypeId} {cells : List E} {off : Nat} {v : SV} (h : partE P t cells off = some v) (w : World) :
    (part t (cells.map (E.den ρ)).toArray off).run P w = .ok (v.den ρ) w := by
  unfold partE at h
  split at h
  · rename_i d inf hd hi
    simp only [part, Sem.run_bind, isAgg_run hd, Result.andThen_ok]
    split at h
    · rename_i hag
      split at h
      · injection h with h; subst h
        simp only [hag, if_true, Sem.run_bind, sizeOf_run hi, Result.andThen_ok, Sem.run_pure, SV.den]
        congr 2
        simp only [List.extract_toArray, List.extract_eq_take_drop, Nat.add_sub_cancel_left, List.map_take, List.map_drop]
      · cases h
    · rename_i hag
      have hag' : isAggD d = false := by simpa using hag
      cases hc : cells[off]? with
      | none => simp [hc] at h
      | some e =>
        simp [hc] at h; subst h
        simp [hag', hc, SV.den]
  · cases h

theorem loadVar_run {P : Program} {β : Nat → Nat} {t : TypeId} {mem : List (List E × Nat)} {b o T : Nat} {cells : List E} {v : SV} {w : World} (hm : MemAt ρ β mem w b) (hb : mem[b]? = some (cells, T))
    (h : partE P t cells o = some v) : (loadVar t ⟨β b, o, none⟩).run P w = .ok (v.den ρ) w := by
  have hh := hm cells T hb
  have hcell : ∀ j u, cells[o + j]? = some u → w.cell? ((⟨β b, o, none⟩ : Addr).add j) = some (u.den ρ) := by
    intro j u hu
    have : (⟨β b, o, none⟩ : Addr).add j = ⟨β b, o + j, none⟩ := by unfold Addr.add; split <;> simp_all
    rw [this]
    simp [World.cell?, hh, hu]
  unfold partE at h
  split at h
  · rename_i d inf hd hi
    simp only [loadVar, Sem.run_bind, isAgg_run hd, Result.andThen_ok]
    split at h
    · rename_i hag
      split at h
      · rename_i hle
        injection h with h; subst h
        simp only [hag, if_true, Sem.run_bind, sizeOf_run hi, Result.andThen_ok, SV.den]
        have hle' : o + inf.size ≤ cells.length := Nat.le_of_ble_eq_true hle
        have hlen : ((cells.drop o).take inf.size).length = inf.size := by simp; omega
        have := run_loadCells_list (P := P) w ⟨β b, o, none⟩ (((cells.drop o).take inf.size).map (E.den ρ)) (by
          intro j v hv
          simp only [List.getElem?_map, Option.map_eq_some_iff] at hv
          obtain ⟨u, hu, rfl⟩ := hv
          rw [List.getElem?_take] at hu
          split at hu
          · rw [List.getElem?_drop] at hu
            exact hcell j u hu
          · cases hu)
        rw [List.length_map, hlen] at this
        rw [this]
        simp
      · cases h
    · rename_i hag
      have hag' : isAggD d = false := by simpa using hag
      cases hc : cells[o]? with
      | none => simp [hc] at h
      | some e =>
        simp [hc] at h; subst h
        have := hcell 0 e (by simpa using hc)
        simp only [Addr.add, if_true] at this
        simp [hag', SV.den, this]
  · cases h

theorem addr_add (b o n : Nat) : (⟨b, o, none⟩ : Addr).add n = ⟨b, o + n, none⟩ := by unfold Addr.add; split <;> simp_all
end Go.Sx
