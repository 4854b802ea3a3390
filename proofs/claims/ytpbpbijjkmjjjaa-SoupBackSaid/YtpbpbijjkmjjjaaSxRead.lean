/- The symbolic executor: reads of slices that came in. No conditions. -/
import Derived.Test.YtpbpbijjkmjjjaaSxCall
namespace Go.Sx
open Go Go.RowKit
variable {ρ : Env} {P : Program}

/-- The slice v lies below block B, and holds the cells xs, each element of these kinds. -/
def InVal (B : Nat) (w : World) (v : Value) (xs : List Value) (tys : List Ty) : Prop :=
  ∃ (A : Option Addr) (len c : Nat), v = .slice A len c ∧ xs.length = len * tys.length ∧
    (0 < len → ∃ ad, A = some ad ∧ ad.block < B ∧ ∀ j u, xs[j]? = some u → w.cell? (ad.add j) = some u) ∧
    ∀ k, k < len → typed tys ((xs.drop (k * tys.length)).take tys.length)
/-- So does the slice number s.n, as the environment says. -/
def InAt (P : Program) (B : Nat) (ρ : Env) (w : World) (s : InS) : Prop :=
  match s.loc with
  | none => InVal B w (ρ.v s.n) (ρ.sl s.n) s.tys
  | some (f, args, res) => ∀ (β : Nat → Nat) (w' : World), Below B w w' → B ≤ w'.heap.size → Calls P f (args.map (SV.den ρ)).toArray w' fun e w2 => e = .returned (res.den ρ β) ∧ Below w'.heap.size w' w2
theorem add_add' (a : Addr) (i j : Nat) : (a.add i).add j = a.add (i + j) := by
  unfold Addr.add
  by_cases hi : i = 0 <;> by_cases hj : j = 0 <;> simp [hi, hj, Nat.add_assoc]
theorem InVal.below {B : Nat} {w w' : World} {v : Value} {xs : List Value} {tys : List Ty} (h : InVal B w v xs tys) (hb : Below B w w') : InVal B w' v xs tys := by
  obtain ⟨A, len, c, h1, h2, h3, h4⟩ := h
  refine ⟨A, len, c, h1, h2, fun h0 => ?_, h4⟩
  obtain ⟨ad, ha, hbl, hc⟩ := h3 h0
  refine ⟨ad, ha, hbl, fun j u hu => ?_⟩
  rw [hb.cell (by unfold Addr.add; split <;> exact hbl)]
  exact hc j u hu
theorem InAt.below {B : Nat} {w w' : World} {s : InS} (h : InAt P B ρ w s) (hb : Below B w w') : InAt P B ρ w' s := by
  cases hl : s.loc with
  | none =>
    simp only [InAt, hl] at *
    exact InVal.below h hb
  | some p =>
    obtain ⟨f, args, res⟩ := p
    simp only [InAt, hl] at *
    exact fun β w2 hb2 hs => h β w2 (hb.trans hb2) hs

theorem findIn_ok : ∀ {l : List InS} {n : Nat} {s : InS}, findIn l n = some s → s.n = n ∧ s.loc = none ∧ s ∈ l
  | [], _, _, h => by simp [findIn] at h
  | x :: l, n, s, h => by
    simp only [findIn] at h
    split at h
    · rename_i hc
      injection h with h; subst h
      rw [Bool.and_eq_true] at hc
      exact ⟨Nat.eq_of_beq_eq_true hc.1, by simpa using hc.2, by simp⟩
    · obtain ⟨h1, h2, h3⟩ := findIn_ok h
      exact ⟨h1, h2, by simp [h3]⟩

theorem typed_cons {t : Ty} {ts : List Ty} {cs : List Value} (h : typed (t :: ts) cs) : ∃ v r, cs = v :: r ∧ typed [t] [v] ∧ typed ts r ∧ v.oneCell' = true := by
  cases t with
  | i => obtain ⟨n, r, rfl, hr⟩ := h; exact ⟨_, r, rfl, ⟨n, [], rfl, rfl⟩, hr, rfl⟩
  | b => obtain ⟨n, r, rfl, hr⟩ := h; exact ⟨_, r, rfl, ⟨n, [], rfl, rfl⟩, hr, rfl⟩
  | v => obtain ⟨n, r, rfl, h1, hr⟩ := h; exact ⟨_, r, rfl, ⟨n, [], rfl, h1, rfl⟩, hr, h1⟩
theorem typed_drop : ∀ (o : Nat) {ts : List Ty} {cs : List Value}, typed ts cs → typed (ts.drop o) (cs.drop o)
  | 0, _, _, h => by simpa using h
  | o + 1, [], cs, h => by
    have : cs = [] := h
    subst this; simp [typed]
  | o + 1, t :: ts, cs, h => by
    obtain ⟨v, r, rfl, _, hr, _⟩ := typed_cons h
    simpa using typed_drop o hr
theorem typed_take : ∀ (k : Nat) {ts : List Ty} {cs : List Value}, typed ts cs → typed (ts.take k) (cs.take k)
  | 0, _, _, _ => by simp [typed]
  | k + 1, [], cs, h => by
    have : cs = [] := h
    subst this; simp [typed]
  | k + 1, t :: ts, cs, h => by
    obtain ⟨v, r, rfl, h1, hr, ho⟩ := typed_cons h
    have := typed_take k hr
    cases t with
    | i => obtain ⟨n, _, hv, _⟩ := h1; injection hv with hv; subst hv; exact ⟨n, _, by simp, this⟩
    | b => obtain ⟨n, _, hv, _⟩ := h1; injection hv with hv; subst hv; exact ⟨n, _, by simp, this⟩
    | v => exact ⟨v, _, by simp, ho, this⟩
theorem get_den {t : Ty} {n sz off : Nat} {e : E} {u : Value} (h : (ρ.sl n)[(intOf (e.den ρ)).toNat * sz + off]? = some u) (ht : typed [t] [u]) : (E.get t n sz off e).den ρ = u := by
  have hg : (ρ.sl n).getD ((intOf (e.den ρ)).toNat * sz + off) .nilIface = u := by simp [List.getD_eq_getElem?_getD, h]
  cases t with
  | i =>
    obtain ⟨m, _, hv, _⟩ := ht
    injection hv with hv
    show Value.int .i64 (intOf ((ρ.sl n).getD ((intOf (e.den ρ)).toNat * sz + off) .nilIface)) = u
    rw [hg, hv]; rfl
  | b =>
    obtain ⟨m, _, hv, _⟩ := ht
    injection hv with hv
    show Value.bool (boolOf ((ρ.sl n).getD ((intOf (e.den ρ)).toNat * sz + off) .nilIface)) = u
    rw [hg, hv]; rfl
  | v =>
    obtain ⟨m, _, hv, h1, _⟩ := ht
    injection hv with hv
    show oc ((ρ.sl n).getD ((intOf (e.den ρ)).toNat * sz + off) .nilIface) = u
    rw [hg, hv, oc_of_one h1]
theorem getCells_den {n sz : Nat} {e : E} : ∀ (ts : List Ty) (off : Nat) (cs : List Value), typed ts cs → (∀ j u, cs[j]? = some u → (ρ.sl n)[(intOf (e.den ρ)).toNat * sz + off + j]? = some u) → (getCells n sz e off ts).map (E.den ρ) = cs
  | [], off, cs, h, _ => by
    have : cs = [] := h
    subst this; rfl
  | t :: ts, off, cs, h, hc => by
    obtain ⟨v, r, rfl, h1, hr, _⟩ := typed_cons h
    simp only [getCells, List.map_cons]
    rw [get_den (by simpa using hc 0 v rfl) h1, getCells_den ts (off + 1) r hr (fun j u hu => by
      have := hc (j + 1) u (by simpa using hu)
      rwa [show (intOf (e.den ρ)).toNat * sz + off + (j + 1) = (intOf (e.den ρ)).toNat * sz + (off + 1) + j by omega] at this)]

theorem readOp_ok {B : Nat} {β : Nat → Nat} {A : Nat → Prop} {st : St} {a : Act} {w : World} {o : Oper} {x : S0} {needs : List E} (hf : FitsA ρ β A st a.tmps) (hin : ∀ s ∈ st.ins, InAt P B ρ w s)
    (h : readOp P st o.op = some (x, needs)) (hn : ∀ c ∈ needs, boolOf (c.den ρ) = true) : (execOp a.eval o).run P w = .ok (.value (x.den ρ β)) w ∧ ∀ N, x.low N := by
  have bounds : ∀ {n sz : Nat} {e : E} {len : Nat}, sz ≠ 0 → (ρ.sl n).length = len * sz → (∀ c ∈ ([.le (.int 0) e, .lt e (.len n sz)] : List E), boolOf (c.den ρ) = true) → 0 ≤ intOf (e.den ρ) ∧ intOf (e.den ρ) < len := by
    intro n sz e len hsz hl hc
    have c1 := hc (.le (.int 0) e) (by simp)
    have c2 := hc (.lt e (.len n sz)) (by simp)
    have e2 : (E.len n sz).den ρ = .int .i64 (((ρ.sl n).length / sz : Nat) : Int) := rfl
    rw [den_le, boolOf_bool, decide_eq_true_eq, den_int, intOf_int] at c1
    rw [den_lt, boolOf_bool, decide_eq_true_eq, e2, intOf_int, hl, Nat.mul_div_cancel _ (by omega)] at c2
    exact ⟨c1, c2⟩
  unfold readOp at h
  unfold execOp
  split at h
  · rename_i t y i hop
    simp only [hop]
    split at h
    · rename_i n e T hy hi hu
      split at h
      · rename_i s inf hs hinf
        split at h
        · rename_i hc
          simp only [Bool.and_eq_true, Bool.not_eq_true'] at hc
          obtain ⟨⟨⟨c1, c2⟩, c3⟩, c4⟩ := hc
          have c2 := Nat.eq_of_beq_eq_true c2
          have c3 := Nat.eq_of_beq_eq_true c3
          have c4 : s.tys.length ≠ 0 := fun e => by rw [e] at c4; cases c4
          simp only [Option.some.injEq, Prod.mk.injEq] at h
          obtain ⟨rfl, rfl⟩ := h
          obtain ⟨hsn, hsl, hsm⟩ := findIn_ok hs
          have hat := hin s hsm
          unfold InAt at hat
          rw [hsl] at hat
          obtain ⟨Ad, len, cp, h1, h2, h3, _⟩ := hat
          rw [hsn] at h1 h2
          obtain ⟨b0, b1⟩ := bounds c4 h2 hn
          obtain ⟨ad, rfl, _, _⟩ := h3 (by omega)
          have hyv : a.eval y = .slice (some ad) len cp := by
            rw [(opnd_ok hf hy (g := none) (h := none) trivial trivial).1]
            show oc (ρ.v n) = _
            rw [h1]; rfl
          have hiv : a.eval i = .int .i64 (intOf (e.den ρ)) := by
            rw [(opnd_ok hf hi (g := none) (h := none) trivial trivial).1]
            exact den_i (Ty.same_eq c1)
          have hel : P.elem t = T := by simp [Program.elem, hu]
          refine ⟨?_, fun _ => trivial⟩
          simp only [hyv, hiv, Sem.run_bind]
          rw [run_indexAt_slice w t ad len cp _ _ (by rw [hel]; exact hu), if_pos ⟨b0, b1⟩, hel, sizeOf_run hinf]
          simp only [Result.andThen_ok, Sem.run_pure, S0.den, h1, rpVal, c3, Nat.add_zero]
        · cases h
      · cases h
    · cases h
  · rename_i t y hop
    simp only [hop]
    split at h
    · rename_i n sz e off hy
      split at h
      · rename_i s d inf hs hd hinf
        split at h
        · rename_i hsz
          have hsz := Nat.eq_of_beq_eq_true hsz
          obtain ⟨hsn, hsl, hsm⟩ := findIn_ok hs
          have hat := hin s hsm
          unfold InAt at hat
          rw [hsl] at hat
          obtain ⟨Ad, len, cp, h1, h2, h3, h4⟩ := hat
          rw [hsn] at h1 h2 h3 h4
          subst hsz
          have fin : ∀ {v : SV}, s.tys.length ≠ 0 → (∀ c ∈ ([.le (.int 0) e, .lt e (.len n s.tys.length)] : List E), boolOf (c.den ρ) = true) →
              (∀ ad : Addr, (∀ j u, (ρ.sl n)[j]? = some u → w.cell? (ad.add j) = some u) → typed s.tys (((ρ.sl n).drop ((intOf (e.den ρ)).toNat * s.tys.length)).take s.tys.length) → (loadVar t (ad.add ((intOf (e.den ρ)).toNat * s.tys.length + off))).run P w = .ok (v.den ρ) w) →
              (do let v ← Instr.loadAt t (a.eval y); pure (Next.value v) : Sem Next).run P w = .ok (.value (v.den ρ)) w := by
            intro v hz hb hl
            obtain ⟨b0, b1⟩ := bounds hz h2 hb
            obtain ⟨ad, rfl, _, hc⟩ := h3 (by omega)
            have hyv : a.eval y = .pointer (some (ad.add ((intOf (e.den ρ)).toNat * s.tys.length + off))) := by
              rw [(opnd_ok hf hy (g := none) (h := none) trivial trivial).1]
              simp only [S0.den, h1, rpVal]
            simp only [hyv, Instr.loadAt, Instr.sureAddr, Sem.run_bind, Sem.run_pure, Result.andThen_ok, hl ad hc (h4 _ (by omega))]
          split at h
          · rename_i hag
            split at h
            · rename_i hle
              have hle := Nat.le_of_ble_eq_true hle
              simp only [Option.some.injEq, Prod.mk.injEq] at h
              obtain ⟨rfl, rfl⟩ := h
              refine ⟨?_, fun _ => trivial⟩
              by_cases hz : s.tys.length = 0
              · have c1 := hn (.lt e (.len n s.tys.length)) (by simp)
                have c0 := hn (.le (.int 0) e) (by simp)
                have e2 : (E.len n s.tys.length).den ρ = .int .i64 (((ρ.sl n).length / s.tys.length : Nat) : Int) := rfl
                rw [den_lt, boolOf_bool, decide_eq_true_eq, e2, intOf_int, hz, Nat.div_zero] at c1
                rw [den_le, boolOf_bool, decide_eq_true_eq, den_int, intOf_int] at c0
                omega
              · refine fin (v := .agg (getCells n s.tys.length e off ((s.tys.drop off).take inf.size))) hz hn fun ad hc hty => ?_
                have hcs := getCells_den (ρ := ρ) (n := n) (sz := s.tys.length) (e := e) ((s.tys.drop off).take inf.size) off ((((((ρ.sl n).drop ((intOf (e.den ρ)).toNat * s.tys.length)).take s.tys.length).drop off).take inf.size)) (typed_take _ (typed_drop _ hty)) (fun j u hu => by
                  rw [List.getElem?_take] at hu
                  split at hu
                  · rw [List.getElem?_drop, List.getElem?_take] at hu
                    split at hu
                    · rw [List.getElem?_drop] at hu
                      rwa [show (intOf (e.den ρ)).toNat * s.tys.length + off + j = (intOf (e.den ρ)).toNat * s.tys.length + (off + j) by omega]
                    · cases hu
                  · cases hu)
                have hlen : (getCells n s.tys.length e off ((s.tys.drop off).take inf.size)).length = inf.size := by
                  have gl : ∀ (ts : List Ty) (o : Nat), (getCells n s.tys.length e o ts).length = ts.length := by
                    intro ts
                    induction ts with
                    | nil => intro o; rfl
                    | cons t ts ih => intro o; simp [getCells, ih]
                  rw [gl, List.length_take, List.length_drop]; omega
                have := run_loadCells_list (P := P) w (ad.add ((intOf (e.den ρ)).toNat * s.tys.length + off)) ((getCells n s.tys.length e off ((s.tys.drop off).take inf.size)).map (E.den ρ)) (by
                  intro j v hv
                  rw [hcs] at hv
                  rw [List.getElem?_take] at hv
                  split at hv
                  · rw [List.getElem?_drop, List.getElem?_take] at hv
                    split at hv
                    · rw [List.getElem?_drop] at hv
                      rw [add_add']
                      rw [show (intOf (e.den ρ)).toNat * s.tys.length + off + j = (intOf (e.den ρ)).toNat * s.tys.length + (off + j) by omega]
                      exact hc _ _ hv
                    · cases hv
                  · cases hv)
                rw [List.length_map, hlen] at this
                simp only [loadVar, Sem.run_bind, isAgg_run hd, Result.andThen_ok, hag, if_true, sizeOf_run hinf, SV.den]
                rw [this]
                simp
            · cases h
          · rename_i hag
            have hag' : isAggD d = false := by simpa using hag
            split at h
            · rename_i ty hty0
              simp only [Option.some.injEq, Prod.mk.injEq] at h
              obtain ⟨rfl, rfl⟩ := h
              refine ⟨?_, fun _ => trivial⟩
              have hlt : off < s.tys.length := (List.getElem?_eq_some_iff.1 hty0).1
              refine fin (v := .one (.get ty n s.tys.length off e)) (by omega) hn fun ad hc hty => ?_
              have h5 := typed_drop off hty
              rw [List.drop_eq_getElem_cons hlt] at h5
              obtain ⟨u, r, hur, hu1, _, _⟩ := typed_cons h5
              have hget : (ρ.sl n)[(intOf (e.den ρ)).toNat * s.tys.length + off]? = some u := by
                have : ((((ρ.sl n).drop ((intOf (e.den ρ)).toNat * s.tys.length)).take s.tys.length).drop off)[0]? = some u := by rw [hur]; rfl
                rw [List.getElem?_drop, List.getElem?_take] at this
                split at this
                · rw [List.getElem?_drop] at this; simpa using this
                · cases this
              have htye : s.tys[off] = ty := by
                have := List.getElem?_eq_getElem hlt
                rw [hty0] at this; injection this with this; exact this.symm
              rw [htye] at hu1
              have := get_den (e := e) hget hu1
              simp only [loadVar, Sem.run_bind, isAgg_run hd, Result.andThen_ok, hag', SV.den]
              simp [hc _ _ hget, this]
            · cases h
        · cases h
      · cases h
    · cases h
  · rename_i c hop
    simp only [hop]
    split at h
    · rename_i y t hcal hargs hats
      split at h
      · rename_i n T hy hu
        split at h
        · rename_i s hs
          split at h
          · rename_i hz
            have hz : s.tys.length ≠ 0 := fun e => by rw [e] at hz; cases hz
            simp only [Option.some.injEq, Prod.mk.injEq] at h
            obtain ⟨rfl, rfl⟩ := h
            obtain ⟨hsn, hsl, hsm⟩ := findIn_ok hs
            have hat := hin s hsm
            unfold InAt at hat
            rw [hsl] at hat
            obtain ⟨Ad, len, cp, h1, h2, _, _⟩ := hat
            rw [hsn] at h1 h2
            have hyv : a.eval y = .slice Ad len cp := by
              rw [(opnd_ok hf hy (g := none) (h := none) trivial trivial).1]
              show oc (ρ.v n) = _
              rw [h1]; rfl
            have ha : c.args.map a.eval = #[.slice Ad len cp] := by apply Array.ext'; rw [Array.toList_map, hargs]; simp [hyv]
            have ht : c.argTypes = #[t] := by apply Array.ext'; rw [hats]
            refine ⟨?_, fun _ => trivial⟩
            have e2 : (E.len n s.tys.length).den ρ = .int .i64 (len : Int) := by
              show Value.int .i64 (((ρ.sl n).length / s.tys.length : Nat) : Int) = _
              rw [h2, Nat.mul_div_cancel _ (by omega)]
            simp only [resolve, hcal, ha, ht, Sem.run_bind, Sem.run_pure, Result.andThen_ok, invoke, builtin, S0.den, SV.den, e2]
            simp [Builtin.len_, run_underlying hu, goInt]
          · cases h
        · cases h
      · cases h
    · cases h
  · cases h
theorem sameEs_eq : ∀ {x y : List E}, sameEs x y = true → x = y
  | [], [], _ => rfl
  | [], _ :: _, h => by simp [sameEs] at h
  | _ :: _, [], h => by simp [sameEs] at h
  | _ :: _, _ :: _, h => by
    simp only [sameEs, Bool.and_eq_true] at h
    rw [E.same_eq h.1, sameEs_eq h.2]
theorem sameSVs_eq : ∀ {x y : List SV}, sameSVs x y = true → x = y
  | [], [], _ => rfl
  | [], _ :: _, h => by simp [sameSVs] at h
  | _ :: _, [], h => by simp [sameSVs] at h
  | .one _ :: _, .one _ :: _, h => by
    simp only [sameSVs, Bool.and_eq_true] at h
    rw [E.same_eq h.1, sameSVs_eq h.2]
  | .agg _ :: _, .agg _ :: _, h => by
    simp only [sameSVs, Bool.and_eq_true] at h
    rw [sameEs_eq h.1, sameSVs_eq h.2]
  | .one _ :: _, .agg _ :: _, h => by simp [sameSVs] at h
  | .agg _ :: _, .one _ :: _, h => by simp [sameSVs] at h
theorem findLoc_ok : ∀ {r : List InS} {f : Nat} {l : List SV} {s : InS} {x : S0}, findLoc r f l = some (s, x) → s ∈ r ∧ s.loc = some (f, l, x)
  | [], _, _, _, _, h => by simp [findLoc] at h
  | a :: r, f, l, s, x, h => by
    simp only [findLoc] at h
    split at h
    · rename_i f' args res hl
      split at h
      · rename_i hc
        simp only [Bool.and_eq_true] at hc
        have e1 := Nat.eq_of_beq_eq_true hc.1
        have e2 := sameSVs_eq hc.2
        subst e1; subst e2
        simp only [Option.some.injEq, Prod.mk.injEq] at h
        obtain ⟨rfl, rfl⟩ := h
        exact ⟨by simp, hl⟩
      · obtain ⟨h1, h2⟩ := findLoc_ok h
        exact ⟨by simp [h1], h2⟩
    · obtain ⟨h1, h2⟩ := findLoc_ok h
      exact ⟨by simp [h1], h2⟩
theorem locOp_ok {B : Nat} {β : Nat → Nat} {A : Nat → Prop} {st : St} {a : Act} {w : World} {o : Oper} {f : Nat} {l : List SV} {x : S0} (hf : FitsA ρ β A st a.tmps) (hin : ∀ s ∈ st.ins, InAt P B ρ w s) (hB : B ≤ w.heap.size)
    (h : locOp P st o.op = some (f, l, x)) : (execOp a.eval o).run P w = .ok (.enter f (l.map (SV.den ρ)).toArray) w ∧ (∀ N, x.low N) ∧ Calls P f (l.map (SV.den ρ)).toArray w fun e w' => e = .returned (x.den ρ β) ∧ Below w.heap.size w w' := by
  unfold locOp at h
  split at h
  · rename_i c hop
    split at h
    · rename_i y hcal
      split at h
      · rename_i f' hy
        have hyv : a.eval y = .func (.func f') #[] ([] : List Value).toArray := (opnd_ok hf hy (g := none) (h := none) trivial trivial).1
        split at h
        · rename_i fn l' hfn hl
          split at h
          · rename_i hc
            simp only [Bool.and_eq_true, Bool.not_eq_true', beq_eq_false_iff_ne] at hc
            have run := enter_run (P := P) (w := w) hop hcal hyv hfn hc.1 hc.2 (svs_ok hf (g := none) trivial hl)
            rw [List.append_nil] at run
            split at h
            · rename_i s v hs
              simp only [Option.some.injEq, Prod.mk.injEq] at h
              obtain ⟨rfl, rfl, rfl⟩ := h
              obtain ⟨h1, h2⟩ := findLoc_ok hs
              have hat := hin s h1
              unfold InAt at hat
              rw [h2] at hat
              exact ⟨run, fun _ => trivial, hat β w (Below.refl _ _) hB⟩
            · rename_i s v hs
              simp only [Option.some.injEq, Prod.mk.injEq] at h
              obtain ⟨rfl, rfl, rfl⟩ := h
              obtain ⟨h1, h2⟩ := findLoc_ok hs
              have hat := hin s h1
              unfold InAt at hat
              rw [h2] at hat
              exact ⟨run, fun _ => trivial, hat β w (Below.refl _ _) hB⟩
            · cases h
          · cases h
        · cases h
      · cases h
    · cases h
  · cases h
end Go.Sx
