/- A law's row out of what its call does; arguments that are slices of flat elements. No conditions. -/
import Derived.Test.YtpbpbijjkmjjjaaSxLaw
import Derived.Test.YtpbpbijjkmjjjaaSxRead
import Derived.Deep.Slices
namespace Go.Sx
open Go Go.RowKit Go.WideShapes Go.ChangeShapes
variable {H : Type} {enc : TypeId × Value → H} {P : Program}

/-- A law's step: its call returns true and touches nothing that was there. -/
theorem law_step_calls {n : Nat} {f : Func} {s : ChangeSpec} {b : Nat} {apart fresh handsOn again : Bool} {W : World} {args : Array Value} {ds gs : List (DataW H)} {before : List MemPlace}
    (hl : laidOutB P = true) (hr : f.params.toList.all (fun t => P.readableRec t && decide (t < P.types.size)) = true) (hv : s.vars = []) (hrt : f.resultTypes = #[b]) (hb : P.underlying b = some .bool)
    (hfn : ∀ l : List (DataW H), l.length = f.params.size → (s.fn H l).results = [.lit (.bool true)] ∧ (s.fn H l).args = l ∧ (s.fn H l).vars = [])
    (hW : DataW.Whole enc P f.params.toList s.vars apart W args.toList ds gs before)
    (hc : Calls P n args W fun e W' => e = .returned (.bool true) ∧ Below W.heap.size W W') :
    Calls P n args W fun e W' => ∃ v, e = .returned v ∧ s.post enc P f apart fresh handsOn again W args v W' := by
  have hW' := hW
  have hlt : ∀ p ∈ before, p.block < W.heap.size := fun p hp => hW.lt p hp
  obtain ⟨p, q, hA, hV, rfl, hfz, hnd⟩ := hW
  have hgs : gs = [] ∧ q = [] := by
    rw [hv] at hV
    cases gs with
    | nil => exact ⟨rfl, hV⟩
    | cons g gs => exact hV.elim
  obtain ⟨rfl, rfl⟩ := hgs
  have hlen : (ds ++ []).length = f.params.size := by rw [List.append_nil, trodAll_len hA]; simp
  obtain ⟨f1, f2, f3⟩ := hfn (ds ++ []) hlen
  have hread : ∀ t ∈ f.params.toList, P.readableRec t = true ∧ t < P.types.size := fun t ht => by
    have := List.all_eq_true.1 hr t ht
    simpa using this
  refine hc.mono fun e W' ⟨he, hbl⟩ => ⟨_, he, ?_⟩
  refine post_of_below (pa := p) (pv := []) hW' (fun b' sp hd => ?_) (fun sp hsp => ?_) (fun sp _ => ?_) rfl hbl ?_
  · rw [f1, hrt]
    exact trodAll_mk1 (shut_bool hb _)
  · rw [f2, List.append_nil]
    exact args_stay hl hbl hread hA (fun x hx => hlt x (by simp [hx])) (fun x hx => hsp x (by simp [hx]))
  · rw [hv, f3]
    exact rfl
  · exact ok_one hrt rfl (okWide_bool_mk hb _)

theorem trodAll_cons {W : World} {b1 : Nat} {sp : Nat → Bool} {hd : Bool} {t : TypeId} {ts : List TypeId} {vs : List Value} {ds : List (DataW H)} {pl : List MemPlace} (h : DataW.TrodAll enc P W b1 sp hd (t :: ts) vs ds pl) :
    ∃ v vs' d ds' p q, vs = v :: vs' ∧ ds = d :: ds' ∧ DataW.Trod enc P W b1 sp hd t v d p ∧ DataW.TrodAll enc P W b1 sp hd ts vs' ds' q ∧ pl = p ++ q := by
  cases vs with
  | nil => cases ds <;> exact h.elim
  | cons v vs =>
    cases ds with
    | nil => exact h.elim
    | cons d ds =>
      obtain ⟨p, q, h1, h2, h3⟩ := h
      exact ⟨v, vs, d, ds, p, q, rfl, rfl, h1, h2, h3⟩
theorem trodAll_nil {W : World} {b1 : Nat} {sp : Nat → Bool} {hd : Bool} {vs : List Value} {ds : List (DataW H)} {pl : List MemPlace} (h : DataW.TrodAll enc P W b1 sp hd [] vs ds pl) : vs = [] := by
  cases vs with
  | nil => rfl
  | cons v vs => cases ds <;> exact h.elim
/-- An argument of a flat struct. -/
theorem flat_arg {W : World} {r : Reach} {b0 b1 : Nat} {sp : Nat → Bool} {hd : Bool} {t : TypeId} {v : Value} {d : DataW H} {pl : List MemPlace} {us : List Ty} (hus : flatOf P 20 t = some us) (hag : (P.underlying t).map isAggD = some true)
    (hv : Value.okWide P W r b0 t v) (h : DataW.Trod enc P W b1 sp hd t v d pl) : ∃ cs : List Value, v = .agg cs.toArray ∧ typed us cs ∧ bounded cs := by
  obtain ⟨m, hm⟩ := h
  obtain ⟨t1, t2⟩ := flatOf_ok 20 t us hus m _ _ hm
  obtain ⟨dd, hdd, hag⟩ := Option.map_eq_some_iff.1 hag
  have hva : v = .agg v.cells := by
    unfold Value.okWide at hv
    rw [hdd] at hv
    cases dd <;> first | (simp [isAggD] at hag; done) | (obtain ⟨cs, rfl, _⟩ := hv; rfl)
  exact ⟨v.cells.toList, by rw [Array.toArray_toList]; exact hva, t1, t2⟩
theorem flat_one {W : World} {r : Reach} {b0 b1 : Nat} {sp : Nat → Bool} {hd : Bool} {t : TypeId} {v : Value} {d : DataW H} {pl : List MemPlace} {u : Ty} (hus : flatOf P 20 t = some [u]) (hag : (P.underlying t).map isAggD = some false)
    (hv : Value.okWide P W r b0 t v) (h : DataW.Trod enc P W b1 sp hd t v d pl) : typed [u] [v] ∧ bounded [v] := by
  obtain ⟨m, hm⟩ := h
  obtain ⟨t1, t2⟩ := flatOf_ok 20 t _ hus m _ _ hm
  obtain ⟨dd, hdd, hag⟩ := Option.map_eq_some_iff.1 hag
  have hone : v.cells.toList = [v] := by
    unfold Value.okWide at hv
    rw [hdd] at hv
    cases v with
    | agg cs =>
      exfalso
      cases dd <;> first | (simp [isAggD] at hag; done) | (simp [Cell.okWide, Cell.ok, hdd] at hv)
    | _ => rfl
  rw [hone] at t1 t2
  exact ⟨t1, t2⟩

/-- An argument that is a slice of flat elements. -/
theorem slice_arg {W : World} {r : Reach} {b0 b1 : Nat} {sp : Nat → Bool} {hd : Bool} {t e : TypeId} {v : Value} {d : DataW H} {pl : List MemPlace} {us : List Ty} (ht : P.underlying t = some (.slice e)) (hus : flatOf P 20 e = some us) (hc : P.cellsOf e = us.length) (hpos : 0 < us.length)
    (hv : Value.okWide P W r b0 t v) (hlt : ∀ p ∈ pl, p.block < W.heap.size) (h : DataW.Trod enc P W b1 sp hd t v d pl) : ∃ xs : List Value, InVal W.heap.size W v xs us ∧ xs.length / us.length ≤ 9223372036854775807 ∧ (∀ k, k < xs.length / us.length → bounded ((xs.drop (k * us.length)).take us.length)) := by
  obtain ⟨m, hm⟩ := h
  have hone : v.cells.toList = [v] := by
    unfold Value.okWide at hv
    rw [ht] at hv
    cases v with
    | agg cs => simp [Cell.okWide, Cell.ok, ht] at hv
    | _ => rfl
  rw [hone] at hm
  have hmax : maxLen = 9223372036854775807 := rfl
  rcases Deep.open_slice ht hm with ⟨hcs, hx⟩ | ⟨a, len, cap, m', n, D, Pl, hcs, hb, hl, hcm, hmm, hx, hel⟩
  · obtain rfl : v = .slice none 0 0 := by simpa using hcs
    exact ⟨[], ⟨none, 0, 0, rfl, by simp, fun h => absurd h (by omega), fun k hk => absurd hk (by omega)⟩, by simp, fun k hk => absurd hk (by simp)⟩
  · obtain rfl : v = .slice (some a) len cap := by simpa using hcs
    have hlm : len ≤ m' := by rw [hmm]; split <;> omega
    have hpl : pl = MemPlace.row a (m' * P.cellsOf e) ++ (List.range m').flatMap Pl := by
      have := congrArg Prod.snd hx; simpa using this
    have key : ∀ i, i < len → ∃ cs', cs'.length = us.length ∧ typed us cs' ∧ bounded cs' ∧ ∀ q, q < us.length → W.cell? (a.add (i * us.length + q)) = cs'[q]? := by
      intro i hi
      obtain ⟨cs', h1, h2⟩ := hel i (by omega)
      obtain ⟨_, h4, h5⟩ := World.cells?_some h1
      obtain ⟨t1, t2⟩ := flatOf_ok 20 e us hus n _ _ h2
      refine ⟨cs', by rw [h4, hc], t1, t2, fun q hq => ?_⟩
      have := h5 q (by rw [hc]; exact hq)
      rw [hc, add_add'] at this
      exact this
    let xs : List Value := (List.range (len * us.length)).map fun j => (W.cell? (a.add j)).getD .nilIface
    have hxl : xs.length = len * us.length := by simp [xs]
    have hcut : ∀ i cs', i < len → cs'.length = us.length → (∀ q, q < us.length → W.cell? (a.add (i * us.length + q)) = cs'[q]?) → (xs.drop (i * us.length)).take us.length = cs' := by
      intro i cs' hi hcl hq
      have hle : i * us.length + us.length ≤ len * us.length := by rw [← Nat.succ_mul]; exact Nat.mul_le_mul_right _ hi
      refine List.ext_getElem ?_ fun q h1 h2 => ?_
      · simp only [List.length_take, List.length_drop, hxl, hcl]; omega
      · have hq' : q < us.length := by rw [hcl] at h2; exact h2
        have := hq q hq'
        rw [List.getElem?_eq_getElem h2] at this
        simp [xs, List.getElem_take, List.getElem_drop, this]
    refine ⟨xs, ⟨some a, len, cap, rfl, hxl, fun h0 => ⟨a, rfl, ?_, fun j u hj => ?_⟩, fun k hk => ?_⟩, ?_, fun k hk => ?_⟩
    · refine hlt (.cell a.block (a.off + 0)) ?_
      rw [hpl]
      refine List.mem_append_left _ ?_
      refine List.mem_map.2 ⟨0, ?_, rfl⟩
      rw [List.mem_range, hc]
      exact Nat.mul_pos (by omega) hpos
    · have hjl : j < len * us.length := by
        have := (List.getElem?_eq_some_iff.1 hj).1
        rw [hxl] at this; exact this
      have hi : j / us.length < len := Nat.div_lt_of_lt_mul (by rw [Nat.mul_comm]; exact hjl)
      obtain ⟨cs', c1, _, _, c4⟩ := key _ hi
      have := c4 (j % us.length) (Nat.mod_lt _ hpos)
      rw [Nat.mul_comm, Nat.div_add_mod] at this
      have hlt2 : j % us.length < cs'.length := by rw [c1]; exact Nat.mod_lt _ hpos
      rw [List.getElem?_eq_getElem hlt2] at this
      have e2 : xs[j]? = some ((W.cell? (a.add j)).getD .nilIface) := by
        simp [xs, hjl]
      rw [e2, this] at hj
      rw [this]
      simpa using hj
    · obtain ⟨cs', c1, c2, _, c4⟩ := key k hk
      rw [hcut k cs' hk c1 c4]; exact c2
    · rw [hxl, Nat.mul_div_cancel _ hpos]; omega
    · rw [hxl, Nat.mul_div_cancel _ hpos] at hk
      obtain ⟨cs', c1, _, c3, c4⟩ := key k hk
      rw [hcut k cs' hk c1 c4]; exact c3

theorem InVal.up {B B' : Nat} {w : World} {v : Value} {xs : List Value} {tys : List Ty} (h : InVal B w v xs tys) (hle : B ≤ B') : InVal B' w v xs tys := by
  obtain ⟨A, len, c, h1, h2, h3, h4⟩ := h
  refine ⟨A, len, c, h1, h2, fun h0 => ?_, h4⟩
  obtain ⟨ad, e1, e2, e3⟩ := h3 h0
  exact ⟨ad, e1, by omega, e3⟩
/-- A call told of for one run. -/
theorem inAt_loc {B : Nat} {ρ : Env} {w : World} {s : InS} {f : Nat} {args : List SV} {res : S0} (hs : s.loc = some (f, args, res)) {va : Array Value} {vr : Value} (ha : (args.map (SV.den ρ)).toArray = va) (hr : ∀ β, res.den ρ β = vr)
    (hc : ∀ w' : World, Below B w w' → B ≤ w'.heap.size → Calls P f va w' fun e w2 => e = .returned vr ∧ Below w'.heap.size w' w2) : InAt P B ρ w s := by
  unfold InAt
  rw [hs]
  intro β w' h1 h2
  rw [ha, hr]
  exact hc w' h1 h2
end Go.Sx
