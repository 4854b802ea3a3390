/- The symbolic executor: a region that draws its order, with new blocks and stores: whatever order is drawn, what is told holds. No conditions. -/
import Derived.Test.YtpbpbijjkmjjjaaSxReg
namespace Go.Sx
open Go Go.RowKit
variable {ρ : Env} {P : Program}

def allocs (l : List Oper) : Nat := (l.filter fun o => isAlloc o.op).length

/-- What the run of a region says of each of its operations. -/
structure OpFact (P : Program) (Γ : List Con) (N : Nat) (ops : Array Oper) (m : List Nat) (base : List Sl) (mem : List (List E × Nat)) (rs : List OR) (needs : List E) (reads : List (Option Nat)) (k : Nat) (o : Oper) : Prop where
  first : guardFirst m ops ops.toList k o = true
  run : ∃ x ns rd, regionOp P Γ N (N + allocs (ops.toList.take k)) ops { tmps := maskSlots m k ops.toList (rs.take k) 0 base, mem := mem } o = some (x, ns, rd) ∧ rs[k]? = some x ∧ reads[k]? = some rd ∧ ∀ c ∈ ns, c ∈ needs

theorem regionRun_ok {Γ : List Con} {N : Nat} {ops : Array Oper} {m : List Nat} {base : List Sl} {mem : List (List E × Nat)} : ∀ (l : List Oper) (k : Nat) (r r' : RSt), regionRun P Γ N ops m base mem l k r = some r' →
    (∀ j, l[j]? = ops[k + j]?) → r.rs.length = k → r.reads.length = k → r.nb = N + allocs (ops.toList.take k) →
    (∃ x y z, r'.rs = r.rs ++ x ∧ r'.needs = r.needs ++ y ∧ r'.reads = r.reads ++ z ∧ x.length = l.length ∧ z.length = l.length) ∧ ∀ j o, l[j]? = some o → OpFact P Γ N ops m base mem r'.rs r'.needs r'.reads (k + j) o
  | [], k, r, r', h, _, _, _, _ => by
    simp only [regionRun, Option.some.injEq] at h
    subst h
    exact ⟨⟨[], [], [], by simp, by simp, by simp, rfl, rfl⟩, fun j o hj => by simp at hj⟩
  | o :: os, k, r, r', h, hl, hrs, hrd, hnb => by
    have ho : ops[k]? = some o := by simpa using (hl 0).symm
    have hkl : k < ops.toList.length := by
      have := (Array.getElem?_eq_some_iff.1 ho).1
      simpa using this
    simp only [regionRun] at h
    split at h
    · rename_i hfirst
      split at h
      · rename_i x ns rd hop
        have hal : allocs (ops.toList.take (k + 1)) = if isAlloc o.op then allocs (ops.toList.take k) + 1 else allocs (ops.toList.take k) := by
          have e : ops.toList.take (k + 1) = ops.toList.take k ++ [o] := by
            rw [List.take_add_one]
            congr 1
            simp [ho]
          unfold allocs
          rw [e, List.filter_append]
          by_cases hi : isAlloc o.op = true
          · simp [hi]
          · simp [hi]
        obtain ⟨⟨x', y', z', h1, h2, h3, h4, h5⟩, h6⟩ := regionRun_ok os (k + 1) _ r' h (fun j => by have := hl (j + 1); rw [List.getElem?_cons_succ] at this; rw [this]; congr 1; omega) (by simp [hrs]) (by simp [hrd]) (by
          dsimp only
          rw [hal, hnb]
          split <;> omega)
        dsimp only at h1 h2 h3
        refine ⟨⟨x :: x', ns ++ y', rd :: z', by rw [h1]; simp, by rw [h2]; simp, by rw [h3]; simp, by simp [h4], by simp [h5]⟩, fun j o' hj => ?_⟩
        cases j with
        | zero =>
          simp only [List.getElem?_cons_zero, Option.some.injEq] at hj
          subst hj
          refine ⟨hfirst, x, ns, rd, ?_, ?_, ?_, ?_⟩
          · have e : r'.rs.take k = r.rs := by
              rw [h1, ← hrs]; simp
            show regionOp P Γ N (N + allocs (ops.toList.take k)) ops { tmps := maskSlots m k ops.toList (r'.rs.take k) 0 base, mem := mem } o = _
            rw [e, ← hnb]
            exact hop
          · show r'.rs[k]? = _
            rw [h1, ← hrs]; simp
          · show r'.reads[k]? = _
            rw [h3, ← hrd]; simp
          · intro c hc
            rw [h2]; simp [hc]
        | succ j =>
          have := h6 j o' (by simpa using hj)
          rwa [show k + (j + 1) = k + 1 + j by omega]
      · cases h
    · cases h

/-- The new blocks' cells. -/
theorem newBlocks_ok : ∀ {l : List Oper} {news : List (List E × Nat)}, newBlocks P l = some news → news.length = allocs l ∧ ∀ k o, l[k]? = some o → isAlloc o.op = true →
    ∃ t inf z v, o.op = .alloc t ∧ P.info? t = some inf ∧ inf.zero = some z ∧ cstS z = some (.sv v) ∧ news[allocs (l.take k)]? = some (v.cells, t)
  | [], news, h => by
    simp only [newBlocks, Option.some.injEq] at h
    subst h
    exact ⟨rfl, fun k o hk => by simp at hk⟩
  | o :: os, news, h => by
    have other : isAlloc o.op = false → newBlocks P os = some news → news.length = allocs (o :: os) ∧ ∀ k o', (o :: os)[k]? = some o' → isAlloc o'.op = true →
        ∃ t inf z v, o'.op = .alloc t ∧ P.info? t = some inf ∧ inf.zero = some z ∧ cstS z = some (.sv v) ∧ news[allocs ((o :: os).take k)]? = some (v.cells, t) := by
      intro hna hn
      obtain ⟨h1, h2⟩ := newBlocks_ok hn
      refine ⟨by rw [h1]; simp [allocs, hna], fun k o' hk ha => ?_⟩
      cases k with
      | zero =>
        simp only [List.getElem?_cons_zero, Option.some.injEq] at hk
        subst hk
        rw [ha] at hna; cases hna
      | succ k =>
        obtain ⟨t, inf, z, v, a1, a2, a3, a4, a5⟩ := h2 k o' (by simpa using hk) ha
        refine ⟨t, inf, z, v, a1, a2, a3, a4, ?_⟩
        have e : allocs ((o :: os).take (k + 1)) = allocs (os.take k) := by simp [allocs, hna]
        rw [e]; exact a5
    simp only [newBlocks] at h
    split at h
    · rename_i t hop
      split at h
      · rename_i inf hi
        split at h
        · rename_i z hz
          split at h
          · rename_i v l' hv hl'
            injection h with h; subst h
            obtain ⟨h1, h2⟩ := newBlocks_ok hl'
            have hia : isAlloc o.op = true := by rw [hop]; rfl
            refine ⟨by simp [allocs, hia, h1], fun k o' hk ha => ?_⟩
            cases k with
            | zero =>
              simp only [List.getElem?_cons_zero, Option.some.injEq] at hk
              subst hk
              exact ⟨t, inf, z, v, hop, hi, hz, hv, by simp [allocs]⟩
            | succ k =>
              obtain ⟨t', inf', z', v', a1, a2, a3, a4, a5⟩ := h2 k o' (by simpa using hk) ha
              refine ⟨t', inf', z', v', a1, a2, a3, a4, ?_⟩
              have e : allocs ((o :: os).take (k + 1)) = allocs (os.take k) + 1 := by simp [allocs, hia]
              rw [e, List.getElem?_cons_succ]; exact a5
          · cases h
        · cases h
      · cases h
    · rename_i hno
      refine other ?_ h
      cases hop : o.op <;> first | rfl | exact absurd hop (hno _)

theorem regionOp_alloc {Γ : List Con} {N nb : Nat} {ops : Array Oper} {M : St} {o : Oper} {x : OR} {ns : List E} {rd : Option Nat} (ha : isAlloc o.op = true) (h : regionOp P Γ N nb ops M o = some (x, ns, rd)) : x = .new nb ∧ o.guard = none := by
  unfold regionOp at h
  split at h
  · cases h
  · rename_i hg
    have hg' : o.guard = none := by
      cases hgu : o.guard with
      | none => rfl
      | some p => simp [ha, hgu] at hg
    refine ⟨?_, hg'⟩
    have hy : guardOf M ops o = .yes := by simp [guardOf, hg']
    rw [hy] at h
    dsimp only at h
    split at h
    · simp only [Option.some.injEq, Prod.mk.injEq] at h; exact h.1.symm
    · rename_i hop; rw [hop] at ha; cases ha
    · rename_i hno _
      cases hop : o.op <;> rw [hop] at ha <;> first | (exact absurd hop (hno _)) | (cases ha; done)

theorem regionOp_new {Γ : List Con} {N nb : Nat} {ops : Array Oper} {M : St} {o : Oper} {b : Nat} {ns : List E} {rd : Option Nat} (h : regionOp P Γ N nb ops M o = some (.new b, ns, rd)) : isAlloc o.op = true ∧ b = nb := by
  unfold regionOp at h
  split at h
  · cases h
  · split at h
    · cases h
    · simp at h
    · split at h
      · rename_i hop
        simp only [Option.some.injEq, Prod.mk.injEq, OR.new.injEq] at h
        exact ⟨by rw [hop]; rfl, h.1.symm⟩
      · split at h
        · split at h
          · split at h <;> simp at h
          · cases h
        · cases h
      · split at h
        · split at h <;> simp at h
        · split at h <;> simp at h
    · split at h
      · cases h
      · split at h
        · split at h
          · cases h
          · split at h <;> simp at h
        · split at h <;> simp at h

/-- A store: what the run says of it. -/
theorem regionOp_sto {Γ : List Con} {N nb : Nat} {ops : Array Oper} {M : St} {o : Oper} {b off : Nat} {cs : List E} {ns : List E} {rd : Option Nat} (h : regionOp P Γ N nb ops M o = some (.sto b off cs, ns, rd)) :
    guardOf M ops o = .yes ∧ o.dst = none ∧ ∃ t a x v inf cells T, o.op = .store t a x ∧ opnd M none none a = some (.ptr b off) ∧ opnd M none none x = some (.sv v) ∧ P.info? t = some inf ∧ M.mem[b]? = some (cells, T) ∧ v.cells = cs ∧
      cs.length = inf.size ∧ off + cs.length ≤ cells.length := by
  unfold regionOp at h
  split at h
  · cases h
  · split at h
    · cases h
    · simp at h
    · rename_i hg
      split at h
      · simp at h
      · rename_i t a x hop
        split at h
        · rename_i b' off' v inf ha hx hi
          split at h
          · rename_i cells T hm hd
            split at h
            · rename_i hc
              simp only [Bool.and_eq_true] at hc
              simp only [Option.some.injEq, Prod.mk.injEq, OR.sto.injEq] at h
              obtain ⟨⟨rfl, rfl, rfl⟩, _, _⟩ := h
              exact ⟨hg, hd, t, a, x, v, inf, cells, T, hop, ha, hx, hi, hm, rfl, Nat.eq_of_beq_eq_true hc.1, Nat.le_of_ble_eq_true hc.2⟩
            · cases h
          · cases h
        · cases h
      · split at h
        · split at h <;> simp at h
        · split at h <;> simp at h
    · split at h
      · cases h
      · split at h
        · split at h
          · cases h
          · split at h <;> simp at h
        · split at h <;> simp at h

/-- A value: what the run says of it. -/
theorem regionOp_val {Γ : List Con} {N nb : Nat} {ops : Array Oper} {M : St} {o : Oper} {s : Sl} {ns : List E} {rd : Option Nat} (h : regionOp P Γ N nb ops M o = some (.val s, ns, rd)) :
    (∃ x, s = .full x ∧ guardOf M ops o = .yes ∧ ((pureOp P M none o.op = some (x, ns) ∧ rd = loadBlock M none o.op ∧ (isLoad o.op = true → ∃ b, loadBlock M none o.op = some b ∧ b < N)) ∨ (∃ f l, callOp P Γ M none o.op = some (f, l, x)))) ∨
    (∃ x t w, s = .may t w x ∧ guardOf M ops o = .undecided t w ∧ ((∃ needs, pureOp P M (some (t, w)) o.op = some (x, needs) ∧ guardNeed M t w needs = some ns ∧ rd = loadBlock M (some (t, w)) o.op ∧ (isLoad o.op = true → ∃ b, loadBlock M (some (t, w)) o.op = some b ∧ b < N)) ∨
      (∃ f l, callOp P Γ M (some (t, w)) o.op = some (f, l, x)))) := by
  unfold regionOp at h
  split at h
  · cases h
  · split at h
    · cases h
    · simp at h
    · rename_i hg
      split at h
      · simp at h
      · split at h
        · split at h
          · split at h <;> simp at h
          · cases h
        · cases h
      · split at h
        · rename_i x needs hp
          split at h
          · cases h
          · rename_i hld
            simp only [Option.some.injEq, Prod.mk.injEq, OR.val.injEq] at h
            obtain ⟨rfl, rfl, rfl⟩ := h
            refine .inl ⟨x, rfl, hg, .inl ⟨hp, rfl, fun hl => ?_⟩⟩
            simp only [hl, Bool.true_and, Bool.not_eq_true', Bool.not_eq_false] at hld
            rw [Option.any_eq_true_iff_get] at hld
            obtain ⟨h1, h2⟩ := hld
            exact ⟨_, (Option.some_get h1).symm, by rw [Nat.blt_eq] at h2; exact h2⟩
        · split at h
          · rename_i f l x hp
            simp only [Option.some.injEq, Prod.mk.injEq, OR.val.injEq] at h
            obtain ⟨rfl, rfl, rfl⟩ := h
            exact .inl ⟨x, rfl, hg, .inr ⟨f, l, hp⟩⟩
          · cases h
    · rename_i t w hg
      split at h
      · cases h
      · split at h
        · rename_i x needs hp
          split at h
          · cases h
          · rename_i hld
            split at h
            · rename_i ns' hns
              simp only [Option.some.injEq, Prod.mk.injEq, OR.val.injEq] at h
              obtain ⟨rfl, rfl, rfl⟩ := h
              refine .inr ⟨x, t, w, rfl, hg, .inl ⟨needs, hp, hns, rfl, fun hl => ?_⟩⟩
              simp only [hl, Bool.true_and, Bool.not_eq_true', Bool.not_eq_false] at hld
              rw [Option.any_eq_true_iff_get] at hld
              obtain ⟨h1, h2⟩ := hld
              exact ⟨_, (Option.some_get h1).symm, by rw [Nat.blt_eq] at h2; exact h2⟩
            · cases h
        · split at h
          · rename_i f l x hp
            simp only [Option.some.injEq, Prod.mk.injEq, OR.val.injEq] at h
            obtain ⟨rfl, rfl, rfl⟩ := h
            exact .inr ⟨x, t, w, rfl, hg, .inr ⟨f, l, hp⟩⟩
          · cases h

theorem guardNeed_ok {β : Nat → Nat} {A : Nat → Prop} {st : St} {a : Act} {t : Nat} {w : Bool} {l ns : List E} (hf : FitsA ρ β A st a.tmps) (h : guardNeed st t w l = some ns) (hn : ∀ c ∈ ns, boolOf (c.den ρ) = true) (hg : a.tmps.getD t undef = .bool w) :
    ∀ c ∈ l, boolOf (c.den ρ) = true := by
  unfold guardNeed at h
  split at h
  · simp
  · split at h
    · rename_i e he
      split at h
      · injection h with h; subst h
        have hs := (hf.slot _ _ he).1
        rw [hg] at hs
        have hb : boolOf (e.den ρ) = w := by
          have : e.den ρ = .bool w := hs.symm
          rw [this]; rfl
        intro c hc
        have := hn _ (List.mem_map.2 ⟨c, hc, rfl⟩)
        cases w with
        | true => simpa [hb] using this
        | false => simpa [hb] using this
      · cases h
    · cases h

end Go.Sx
