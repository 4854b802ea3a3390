/- Links of floors, as plain functions: they go both ways. No conditions. -/
import Derived.Test.YtcdfojfafnecdaaV3
namespace Go.Proofs.Ytcdfojfafnecdaa
/-- What a direction adds. -/
def stepD (d : Int) : Option (Int × Int) := if d = 0 then some (1, 0) else if d = 1 then some (0, 1) else if d = 2 then some (-1, 0) else if d = 3 then some (0, -1) else none
theorem stepD_opp {d dx dz : Int} (h : stepD d = some (dx, dz)) : stepD ((d + 2) % 4) = some (-dx, -dz) ∧ 0 ≤ d ∧ d ≤ 3 ∧ -1 ≤ dx ∧ dx ≤ 1 ∧ -1 ≤ dz ∧ dz ≤ 1 := by
  unfold stepD at h
  split at h
  · rename_i e; subst e; simp at h; obtain ⟨rfl, rfl⟩ := h; exact ⟨rfl, by omega, by omega, by omega, by omega, by omega, by omega⟩
  · split at h
    · rename_i e; subst e; simp at h; obtain ⟨rfl, rfl⟩ := h; exact ⟨rfl, by omega, by omega, by omega, by omega, by omega, by omega⟩
    · split at h
      · rename_i e; subst e; simp at h; obtain ⟨rfl, rfl⟩ := h; exact ⟨rfl, by omega, by omega, by omega, by omega, by omega, by omega⟩
      · split at h
        · rename_i e; subst e; simp at h; obtain ⟨rfl, rfl⟩ := h; exact ⟨rfl, by omega, by omega, by omega, by omega, by omega, by omega⟩
        · cases h
/-- The first of l, from the i-th on, of which p is so. -/
def firstF (p : V3 → Bool) : List V3 → Nat → Option Nat
  | [], _ => none
  | f :: l, i => if p f then some i else firstF p l (i + 1)
theorem firstF_some {p : V3 → Bool} : ∀ {l : List V3} {i n : Nat}, firstF p l i = some n → i ≤ n ∧ ∃ f, l[n - i]? = some f ∧ p f = true
  | [], i, n, h => by simp [firstF] at h
  | f :: l, i, n, h => by
    unfold firstF at h
    split at h
    · rename_i hp
      injection h with h; subst h
      exact ⟨Nat.le_refl _, f, by simp, hp⟩
    · obtain ⟨h1, g, h2, h3⟩ := firstF_some h
      refine ⟨by omega, g, ?_, h3⟩
      rw [show n - i = (n - (i + 1)) + 1 by omega]
      simpa using h2
theorem firstF_of {p : V3 → Bool} : ∀ {l : List V3} {i k : Nat} {f : V3}, l[k]? = some f → p f = true → (∀ j g, l[j]? = some g → p g = true → j = k) → firstF p l i = some (i + k)
  | [], i, k, f, h, _, _ => by simp at h
  | g :: l, i, k, f, h, hp, hu => by
    unfold firstF
    split
    · rename_i hg
      have := hu 0 g rfl hg
      subst this; rfl
    · rename_i hg
      cases k with
      | zero => simp at h; subst h; exact absurd hp hg
      | succ k =>
        rw [firstF_of (k := k) (f := f) (by simpa using h) hp (fun j g' h1 h2 => by have := hu (j + 1) g' (by simpa using h1) h2; omega)]
        congr 1; omega
section
variable (lk : V3 → V3 → Bool) (col : Int → Int → List V3)
/-- Where a floor leads. -/
def toF (x z k d : Int) : Option Nat := match stepD d with
  | none => none
  | some (dx, dz) => if k < 0 then none else match (col x z)[k.toNat]? with
    | none => none
    | some a => firstF (fun f => lk a f) (col (x + dx) (z + dz)) 0
theorem toF_some {x z k d : Int} {n : Nat} {dx dz : Int} (hd : stepD d = some (dx, dz)) (h : toF lk col x z k d = some n) :
    0 ≤ k ∧ ∃ a f, (col x z)[k.toNat]? = some a ∧ (col (x + dx) (z + dz))[n]? = some f ∧ lk a f = true := by
  unfold toF at h
  rw [hd] at h
  simp only at h
  split at h
  · cases h
  · split at h
    · cases h
    · rename_i hk _ a ha
      obtain ⟨_, f, h2, h3⟩ := firstF_some h
      exact ⟨by omega, a, f, ha, by simpa using h2, h3⟩
variable {lk col}
theorem toF_back (hs : ∀ a b, lk a b = lk b a) (hu : ∀ (x z : Int) (a : V3) (i j : Nat) (f g : V3), (col x z)[i]? = some f → (col x z)[j]? = some g → lk a f = true → lk a g = true → i = j)
    {x z k d : Int} {n : Nat} {dx dz : Int} (hd : stepD d = some (dx, dz)) (h : toF lk col x z k d = some n) : toF lk col (x + dx) (z + dz) n ((d + 2) % 4) = some k.toNat := by
  obtain ⟨hk, a, f, ha, hf, hl⟩ := toF_some lk col hd h
  unfold toF
  rw [(stepD_opp hd).1]
  simp only
  rw [if_neg (by omega), Int.toNat_natCast, hf]
  simp only
  rw [show x + dx + -dx = x by omega, show z + dz + -dz = z by omega, firstF_of (k := k.toNat) (f := a) ha (by rw [hs]; exact hl) (fun j g hj hg => hu x z f j k.toNat g a hj ha hg (by rw [hs]; exact hl)), Nat.zero_add]
/-- Both ways round. -/
def roundF (lk : V3 → V3 → Bool) (col : Int → Int → List V3) (x z k d e dx dz : Int) : Option Nat := match toF lk col x z k d with
  | none => none
  | some a => toF lk col (x + dx) (z + dz) a e
def diagF (lk : V3 → V3 → Bool) (col : Int → Int → List V3) (x z k d e : Int) : Option Nat := match stepD d, stepD e with
  | some (dx, dz), some (ex, ez) => if (dx = 0 ↔ ex = 0) then none else match roundF lk col x z k d e dx dz, roundF lk col x z k e d ex ez with
    | some p, some q => if p = q then some p else none
    | _, _ => none
  | _, _ => none
theorem diagF_some {x z k d e : Int} {m : Nat} {dx dz ex ez : Int} (hd : stepD d = some (dx, dz)) (he : stepD e = some (ex, ez)) (h : diagF lk col x z k d e = some m) :
    ¬ (dx = 0 ↔ ex = 0) ∧ roundF lk col x z k d e dx dz = some m ∧ roundF lk col x z k e d ex ez = some m := by
  unfold diagF at h
  rw [hd, he] at h
  simp only at h
  split at h
  · cases h
  · rename_i hn
    split at h
    · rename_i p q hp hq
      split at h
      · rename_i hpq
        injection h with h; subst h; subst hpq
        exact ⟨hn, hp, hq⟩
      · cases h
    · cases h
theorem diagF_of {x z k d e : Int} {m : Nat} {dx dz ex ez : Int} (hd : stepD d = some (dx, dz)) (he : stepD e = some (ex, ez)) (hn : ¬ (dx = 0 ↔ ex = 0)) (h1 : roundF lk col x z k d e dx dz = some m) (h2 : roundF lk col x z k e d ex ez = some m) : diagF lk col x z k d e = some m := by
  unfold diagF
  rw [hd, he]
  simp only
  rw [if_neg hn, h1, h2]
  simp
theorem roundF_some {x z k d e dx dz : Int} {m : Nat} (h : roundF lk col x z k d e dx dz = some m) : ∃ a, toF lk col x z k d = some a ∧ toF lk col (x + dx) (z + dz) a e = some m := by
  unfold roundF at h
  split at h
  · cases h
  · exact ⟨_, by assumption, h⟩
theorem diagF_back (hs : ∀ a b, lk a b = lk b a) (hu : ∀ (x z : Int) (a : V3) (i j : Nat) (f g : V3), (col x z)[i]? = some f → (col x z)[j]? = some g → lk a f = true → lk a g = true → i = j)
    {x z k d e : Int} {m : Nat} {dx dz ex ez : Int} (hd : stepD d = some (dx, dz)) (he : stepD e = some (ex, ez)) (h : diagF lk col x z k d e = some m) :
    0 ≤ k ∧ diagF lk col (x + dx + ex) (z + dz + ez) m ((d + 2) % 4) ((e + 2) % 4) = some k.toNat ∧ diagF lk col x z k e d = some m := by
  obtain ⟨hn, h1, h2⟩ := diagF_some hd he h
  obtain ⟨a, a1, a2⟩ := roundF_some h1
  obtain ⟨b, b1, b2⟩ := roundF_some h2
  have hk := (toF_some lk col hd a1).1
  have r1 := toF_back hs hu hd a1
  have r2 := toF_back hs hu he a2
  have r3 := toF_back hs hu he b1
  have r4 := toF_back hs hu hd b2
  obtain ⟨o1, _⟩ := stepD_opp hd
  obtain ⟨o2, _⟩ := stepD_opp he
  refine ⟨hk, diagF_of o1 o2 (by omega) ?_ ?_, diagF_of he hd (by omega) h2 h1⟩
  · unfold roundF
    rw [show x + dx + ex = x + ex + dx by omega, show z + dz + ez = z + ez + dz by omega, r4]
    simp only
    rw [show x + ex + dx + -dx = x + ex by omega, show z + ez + dz + -dz = z + ez by omega]
    simpa using r3
  · unfold roundF
    rw [r2]
    simp only
    rw [show x + dx + ex + -ex = x + dx by omega, show z + dz + ez + -ez = z + dz by omega]
    simpa using r1
end
/-- Just one of a row is linked. -/
theorem count_one {p : V3 → Bool} : ∀ {l : List V3} {n : Nat} {f : V3}, l[n]? = some f → p f = true → (∀ (i j : Nat) (g h : V3), l[i]? = some g → l[j]? = some h → p g = true → p h = true → i = j) → (l.filter p).length = 1
  | [], n, f, h, _, _ => by simp at h
  | g :: l, n, f, h, hp, hu => by
    cases n with
    | zero =>
      simp at h; subst h
      have : l.filter p = [] := by
        rw [List.filter_eq_nil_iff]
        intro y hy hpy
        obtain ⟨j, hj⟩ := List.getElem?_of_mem hy
        have := hu 0 (j + 1) g y rfl (by simpa using hj) hp hpy
        omega
      simp [hp, this]
    | succ n =>
      have hg : p g = false := by
        cases hg : p g with
        | false => rfl
        | true => have := hu 0 (n + 1) g f rfl h hg hp; omega
      rw [List.filter_cons_of_neg (by simp [hg])]
      exact count_one (by simpa using h) hp (fun i j g' h' h1 h2 h3 h4 => by have := hu (i + 1) (j + 1) g' h' (by simpa using h1) (by simpa using h2) h3 h4; omega)
end Go.Proofs.Ytcdfojfafnecdaa
