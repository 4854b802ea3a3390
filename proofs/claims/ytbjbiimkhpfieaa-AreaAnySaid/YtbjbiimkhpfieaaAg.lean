/- Boxes and spots, as plain data and as they lie in memory; which box is the last that is so. No conditions. -/
import Derived.Test.YtbjbiimkhpfieaaAb
import Derived.Test.YtbjbiimkhpfieaaMd
namespace Go.Proofs.Ytbjbiimkhpfieaa
open Go Go.RowKit Go.Sx
def gridv (X Z W D : Int) (A : Option Addr) (n cap : Nat) : Value := .agg #[.int .i64 X, .int .i64 Z, .int .i64 W, .int .i64 D, .slice A n cap]
theorem BoolIff.tt {e : Ending} {p : Prop} (h : BoolIff e p) (hp : p) : e = .returned (.bool true) := by
  obtain ⟨b, rfl, hb⟩ := h
  rw [hb.2 hp]
theorem BoolIff.ff {e : Ending} {p : Prop} (h : BoolIff e p) (hp : ¬ p) : e = .returned (.bool false) := by
  obtain ⟨b, rfl, hb⟩ := h
  cases b with
  | false => rfl
  | true => exact absurd (hb.1 rfl) hp
structure B8 where
  id : Int
  x0 : Int
  z0 : Int
  x1 : Int
  z1 : Int
  y0 : Int
  y1 : Int
  ar : Int
deriving DecidableEq
def B8.cs (b : B8) : List Value := [.int .i64 b.id, .int .i64 b.x0, .int .i64 b.z0, .int .i64 b.x1, .int .i64 b.z1, .int .i64 b.y0, .int .i64 b.y1, .int .i64 b.ar]
def bcs (l : List B8) : List Value := l.flatMap B8.cs
theorem bcs_length (l : List B8) : (bcs l).length = l.length * 8 := by
  induction l with
  | nil => rfl
  | cons v l ih => simp [bcs, B8.cs] at *; omega
theorem bcs_get (l : List B8) (j : Nat) (h : j < l.length) (q : Nat) (hq : q < 8) : (bcs l)[j * 8 + q]? = l[j].cs[q]? := by
  induction l generalizing j with
  | nil => simp at h
  | cons v l ih =>
    have e : bcs (v :: l) = v.cs ++ bcs l := rfl
    have hl : v.cs.length = 8 := rfl
    cases j with
    | zero =>
      rw [e, Nat.zero_mul, Nat.zero_add, List.getElem?_append_left (by rw [hl]; exact hq)]; rfl
    | succ j =>
      rw [e, List.getElem?_append_right (by rw [hl]; omega), hl, show (j + 1) * 8 + q - 8 = j * 8 + q by omega]
      simpa using ih j (by simpa using h)
theorem b8_at {w : World} {B : Nat} {A : Option Addr} {l : List B8} (h : Reads w B 8 A l.length (bcs l)) {j : Nat} (hj : j < l.length) :
    ∃ ad, A = some ad ∧ (ad.add (j * 8)).block < B ∧ w.cell? (ad.add (j * 8)) = some (.int .i64 l[j].id) ∧ w.cell? ⟨(ad.add (j * 8)).block, (ad.add (j * 8)).off + 1, none⟩ = some (.int .i64 l[j].x0) ∧ w.cell? ⟨(ad.add (j * 8)).block, (ad.add (j * 8)).off + 2, none⟩ = some (.int .i64 l[j].z0) ∧
      w.cell? ⟨(ad.add (j * 8)).block, (ad.add (j * 8)).off + 3, none⟩ = some (.int .i64 l[j].x1) ∧ w.cell? ⟨(ad.add (j * 8)).block, (ad.add (j * 8)).off + 4, none⟩ = some (.int .i64 l[j].z1) ∧ w.cell? ⟨(ad.add (j * 8)).block, (ad.add (j * 8)).off + 5, none⟩ = some (.int .i64 l[j].y0) ∧
      w.cell? ⟨(ad.add (j * 8)).block, (ad.add (j * 8)).off + 6, none⟩ = some (.int .i64 l[j].y1) ∧ w.cell? ⟨(ad.add (j * 8)).block, (ad.add (j * 8)).off + 7, none⟩ = some (.int .i64 l[j].ar) := by
  obtain ⟨ad, rfl, hb, hc⟩ := h.2 (by omega)
  have g := bcs_get l j hj
  have k : ∀ q u, l[j].cs[q]? = some u → q < 8 → w.cell? ((ad.add (j * 8)).add q) = some u := fun q u hu hq => by
    rw [add_of_add]; exact hc _ _ ((g q hq).trans hu)
  exact ⟨ad, rfl, by rw [block_of_add]; exact hb, hc _ _ (g 0 (by omega)), k 1 _ rfl (by omega), k 2 _ rfl (by omega), k 3 _ rfl (by omega), k 4 _ rfl (by omega), k 5 _ rfl (by omega), k 6 _ rfl (by omega), k 7 _ rfl (by omega)⟩
/-- A row of boxes, out of a row of numbers. -/
def b8s (xs : List Value) : List B8 := (List.range (xs.length / 8)).map fun k => ⟨intOf (xs.getD (k * 8) .nilIface), intOf (xs.getD (k * 8 + 1) .nilIface), intOf (xs.getD (k * 8 + 2) .nilIface), intOf (xs.getD (k * 8 + 3) .nilIface), intOf (xs.getD (k * 8 + 4) .nilIface), intOf (xs.getD (k * 8 + 5) .nilIface), intOf (xs.getD (k * 8 + 6) .nilIface), intOf (xs.getD (k * 8 + 7) .nilIface)⟩
theorem b8s_ok {B : Nat} {w : World} {v : Value} {xs : List Value} (h : InVal B w v xs [.i, .i, .i, .i, .i, .i, .i, .i]) : ∃ A c, v = .slice A (b8s xs).length c ∧ Reads w B 8 A (b8s xs).length (bcs (b8s xs)) := by
  obtain ⟨A, len, c, rfl, hl, hc, ht⟩ := h
  have hl3 : xs.length = len * 8 := hl
  have hn : (b8s xs).length = len := by simp [b8s, hl3]
  have he : bcs (b8s xs) = xs := by
    refine List.ext_getElem? fun q => ?_
    by_cases hq : q < len * 8
    · have hj : q / 8 < len := by omega
      obtain ⟨n0, r0, e0, n1, r1, e1, n2, r2, e2, n3, r3, e3, n4, r4, e4, n5, r5, e5, n6, r6, e6, n7, r7, e7, e8⟩ : ∃ n0 r0, (xs.drop (q / 8 * 8)).take 8 = .int .i64 n0 :: r0 ∧ ∃ n1 r1, r0 = .int .i64 n1 :: r1 ∧ ∃ n2 r2, r1 = .int .i64 n2 :: r2 ∧ ∃ n3 r3, r2 = .int .i64 n3 :: r3 ∧ ∃ n4 r4, r3 = .int .i64 n4 :: r4 ∧ ∃ n5 r5, r4 = .int .i64 n5 :: r5 ∧ ∃ n6 r6, r5 = .int .i64 n6 :: r6 ∧ ∃ n7 r7, r6 = .int .i64 n7 :: r7 ∧ r7 = [] := ht (q / 8) hj
      subst e8 e7 e6 e5 e4 e3 e2 e1
      have g : ∀ m, m < 8 → xs[q / 8 * 8 + m]? = [Value.int .i64 n0, .int .i64 n1, .int .i64 n2, .int .i64 n3, .int .i64 n4, .int .i64 n5, .int .i64 n6, .int .i64 n7][m]? := fun m hm => by
        rw [← e0, List.getElem?_take_of_lt hm, List.getElem?_drop]
      have g0 := g 0 (by omega)
      have hv : (b8s xs)[q / 8]'(by rw [hn]; exact hj) = ⟨n0, n1, n2, n3, n4, n5, n6, n7⟩ := by
        simp only [b8s, List.getElem_map, List.getElem_range, List.getD_eq_getElem?_getD]
        rw [Nat.add_zero] at g0
        rw [g0, g 1 (by omega), g 2 (by omega), g 3 (by omega), g 4 (by omega), g 5 (by omega), g 6 (by omega), g 7 (by omega)]; rfl
      have hb := bcs_get (b8s xs) (q / 8) (by rw [hn]; exact hj) (q % 8) (Nat.mod_lt _ (by omega))
      have e : q / 8 * 8 + q % 8 = q := by omega
      rw [hv, e] at hb
      have hx := g (q % 8) (Nat.mod_lt _ (by omega))
      rw [e] at hx
      rw [hb, hx]; rfl
    · rw [List.getElem?_eq_none (by rw [bcs_length, hn]; omega), List.getElem?_eq_none (by omega)]
  rw [hn, he]
  exact ⟨A, c, rfl, hl3, fun h0 => hc h0⟩
def inB (b : B8) (x z y : Int) : Bool := decide (b.x0 ≤ x) && decide (x ≤ b.x1) && decide (b.z0 ≤ z) && decide (z ≤ b.z1) && decide (b.y0 ≤ y) && decide (y ≤ b.y1)
/-- The last that is so, of those that come late. -/
def lastStep (x z y : Int) (o : Option B8) (b : B8) : Option B8 := if inB b x z y = true ∧ (∀ p, o = some p → p.id ≤ b.id) then some b else o
def lastF (l : List B8) (x z y : Int) : Option B8 := l.foldl (lastStep x z y) none
def ofF (l : List B8) (x z y : Int) : Int := match lastF l x z y with
  | none => 1
  | some b => b.ar
theorem lastF_snoc (l : List B8) (b : B8) (x z y : Int) : lastF (l ++ [b]) x z y = lastStep x z y (lastF l x z y) b := by simp [lastF]
theorem aIn_any (b : B8) (x z y : Int) (w : World) : Calls Try.prog 17 #[.agg b.cs.toArray, .agg #[.int .i64 x, .int .i64 z, .int .i64 y]] w fun en w' => en = .returned (.bool (inB b x z y)) ∧ Below w.heap.size w w' := by
  have h := aInC_holds (b.cs ++ [.int .i64 x, .int .i64 z, .int .i64 y]) ⟨b.id, _, rfl, b.x0, _, rfl, b.z0, _, rfl, b.x1, _, rfl, b.z1, _, rfl, b.y0, _, rfl, b.y1, _, rfl, b.ar, _, rfl, x, _, rfl, z, _, rfl, y, _, rfl, rfl⟩ w
  refine h.mono fun en w' ⟨he, hb⟩ => ⟨?_, hb⟩
  rw [he]
  show Ending.returned (.bool (aInF b.id b.x0 b.z0 b.x1 b.z1 b.y0 b.y1 b.ar x z y)) = _
  rw [aInF_eq]; rfl
theorem rIn_any (b : B8) (x z y : Int) (w : World) : Calls Try.prog 18 #[.agg b.cs.toArray, .agg #[.int .i64 x, .int .i64 z, .int .i64 y]] w fun en w' => en = .returned (.bool (inB b x z y)) ∧ Below w.heap.size w w' := by
  have h := rInC_holds (b.cs ++ [.int .i64 x, .int .i64 z, .int .i64 y]) ⟨b.id, _, rfl, b.x0, _, rfl, b.z0, _, rfl, b.x1, _, rfl, b.z1, _, rfl, b.y0, _, rfl, b.y1, _, rfl, b.ar, _, rfl, x, _, rfl, z, _, rfl, y, _, rfl, rfl⟩ w
  refine h.mono fun en w' ⟨he, hb⟩ => ⟨?_, hb⟩
  rw [he]
  show Ending.returned (.bool (rInF b.id b.x0 b.z0 b.x1 b.z1 b.y0 b.y1 b.ar x z y)) = _
  rw [rInF_eq]; rfl
theorem early_any (p q : B8) (w : World) : Calls Try.prog 34 #[.agg p.cs.toArray, .agg q.cs.toArray] w fun en w' => en = .returned (.bool (decide (p.id < q.id))) ∧ Below w.heap.size w w' := by
  have h := aOf1C_holds (p.cs ++ q.cs) ⟨p.id, _, rfl, p.x0, _, rfl, p.z0, _, rfl, p.x1, _, rfl, p.z1, _, rfl, p.y0, _, rfl, p.y1, _, rfl, p.ar, _, rfl, q.id, _, rfl, q.x0, _, rfl, q.z0, _, rfl, q.x1, _, rfl, q.z1, _, rfl, q.y0, _, rfl, q.y1, _, rfl, q.ar, _, rfl, rfl⟩ w
  refine h.mono fun en w' ⟨he, hb⟩ => ⟨?_, hb⟩
  rw [he]
  show Ending.returned (.bool (aOf1F p.id p.x0 p.z0 p.x1 p.z1 p.y0 p.y1 p.ar q.id q.x0 q.z0 q.x1 q.z1 q.y0 q.y1 q.ar)) = _
  rw [aOf1F_eq]
end Go.Proofs.Ytbjbiimkhpfieaa
