/- What the law of links back lies on: its boxes, its calls, what links tell. No conditions. -/
import Derived.Test.YtbjbiimkhpfieaaMo
namespace Go.Proofs.Ytbjbiimkhpfieaa
open Go Go.RowKit Go.Sx
theorem col_in {B : Nat} {X Z W D x z : Int} {rows : List (List V3)} {A : Option Addr} {w : World} (hr : RowsAt w B A rows) (ho : gridOk X Z W D rows) {n : Nat} (hn : n < (colOf X Z W D rows x z).length) :
    ∃ (ad : Addr) (Ai : Option Addr) (ci ki : Nat), A = some ad ∧ ad.block < B ∧ ¬ x < X ∧ ¬ X + W ≤ x ∧ ¬ z < Z ∧ ¬ Z + D ≤ z ∧ (z - Z) * W + x - X = ki ∧ w.cell? (ad.add ki) = some (.slice Ai (colOf X Z W D rows x z).length ci) ∧ Reads w B 3 Ai (colOf X Z W D rows x z).length (vcs (colOf X Z W D rows x z)) := by
  obtain ⟨o1, o2, o3, o4, o5, o6, o7, o8, o9, _⟩ := ho
  by_cases hc : x < X ∨ W ≤ x - X ∨ z < Z ∨ D ≤ z - Z
  · unfold colOf at hn
    rw [if_pos hc] at hn
    simp at hn
  · obtain ⟨p, q, k, hk, hkl, _⟩ := at_idx (X := X) (Z := Z) (W := W) (D := D) (x := x) (z := z) o1 o2 o5 o6 o8 o9 (by omega) (by omega) (by omega) (by omega)
    have hcol : colOf X Z W D rows x z = rows[k] := by
      unfold colOf
      rw [if_neg hc, hk, Int.toNat_natCast, List.getD_eq_getElem?_getD, List.getElem?_eq_getElem hkl]; rfl
    obtain ⟨ad, Ai, ci, hA, hbl, hcell, hrr⟩ := hr.at_ hkl
    refine ⟨ad, Ai, ci, k, hA, hbl, by omega, by omega, by omega, by omega, hk, ?_, ?_⟩
    · rw [hcol]; exact hcell
    · rw [hcol]; exact hrr
def C12 (M G : Nat) (a b c d e f g X Z W D : Int) (A : Option Addr) (n cap : Nat) (w : World) : Prop :=
  w.cell? ⟨M, 0, none⟩ = some (.int .i64 a) ∧ w.cell? ⟨M, 1, none⟩ = some (.int .i64 b) ∧ w.cell? ⟨M, 2, none⟩ = some (.int .i64 c) ∧ w.cell? ⟨M, 3, none⟩ = some (.int .i64 d) ∧ w.cell? ⟨M, 4, none⟩ = some (.int .i64 e) ∧ w.cell? ⟨M, 5, none⟩ = some (.int .i64 f) ∧ w.cell? ⟨M, 6, none⟩ = some (.int .i64 g) ∧
  w.cell? ⟨G, 0, none⟩ = some (.int .i64 X) ∧ w.cell? ⟨G, 1, none⟩ = some (.int .i64 Z) ∧ w.cell? ⟨G, 2, none⟩ = some (.int .i64 W) ∧ w.cell? ⟨G, 3, none⟩ = some (.int .i64 D) ∧ w.cell? ⟨G, 4, none⟩ = some (.slice A n cap)
theorem C12.below {M G N : Nat} {a b c d e f g X Z W D : Int} {A : Option Addr} {n cap : Nat} {w w' : World} (h : C12 M G a b c d e f g X Z W D A n cap w) (hb : Below N w w') (hM : M < N) (hG : G < N) : C12 M G a b c d e f g X Z W D A n cap w' := by
  obtain ⟨h0, h1, h2, h3, h4, h5, h6, h7, h8, h9, h10, h11⟩ := h
  have e0 : ∀ q, w'.cell? ⟨M, q, none⟩ = w.cell? ⟨M, q, none⟩ := fun q => hb.cell (by exact hM)
  have e1 : ∀ q, w'.cell? ⟨G, q, none⟩ = w.cell? ⟨G, q, none⟩ := fun q => hb.cell (by exact hG)
  exact ⟨(e0 _).trans h0, (e0 _).trans h1, (e0 _).trans h2, (e0 _).trans h3, (e0 _).trans h4, (e0 _).trans h5, (e0 _).trans h6, (e1 _).trans h7, (e1 _).trans h8, (e1 _).trans h9, (e1 _).trans h10, (e1 _).trans h11⟩
theorem C12.new (a b c d e f g X Z W D : Int) (A : Option Addr) (n cap : Nat) (w : World) : C12 w.heap.size (w.heap.size + 1) a b c d e f g X Z W D A n cap ((w.alloc (.cells #[.int .i64 a, .int .i64 b, .int .i64 c, .int .i64 d, .int .i64 e, .int .i64 f, .int .i64 g] 23)).alloc (.cells #[.int .i64 X, .int .i64 Z, .int .i64 W, .int .i64 D, .slice A n cap] 26)) := by
  have h0 := CfgB.new a b c d e f g w 23 (.cells #[.int .i64 X, .int .i64 Z, .int .i64 W, .int .i64 D, .slice A n cap] 26)
  have h1 := GAt.new X Z W D A n cap (w.alloc (.cells #[.int .i64 a, .int .i64 b, .int .i64 c, .int .i64 d, .int .i64 e, .int .i64 f, .int .i64 g] 23)) 26
  have e : (w.alloc (.cells #[.int .i64 a, .int .i64 b, .int .i64 c, .int .i64 d, .int .i64 e, .int .i64 f, .int .i64 g] 23)).heap.size = w.heap.size + 1 := by simp
  rw [e] at h1
  obtain ⟨q0, q1, q2, q3, q4, q5, q6⟩ := h0
  exact ⟨q0, q1, q2, q3, q4, q5, q6, h1.hx, h1.hz, h1.hw, h1.hd, h1.hf⟩
/-- What is held in a round. -/
def S18 (M G : Nat) (a b c d e f g X Z W D : Int) (A : Option Addr) (n cap : Nat) (P : Addr) (fx fy fz : Int) (Bf : Nat) (gx gy gz : Int) (w0 w8 w : World) : Prop :=
  w.cell? ⟨M, 0, none⟩ = some (.int .i64 a) ∧ w.cell? ⟨M, 1, none⟩ = some (.int .i64 b) ∧ w.cell? ⟨M, 2, none⟩ = some (.int .i64 c) ∧ w.cell? ⟨M, 3, none⟩ = some (.int .i64 d) ∧ w.cell? ⟨M, 4, none⟩ = some (.int .i64 e) ∧ w.cell? ⟨M, 5, none⟩ = some (.int .i64 f) ∧ w.cell? ⟨M, 6, none⟩ = some (.int .i64 g) ∧
  w.cell? ⟨G, 0, none⟩ = some (.int .i64 X) ∧ w.cell? ⟨G, 1, none⟩ = some (.int .i64 Z) ∧ w.cell? ⟨G, 2, none⟩ = some (.int .i64 W) ∧ w.cell? ⟨G, 3, none⟩ = some (.int .i64 D) ∧ w.cell? ⟨G, 4, none⟩ = some (.slice A n cap) ∧
  w.cell? P = some (.int .i64 fx) ∧ w.cell? ⟨P.block, P.off + 1, none⟩ = some (.int .i64 fy) ∧ w.cell? ⟨P.block, P.off + 2, none⟩ = some (.int .i64 fz) ∧ w.cell? ⟨Bf, 0, none⟩ = some (.int .i64 gx) ∧ w.cell? ⟨Bf, 1, none⟩ = some (.int .i64 gy) ∧ w.cell? ⟨Bf, 2, none⟩ = some (.int .i64 gz) ∧
  (Below w0.heap.size w0 w ∧ Below w8.heap.size w8 w ∧ M < w.heap.size ∧ G < w.heap.size ∧ P.block < w.heap.size ∧ Bf < w.heap.size ∧ w0.heap.size ≤ w.heap.size ∧ w8.heap.size ≤ w.heap.size)
theorem S18.b0 {M G : Nat} {a b c d e f g X Z W D : Int} {A : Option Addr} {n cap : Nat} {P : Addr} {fx fy fz : Int} {Bf : Nat} {gx gy gz : Int} {w0 w8 w : World} (h : S18 M G a b c d e f g X Z W D A n cap P fx fy fz Bf gx gy gz w0 w8 w) : Below w0.heap.size w0 w := by
  unfold S18 at h
  exact h.2.2.2.2.2.2.2.2.2.2.2.2.2.2.2.2.2.2.1
theorem S18.b8 {M G : Nat} {a b c d e f g X Z W D : Int} {A : Option Addr} {n cap : Nat} {P : Addr} {fx fy fz : Int} {Bf : Nat} {gx gy gz : Int} {w0 w8 w : World} (h : S18 M G a b c d e f g X Z W D A n cap P fx fy fz Bf gx gy gz w0 w8 w) : Below w8.heap.size w8 w := by
  unfold S18 at h
  exact h.2.2.2.2.2.2.2.2.2.2.2.2.2.2.2.2.2.2.2.1
set_option maxRecDepth 100000 in
theorem S18.keep {M G : Nat} {a b c d e f g X Z W D : Int} {A : Option Addr} {n cap : Nat} {P : Addr} {fx fy fz : Int} {Bf : Nat} {gx gy gz : Int} {w0 w8 w w' : World} (h : S18 M G a b c d e f g X Z W D A n cap P fx fy fz Bf gx gy gz w0 w8 w) (hb : Below w.heap.size w w') : S18 M G a b c d e f g X Z W D A n cap P fx fy fz Bf gx gy gz w0 w8 w' := by
  obtain ⟨h0, h1, h2, h3, h4, h5, h6, h7, h8, h9, h10, h11, p0, p1, p2, f0, f1, f2, b0, b8, z0, z1, z2, z3, z4, z5⟩ := h
  obtain ⟨t0, t1, t2, t3, t4, t5, t6, t7, t8, t9, t10, t11⟩ := C12.below ⟨h0, h1, h2, h3, h4, h5, h6, h7, h8, h9, h10, h11⟩ hb z0 z1
  have e1 : ∀ q, w'.cell? ⟨P.block, q, none⟩ = w.cell? ⟨P.block, q, none⟩ := fun q => hb.cell (by exact z2)
  have e2 : w'.cell? P = w.cell? P := hb.cell z2
  have e3 : ∀ q, w'.cell? ⟨Bf, q, none⟩ = w.cell? ⟨Bf, q, none⟩ := fun q => hb.cell (by exact z3)
  exact ⟨t0, t1, t2, t3, t4, t5, t6, t7, t8, t9, t10, t11, e2.trans p0, (e1 _).trans p1, (e1 _).trans p2, (e3 _).trans f0, (e3 _).trans f1, (e3 _).trans f2, b0.trans (hb.mono z4), b8.trans (hb.mono z5), Nat.lt_of_lt_of_le z0 hb.size, Nat.lt_of_lt_of_le z1 hb.size, Nat.lt_of_lt_of_le z2 hb.size, Nat.lt_of_lt_of_le z3 hb.size, Nat.le_trans z4 hb.size, Nat.le_trans z5 hb.size⟩
set_option maxRecDepth 100000 in
theorem wakes_any (w : World) : Calls Try.prog 10 #[] w fun en w' => en = .returned (.bool true) ∧ Below w.heap.size w w' := by
  refine (wakes13C_holds [] rfl w).mono fun en w' ⟨he, hb⟩ => ⟨?_, hb⟩
  rw [he]
  have : wakes13C.out [] = .bool true := by kernel_rfl
  rw [this]
theorem rchk_any (a b c d e f g : Int) (w : World) : Calls Try.prog 8 #[cfgv a b c d e f g] w fun en w' => en = .returned (.int .i64 (checkRF a b c d e f g)) ∧ Below w.heap.size w w' :=
  checkRC_holds [.int .i64 a, .int .i64 b, .int .i64 c, .int .i64 d, .int .i64 e, .int .i64 f, .int .i64 g] ⟨a, _, rfl, b, _, rfl, c, _, rfl, d, _, rfl, e, _, rfl, f, _, rfl, g, _, rfl, rfl⟩ w
theorem lk_one {a b c d e f g X Z W D : Int} {rows : List (List V3)} (ho : gridOk X Z W D rows) : ∀ (x z : Int) (p : V3) (i j : Nat) (q r : V3), (colOf X Z W D rows x z)[i]? = some q → (colOf X Z W D rows x z)[j]? = some r → lkF a b c d e f g p q = true → lkF a b c d e f g p r = true → i = j :=
  fun x z _ _ _ _ _ h1 h2 h3 h4 => lkF_one (colOf_ok ho x z) h1 h2 h3 h4
theorem there_facts {a b c d e f g X Z W D x z k d1 dx dz : Int} {rows : List (List V3)} {n : Nat} (ho : gridOk X Z W D rows) (hd : stepD d1 = some (dx, dz)) (h : toF (lkF a b c d e f g) (colOf X Z W D rows) x z k d1 = some n) :
    ∃ kn : Nat, k = kn ∧ kn < (colOf X Z W D rows x z).length ∧ toF (lkF a b c d e f g) (colOf X Z W D rows) (x + dx) (z + dz) n ((d1 + 2) % 4) = some kn ∧
      ∀ hk : kn < (colOf X Z W D rows x z).length, ((colOf X Z W D rows (x + dx) (z + dz)).filter fun q => lkF a b c d e f g (colOf X Z W D rows x z)[kn] q).length = 1 := by
  obtain ⟨hk, p, q, h1, h2, h3⟩ := toF_some _ _ hd h
  have hb := toF_back (fun _ _ => lkF_comm ..) (lk_one ho) hd h
  have hlt := (List.getElem?_eq_some_iff.1 h1).1
  refine ⟨k.toNat, by omega, hlt, hb, fun hk' => ?_⟩
  rw [List.getElem?_eq_getElem hk'] at h1
  have h1 := Option.some.inj h1
  rw [h1]
  exact count_one h2 h3 (fun i j q' r' a1 a2 a3 a4 => lk_one ho _ _ p i j q' r' a1 a2 a3 a4)
set_option maxRecDepth 100000 in
theorem BoolIff.tt {e : Ending} {p : Prop} (h : BoolIff e p) (hp : p) : e = .returned (.bool true) := by
  obtain ⟨b, rfl, hb⟩ := h
  rw [hb.2 hp]
theorem BoolIff.ff {e : Ending} {p : Prop} (h : BoolIff e p) (hp : ¬ p) : e = .returned (.bool false) := by
  obtain ⟨b, rfl, hb⟩ := h
  cases b with
  | false => rfl
  | true => exact absurd (hb.1 rfl) hp
theorem ErrIff.zero {e : Ending} {p : Prop} (h : ErrIff e p) (hp : p) : e = .returned (.int .i64 0) := by
  obtain ⟨n, rfl, hn⟩ := h
  rw [hn.2 hp]
theorem ErrIff.no {e : Ending} {p : Prop} (h : ErrIff e p) (hp : ¬ p) : ∃ n, e = .returned (.int .i64 n) ∧ (n != 0) = true := by
  obtain ⟨n, rfl, hn⟩ := h
  exact ⟨n, rfl, by simp; exact fun h => hp (hn.1 h)⟩
theorem OptIf.get {e : Ending} {p : Prop} {o : Option Nat} (h : OptIf e p o) : (p → OptRet e o) ∧ (¬ p → OptRet e none) := h
end Go.Proofs.Ytbjbiimkhpfieaa
