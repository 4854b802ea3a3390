/- links.Build's closure by a walk: where the floors of a column lead. No conditions but that the grid lies where it is said to lie. -/
import Derived.Test.YtcdfojfafnecdaaMg
import Derived.Test.YtcdfojfafnecdaaGe
import Derived.Deep.CutRange
namespace Go.Proofs.Ytcdfojfafnecdaa
open Go Go.RowKit Go.Sx
/-- Where something leads; -1: nowhere. -/
def optI : Option Nat → Int
  | some n => n
  | none => -1
def lk4 (t : Nat → Option Nat) : List Value := [.int .i64 (optI (t 0)), .int .i64 (optI (t 1)), .int .i64 (optI (t 2)), .int .i64 (optI (t 3))]
def lcs (tt : Nat → Nat → Option Nat) : Nat → List Value
  | 0 => []
  | n + 1 => lcs tt n ++ lk4 (tt n)
theorem infoL : (Try.prog.info? 75).map (fun i => (i.zero, i.size, i.bytes)) = some (some (.agg #[.int .i64 0, .int .i64 0, .int .i64 0, .int .i64 0]), 4, 32) := by kernel_rfl
/-- The first q are set. -/
def upQ (t : Nat → Option Nat) (q d : Nat) : Int := if d < q then optI (t d) else -1
def upA (t : Nat → Option Nat) (q : Nat) : Array Value := #[.int .i64 (upQ t q 0), .int .i64 (upQ t q 1), .int .i64 (upQ t q 2), .int .i64 (upQ t q 3)]
theorem upA_some {t : Nat → Option Nat} {q m : Nat} (hq : q < 4) (h : t q = some m) : (upA t q).setIfInBounds q (.int .i64 m) = upA t (q + 1) := by
  have hq' : q = 0 ∨ q = 1 ∨ q = 2 ∨ q = 3 := by omega
  rcases hq' with rfl | rfl | rfl | rfl <;> simp [upA, upQ, h, optI]
theorem upA_none {t : Nat → Option Nat} {q : Nat} (hq : q < 4) (h : t q = none) : upA t (q + 1) = upA t q := by
  have hq' : q = 0 ∨ q = 1 ∨ q = 2 ∨ q = 3 := by omega
  rcases hq' with rfl | rfl | rfl | rfl <;> simp [upA, upQ, h, optI]
theorem lk4_new (w : World) (t : Nat → Option Nat) (T : TypeId) : ∀ j u, (lk4 t)[j]? = some u → (w.alloc (.cells #[.int .i64 (optI (t 0)), .int .i64 (optI (t 1)), .int .i64 (optI (t 2)), .int .i64 (optI (t 3))] T)).cell? ((⟨w.heap.size, 0, none⟩ : Addr).add j) = some u := by
  intro j u hu
  have h := World.alloc_heap_new w (.cells #[.int .i64 (optI (t 0)), .int .i64 (optI (t 1)), .int .i64 (optI (t 2)), .int .i64 (optI (t 3))] T)
  match j, hu with
  | 0, hu => injection hu with hu; subst hu; exact cell_of h rfl
  | 1, hu => injection hu with hu; subst hu; exact cell_of h rfl
  | 2, hu => injection hu with hu; subst hu; exact cell_of h rfl
  | 3, hu => injection hu with hu; subst hu; exact cell_of h rfl
theorem lk4_one (t : Nat → Option Nat) : ∀ u ∈ lk4 t, u.oneCell' = true := by
  intro u hu
  simp only [lk4, List.mem_cons, List.not_mem_nil, or_false] at hu
  rcases hu with rfl | rfl | rfl | rfl <;> rfl
set_option maxHeartbeats 2000000 in
set_option maxRecDepth 100000 in
theorem build1_any (a b c d e f g : Int) (B M : Nat) (X Z W D x z : Int) (rows : List (List V3)) (A : Option Addr) (cap : Nat) (w : World) (hg : GAt B X Z W D A rows.length cap w) (hr : RowsAt w w.heap.size A rows) (ho : gridOk X Z W D rows) (hx : -900 ≤ x ∧ x ≤ 900) (hz : -900 ≤ z ∧ z ≤ 900)
    (hM : w.heap[M]? = some (.cells #[.int .i64 a, .int .i64 b, .int .i64 c, .int .i64 d, .int .i64 e, .int .i64 f, .int .i64 g, .pointer (some ⟨B, 0, none⟩)] 83 (0, 0))) (n : Nat) (hn : n ≤ 8) (Al : Option Addr) (cl : Nat) :
    Calls Try.prog 39 #[.int .i64 x, .int .i64 z, .slice Al n cl, .pointer (some ⟨M, 0, none⟩)] w fun en w' =>
      ∃ v, en = .returned v ∧ w'.ownsRow w.heap.size 75 4 v n (lcs (fun k d' => toF (lkF a b c d e f g) (colOf X Z W D rows) x z k d') n) ∧ Below w.heap.size w w' := by
  have hto := fun (W' : World) (hb : Below w.heap.size w W') (k dir : Int) => to_any a b c d e f g B X Z W D x z k dir rows A cap W' (hg.below hb hg.lt) ((hr.below hb).more hb.size) ho hx hz
  unfold modv at hto
  have hMl := lt_of_block hM
  generalize htt : (fun k d' : Nat => toF (lkF a b c d e f g) (colOf X Z W D rows) x z k d') = tt
  go_enter Try.func39, Try.ntmps39
  go_wp2
  go_loopg [8, 16] n (fun k u8 u16 wr => ∃ j : Nat, u16 = .int .i64 j ∧ k + j = n ∧ wr.ownsRow w.heap.size 75 4 u8 j (lcs tt j) ∧ Below w.heap.size w wr)
  case atStart => exact ⟨0, rfl, rfl, World.ownsRow_nil _ _ _ _, Below.refl _ _⟩
  case round =>
    obtain ⟨j, rfl, hkj, hrow, hlow⟩ := hrel
    by_cases hjn : j < n
    · have hjn' : (j : Int) < (n : Int) := by omega
      have h4 : ∀ d' : Nat, d' < 4 → tt j d' = toF (lkF a b c d e f g) (colOf X Z W D rows) x z j d' := fun d' _ => by rw [← htt]
      obtain ⟨wo, rfl⟩ : ∃ wo, wo = wr := ⟨wr, rfl⟩
      go_wp2
      go_loopg [20] 4 (fun k u20 wt => ∃ q : Nat, u20 = .int .i64 q ∧ k + q = 4 ∧ wt.heap[wo.heap.size]? = some (.cells (upA (tt j) q) 75 (0, 0)) ∧ Below wo.heap.size wo wt)
      case atStart => exact ⟨0, rfl, rfl, World.alloc_heap_new _ _, (Below.refl _ _).alloc (Nat.le_refl _) _⟩
      case round =>
        obtain ⟨q, rfl, hkq, hO, hbt⟩ := hrel
        have hbw := hlow.trans (hbt.mono hlow.size)
        have hMt := (hbw.block M hMl).trans hM
        by_cases hq : q < 4
        · have hq' : (q : Int) < 4 := by omega
          have ht := hto wr hbw j q
          have m0 := cell_of hMt (j := 0) rfl
          have m1 := cell_of hMt (j := 1) rfl
          have m2 := cell_of hMt (j := 2) rfl
          have m3 := cell_of hMt (j := 3) rfl
          have m4 := cell_of hMt (j := 4) rfl
          have m5 := cell_of hMt (j := 5) rfl
          have m6 := cell_of hMt (j := 6) rfl
          have m7 := cell_of hMt (j := 7) rfl
          rw [← h4 q hq] at ht
          have hwq : IntKind.i64.wrap ((q : Int) + 1) = ((q + 1 : Nat) : Int) := by rw [IntKind.wrap_i64]; omega
          have hwl : wo.heap.size < wr.heap.size := lt_of_block hO
          clear hto htt h4
          cases htq : tt j q with
          | none =>
            rw [htq] at ht
            simp only [OptRet] at ht
            go_wp2_with (go_at_call 40; refine ht.mono ?_; rintro en w3 ⟨rfl, hb3⟩)
            go_roundg (4 - (q + 1))
            case measure => omega
            case rel => exact ⟨q + 1, by go_num, by omega, by rw [upA_none hq htq]; exact (hb3.block _ hwl).trans hO, hbt.trans (hb3.mono hbt.size)⟩
          | some m =>
            rw [htq] at ht
            simp only [OptRet] at ht
            have hf : ∀ w3, Below wr.heap.size wr w3 → w3.frozen? ⟨wo.heap.size, q, none⟩ = false ∧ ∃ u, w3.cell? ⟨wo.heap.size, q, none⟩ = some u := fun w3 hb3 => by
              have h3 := (hb3.block _ hwl).trans hO
              refine ⟨not_frozen h3, ?_⟩
              have hq' : q = 0 ∨ q = 1 ∨ q = 2 ∨ q = 3 := by omega
              rcases hq' with rfl | rfl | rfl | rfl <;> exact ⟨_, cell_of h3 rfl⟩
            go_wp2_with (go_at_call 40; refine ht.mono ?_; rintro en w3 ⟨rfl, hb3⟩; obtain ⟨hf3, u3, hu3⟩ := hf w3 hb3)
            go_roundg (4 - (q + 1))
            case measure => omega
            case rel =>
              have h3 := set_block (k := q) ((hb3.block _ hwl).trans hO) (.int .i64 m)
              rw [upA_some hq htq] at h3
              exact ⟨q + 1, by go_num, by omega, h3, (hbt.trans (hb3.mono hbt.size)).grown (grownBy_set _ _ _ _) (by have := hbt.size; have := hb3.size; omega) (fun k e => by injection e with e; omega)⟩
        · obtain rfl : q = 4 := by omega
          have o0 : wr.cell? ⟨wo.heap.size, 0, none⟩ = some (.int .i64 (optI (tt j 0))) := cell_of hO rfl
          have o1 : wr.cell? ⟨wo.heap.size, 1, none⟩ = some (.int .i64 (optI (tt j 1))) := cell_of hO rfl
          have o2 : wr.cell? ⟨wo.heap.size, 2, none⟩ = some (.int .i64 (optI (tt j 2))) := cell_of hO rfl
          have o3 : wr.cell? ⟨wo.heap.size, 3, none⟩ = some (.int .i64 (optI (tt j 3))) := cell_of hO rfl
          have hwj : IntKind.i64.wrap ((j : Int) + 1) = ((j + 1 : Nat) : Int) := by rw [IntKind.wrap_i64]; omega
          obtain ⟨i0, hi, hz0, hz1, hz2⟩ := info_parts infoL
          have hrow2 := own_below hrow hbt
          clear hto htt h4 hO hMt
          go_wp2_with (at_builtin; refine wpList_append_own_at _ rfl _ _ 73 rfl w.heap.size 75 i0 _ 4 32 Try.underlying73 hi hz0 hz1 hz2 (by decide) (by decide) _ _ _ rfl (hrow2.alloc _) ⟨wr.heap.size, 0, none⟩ 1 1 (lk4 (tt j)) rfl rfl (lk4_new _ _ _) (lk4_one _) (by unfold maxLen; omega) (by omega) (by simp; have := hbw.size; omega) ?_; intro v8 w8 hown8 hg8 hnil8 hloc8)
          go_roundg (n - (j + 1))
          case measure => omega
          case rel => exact ⟨j + 1, by go_num, by omega, hown8, (hbw.alloc hbw.size _).grown hg8 (by simp; have := hbw.size; omega) (fun k e => (hrow2.lt k e).1)⟩
    · obtain rfl : j = n := by omega
      clear hto htt
      go_wp2
      go_ret
      exact ⟨_, rfl, hrow, hlow⟩
end Go.Proofs.Ytcdfojfafnecdaa
