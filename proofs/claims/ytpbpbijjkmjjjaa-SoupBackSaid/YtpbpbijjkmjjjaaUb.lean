/- Triangles, boxes and hops as plain data; slices.Clone of them by a walk. No conditions but that they lie where they are said to lie. -/
import Derived.Test.YtpbpbijjkmjjjaaUa
import Derived.Maps.AppendAt
set_option linter.unusedSimpArgs false
set_option linter.unusedVariables false
namespace Go.Proofs.Ytpbpbijjkmjjjaa
open Go Go.RowKit Go.Sx
structure T10 where
  id : Int
  x0 : Int
  y0 : Int
  z0 : Int
  x1 : Int
  y1 : Int
  z1 : Int
  x2 : Int
  y2 : Int
  z2 : Int
deriving DecidableEq
def T10.cs (t : T10) : List Value := [.int .i64 t.id, .int .i64 t.x0, .int .i64 t.y0, .int .i64 t.z0, .int .i64 t.x1, .int .i64 t.y1, .int .i64 t.z1, .int .i64 t.x2, .int .i64 t.y2, .int .i64 t.z2]
theorem T10.len (t : T10) : t.cs.length = 10 := rfl
theorem T10.one (t : T10) : ∀ u ∈ t.cs, u.oneCell' = true := by
  intro u hu
  simp only [T10.cs, List.mem_cons, List.not_mem_nil, or_false] at hu
  rcases hu with rfl | rfl | rfl | rfl | rfl | rfl | rfl | rfl | rfl | rfl <;> rfl
/-- As a value. -/
def T10.v (t : T10) : Value := .agg #[.int .i64 t.id, .int .i64 t.x0, .int .i64 t.y0, .int .i64 t.z0, .int .i64 t.x1, .int .i64 t.y1, .int .i64 t.z1, .int .i64 t.x2, .int .i64 t.y2, .int .i64 t.z2]
theorem infoTri : (Try.prog.info? 33).map (fun i => (i.zero, i.size, i.bytes)) = some (some (.agg #[.int .i64 0, .int .i64 0, .int .i64 0, .int .i64 0, .int .i64 0, .int .i64 0, .int .i64 0, .int .i64 0, .int .i64 0, .int .i64 0]), 10, 80) := by kernel_rfl
set_option maxHeartbeats 2000000 in
set_option maxRecDepth 100000 in
theorem cloneTri_any (r : List T10) (A : Option Addr) (cap : Nat) (w : World) (hr : Reads w w.heap.size 10 A r.length (fl T10.cs r)) (hl : r.length ≤ 1000) :
    Calls Try.prog 49 #[.slice A r.length cap] w fun en w' => ∃ v, en = .returned v ∧ w'.ownsRow w.heap.size 33 10 v r.length (fl T10.cs r) ∧ Below w.heap.size w w' := by
  obtain ⟨i0, hi, hz0, hz1, hz2⟩ := info_parts infoTri
  have hmx : maxLen = 9223372036854775807 := rfl
  have hn1 : ∀ (n c : Nat) (w : World), (binOp BinOp.eql 24 (Value.slice none n c) (Value.slice none 0 0)).run Try.prog w = .ok (.bool true) w := fun _ _ _ => by kernel_rfl
  have hn2 : ∀ (ad : Addr) (n c : Nat) (w : World), (binOp BinOp.eql 24 (Value.slice (some ad) n c) (Value.slice none 0 0)).run Try.prog w = .ok (.bool false) w := fun _ _ _ _ => by kernel_rfl
  go_enter Try.func49, Try.ntmps49
  cases A with
  | none =>
    have h0 : r = [] := by
      cases r with
      | nil => rfl
      | cons a l => obtain ⟨ad, h, _⟩ := hr.2 (by simp); cases h
    subst h0
    go_wp2
    go_ret
    exact ⟨_, rfl, World.ownsRow_nil _ _ _ _, Below.refl _ _⟩
  | some ad =>
    have hcell : ∀ j u, (fl T10.cs r)[j]? = some u → (w.alloc (.cells #[] 33)).cell? (ad.add j) = some u := fun j u hj => by
      by_cases h0 : 0 < r.length
      · obtain ⟨ad', e, hb, hc⟩ := hr.2 h0
        injection e with e
        subst e
        rw [World.cell?_alloc_lt w _ _ (by rw [block_of_add]; exact hb)]
        exact hc j u hj
      · have : r = [] := List.eq_nil_of_length_eq_zero (by omega)
        subst this
        simp [fl] at hj
    have hown : (w.alloc (.cells #[] 33)).ownsRow w.heap.size 33 10 (.slice (some ⟨w.heap.size, 0, none⟩) 0 0) 0 [] := ⟨rfl, .inr ⟨w.heap.size, 0, #[], rfl, Nat.le_refl _, World.alloc_heap_new _ _, Nat.le_refl _, by omega, rfl, rfl⟩⟩
    have hone := fl_one T10.one r
    have hlen := fl_length T10.len r
    go_wp2_with (at_builtin; refine wpList_append_own_at _ rfl _ _ 24 rfl w.heap.size 33 i0 (.agg #[.int .i64 0, .int .i64 0, .int .i64 0, .int .i64 0, .int .i64 0, .int .i64 0, .int .i64 0, .int .i64 0, .int .i64 0, .int .i64 0]) 10 80 Try.underlying24 hi hz0 hz1 hz2 rfl (by decide) (.slice (some ⟨w.heap.size, 0, none⟩) 0 0) 0 [] rfl hown ad r.length cap (fl T10.cs r) rfl hlen hcell hone (by omega) (by omega) (by simp) ?_; intro v' w2 hown' hgrow _ _)
    go_ret
    rw [Nat.zero_add, List.nil_append] at hown'
    refine ⟨v', rfl, hown', ?_⟩
    refine ((Below.refl w.heap.size w).alloc (Nat.le_refl _) (.cells #[] 33)).grown hgrow (by simp) (fun j e => ?_)
    obtain rfl : w.heap.size = j := by simpa [Value.ownBlock] using e
    exact Nat.le_refl _
structure B8 where
  id : Int
  x0 : Int
  z0 : Int
  x1 : Int
  z1 : Int
  y0 : Int
  y1 : Int
  ar : Int
deriving DecidableEq
def B8.cs (t : B8) : List Value := [.int .i64 t.id, .int .i64 t.x0, .int .i64 t.z0, .int .i64 t.x1, .int .i64 t.z1, .int .i64 t.y0, .int .i64 t.y1, .int .i64 t.ar]
theorem B8.len (t : B8) : t.cs.length = 8 := rfl
theorem B8.one (t : B8) : ∀ u ∈ t.cs, u.oneCell' = true := by
  intro u hu
  simp only [B8.cs, List.mem_cons, List.not_mem_nil, or_false] at hu
  rcases hu with rfl | rfl | rfl | rfl | rfl | rfl | rfl | rfl <;> rfl
/-- As a value. -/
def B8.v (t : B8) : Value := .agg #[.int .i64 t.id, .int .i64 t.x0, .int .i64 t.z0, .int .i64 t.x1, .int .i64 t.z1, .int .i64 t.y0, .int .i64 t.y1, .int .i64 t.ar]
theorem infoBox : (Try.prog.info? 64).map (fun i => (i.zero, i.size, i.bytes)) = some (some (.agg #[.int .i64 0, .int .i64 0, .int .i64 0, .int .i64 0, .int .i64 0, .int .i64 0, .int .i64 0, .int .i64 0]), 8, 64) := by kernel_rfl
set_option maxHeartbeats 2000000 in
set_option maxRecDepth 100000 in
theorem cloneBox_any (r : List B8) (A : Option Addr) (cap : Nat) (w : World) (hr : Reads w w.heap.size 8 A r.length (fl B8.cs r)) (hl : r.length ≤ 1000) :
    Calls Try.prog 62 #[.slice A r.length cap] w fun en w' => ∃ v, en = .returned v ∧ w'.ownsRow w.heap.size 64 8 v r.length (fl B8.cs r) ∧ Below w.heap.size w w' := by
  obtain ⟨i0, hi, hz0, hz1, hz2⟩ := info_parts infoBox
  have hmx : maxLen = 9223372036854775807 := rfl
  have hn1 : ∀ (n c : Nat) (w : World), (binOp BinOp.eql 25 (Value.slice none n c) (Value.slice none 0 0)).run Try.prog w = .ok (.bool true) w := fun _ _ _ => by kernel_rfl
  have hn2 : ∀ (ad : Addr) (n c : Nat) (w : World), (binOp BinOp.eql 25 (Value.slice (some ad) n c) (Value.slice none 0 0)).run Try.prog w = .ok (.bool false) w := fun _ _ _ _ => by kernel_rfl
  go_enter Try.func62, Try.ntmps62
  cases A with
  | none =>
    have h0 : r = [] := by
      cases r with
      | nil => rfl
      | cons a l => obtain ⟨ad, h, _⟩ := hr.2 (by simp); cases h
    subst h0
    go_wp2
    go_ret
    exact ⟨_, rfl, World.ownsRow_nil _ _ _ _, Below.refl _ _⟩
  | some ad =>
    have hcell : ∀ j u, (fl B8.cs r)[j]? = some u → (w.alloc (.cells #[] 64)).cell? (ad.add j) = some u := fun j u hj => by
      by_cases h0 : 0 < r.length
      · obtain ⟨ad', e, hb, hc⟩ := hr.2 h0
        injection e with e
        subst e
        rw [World.cell?_alloc_lt w _ _ (by rw [block_of_add]; exact hb)]
        exact hc j u hj
      · have : r = [] := List.eq_nil_of_length_eq_zero (by omega)
        subst this
        simp [fl] at hj
    have hown : (w.alloc (.cells #[] 64)).ownsRow w.heap.size 64 8 (.slice (some ⟨w.heap.size, 0, none⟩) 0 0) 0 [] := ⟨rfl, .inr ⟨w.heap.size, 0, #[], rfl, Nat.le_refl _, World.alloc_heap_new _ _, Nat.le_refl _, by omega, rfl, rfl⟩⟩
    have hone := fl_one B8.one r
    have hlen := fl_length B8.len r
    go_wp2_with (at_builtin; refine wpList_append_own_at _ rfl _ _ 25 rfl w.heap.size 64 i0 (.agg #[.int .i64 0, .int .i64 0, .int .i64 0, .int .i64 0, .int .i64 0, .int .i64 0, .int .i64 0, .int .i64 0]) 8 64 Try.underlying25 hi hz0 hz1 hz2 rfl (by decide) (.slice (some ⟨w.heap.size, 0, none⟩) 0 0) 0 [] rfl hown ad r.length cap (fl B8.cs r) rfl hlen hcell hone (by omega) (by omega) (by simp) ?_; intro v' w2 hown' hgrow _ _)
    go_ret
    rw [Nat.zero_add, List.nil_append] at hown'
    refine ⟨v', rfl, hown', ?_⟩
    refine ((Below.refl w.heap.size w).alloc (Nat.le_refl _) (.cells #[] 64)).grown hgrow (by simp) (fun j e => ?_)
    obtain rfl : w.heap.size = j := by simpa [Value.ownBlock] using e
    exact Nat.le_refl _
structure H10 where
  id : Int
  fx : Int
  fz : Int
  fy : Int
  tx : Int
  tz : Int
  ty : Int
  both : Bool
  ar : Int
  co : Int
deriving DecidableEq
def H10.cs (t : H10) : List Value := [.int .i64 t.id, .int .i64 t.fx, .int .i64 t.fz, .int .i64 t.fy, .int .i64 t.tx, .int .i64 t.tz, .int .i64 t.ty, .bool t.both, .int .i64 t.ar, .int .i64 t.co]
theorem H10.len (t : H10) : t.cs.length = 10 := rfl
theorem H10.one (t : H10) : ∀ u ∈ t.cs, u.oneCell' = true := by
  intro u hu
  simp only [H10.cs, List.mem_cons, List.not_mem_nil, or_false] at hu
  rcases hu with rfl | rfl | rfl | rfl | rfl | rfl | rfl | rfl | rfl | rfl <;> rfl
/-- As a value. -/
def H10.v (t : H10) : Value := .agg #[.int .i64 t.id, .int .i64 t.fx, .int .i64 t.fz, .int .i64 t.fy, .int .i64 t.tx, .int .i64 t.tz, .int .i64 t.ty, .bool t.both, .int .i64 t.ar, .int .i64 t.co]
theorem infoHop : (Try.prog.info? 78).map (fun i => (i.zero, i.size, i.bytes)) = some (some (.agg #[.int .i64 0, .int .i64 0, .int .i64 0, .int .i64 0, .int .i64 0, .int .i64 0, .int .i64 0, .bool false, .int .i64 0, .int .i64 0]), 10, 80) := by kernel_rfl
set_option maxHeartbeats 2000000 in
set_option maxRecDepth 100000 in
theorem cloneHop_any (r : List H10) (A : Option Addr) (cap : Nat) (w : World) (hr : Reads w w.heap.size 10 A r.length (fl H10.cs r)) (hl : r.length ≤ 1000) :
    Calls Try.prog 68 #[.slice A r.length cap] w fun en w' => ∃ v, en = .returned v ∧ w'.ownsRow w.heap.size 78 10 v r.length (fl H10.cs r) ∧ Below w.heap.size w w' := by
  obtain ⟨i0, hi, hz0, hz1, hz2⟩ := info_parts infoHop
  have hmx : maxLen = 9223372036854775807 := rfl
  have hn1 : ∀ (n c : Nat) (w : World), (binOp BinOp.eql 26 (Value.slice none n c) (Value.slice none 0 0)).run Try.prog w = .ok (.bool true) w := fun _ _ _ => by kernel_rfl
  have hn2 : ∀ (ad : Addr) (n c : Nat) (w : World), (binOp BinOp.eql 26 (Value.slice (some ad) n c) (Value.slice none 0 0)).run Try.prog w = .ok (.bool false) w := fun _ _ _ _ => by kernel_rfl
  go_enter Try.func68, Try.ntmps68
  cases A with
  | none =>
    have h0 : r = [] := by
      cases r with
      | nil => rfl
      | cons a l => obtain ⟨ad, h, _⟩ := hr.2 (by simp); cases h
    subst h0
    go_wp2
    go_ret
    exact ⟨_, rfl, World.ownsRow_nil _ _ _ _, Below.refl _ _⟩
  | some ad =>
    have hcell : ∀ j u, (fl H10.cs r)[j]? = some u → (w.alloc (.cells #[] 78)).cell? (ad.add j) = some u := fun j u hj => by
      by_cases h0 : 0 < r.length
      · obtain ⟨ad', e, hb, hc⟩ := hr.2 h0
        injection e with e
        subst e
        rw [World.cell?_alloc_lt w _ _ (by rw [block_of_add]; exact hb)]
        exact hc j u hj
      · have : r = [] := List.eq_nil_of_length_eq_zero (by omega)
        subst this
        simp [fl] at hj
    have hown : (w.alloc (.cells #[] 78)).ownsRow w.heap.size 78 10 (.slice (some ⟨w.heap.size, 0, none⟩) 0 0) 0 [] := ⟨rfl, .inr ⟨w.heap.size, 0, #[], rfl, Nat.le_refl _, World.alloc_heap_new _ _, Nat.le_refl _, by omega, rfl, rfl⟩⟩
    have hone := fl_one H10.one r
    have hlen := fl_length H10.len r
    go_wp2_with (at_builtin; refine wpList_append_own_at _ rfl _ _ 26 rfl w.heap.size 78 i0 (.agg #[.int .i64 0, .int .i64 0, .int .i64 0, .int .i64 0, .int .i64 0, .int .i64 0, .int .i64 0, .bool false, .int .i64 0, .int .i64 0]) 10 80 Try.underlying26 hi hz0 hz1 hz2 rfl (by decide) (.slice (some ⟨w.heap.size, 0, none⟩) 0 0) 0 [] rfl hown ad r.length cap (fl H10.cs r) rfl hlen hcell hone (by omega) (by omega) (by simp) ?_; intro v' w2 hown' hgrow _ _)
    go_ret
    rw [Nat.zero_add, List.nil_append] at hown'
    refine ⟨v', rfl, hown', ?_⟩
    refine ((Below.refl w.heap.size w).alloc (Nat.le_refl _) (.cells #[] 78)).grown hgrow (by simp) (fun j e => ?_)
    obtain rfl : w.heap.size = j := by simpa [Value.ownBlock] using e
    exact Nat.le_refl _
end Go.Proofs.Ytpbpbijjkmjjjaa
