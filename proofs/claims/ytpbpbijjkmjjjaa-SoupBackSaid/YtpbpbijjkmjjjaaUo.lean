/- Which boxes may be: soup.all and soup.boxes, by walks. No conditions but that things lie where they are said to lie. -/
import Derived.Test.YtpbpbijjkmjjjaaUn
set_option linter.unusedSimpArgs false
set_option linter.unusedVariables false
namespace Go.Proofs.Ytpbpbijjkmjjjaa
open Go Go.RowKit Go.Sx
attribute [local go_sem] Oper.semAt_some
/-- May a box be, but for its id? -/
noncomputable def boxMay (W D : Int) (b : B8) : Bool := strOk b.x0 b.x1 W && strOk b.z0 b.z1 D && yOk b.y0 b.y1 && arOk b.ar 0 7
/-- One of the checks, asked whether it fails. -/
theorem ask_any (g : Nat) (lb : Array Value) (b : Bool) (w : World) (eg : ∀ args w, (callFunc g args).run Try.prog w = .ok (.enter g args) w) (h : ∀ W, Below w.heap.size w W → Calls Try.prog g lb W fun en w' => en = .returned (.bool b) ∧ Below W.heap.size W w') :
    Calls Try.prog 77 #[.func (.func g) #[] lb] w fun en w' => en = .returned (.bool (!b)) ∧ Below w.heap.size w w' := by
  have hh := h w (Below.refl _ _)
  clear h
  refine (callsIn_wide (n := 6)).1 ?_
  refine callsIn_of_wp Try.func77 rfl trivial ?_
  simp only [Try.ntmps77, List.size_toArray, List.length_cons, List.length_nil, Nat.reduceAdd, Nat.reduceSub, Array.replicate_succ, Array.replicate_zero, List.push_toArray, List.append_toArray, List.nil_append, List.cons_append]
  gi_wp2
  refine ⟨trivial, (callsIn_wide.2 hh).mono ?_⟩
  rintro en w3 ⟨rfl, hb3⟩
  gi_wp2
  go_ret
  exact ⟨rfl, hb3⟩
/-- A check that is handed on: its function, what it captured, its answer. -/
def CkAt (w : World) (x : Nat × Array Value × Bool) : Prop :=
  (∀ args w, (callFunc x.1 args).run Try.prog w = .ok (.enter x.1 args) w) ∧ ∀ W, Below w.heap.size w W → Calls Try.prog x.1 x.2.1 W fun en w' => en = .returned (.bool x.2.2) ∧ Below W.heap.size W w'
def AllNo (l : List (Nat × Array Value × Bool)) : Prop := l.all (·.2.2) = false
def ckv (x : Nat × Array Value × Bool) : Value := .func (.func x.1) #[] x.2.1
set_option maxHeartbeats 4000000 in
set_option maxRecDepth 100000 in
theorem askAll_any (l : List (Nat × Array Value × Bool)) (A : Option Addr) (cap : Nat) (w : World) (hl : l.length ≤ 10) (hr : Reads w w.heap.size 1 A l.length (l.map ckv)) (hc : ∀ x ∈ l, CkAt w x) :
    Calls Try.prog 83 #[.slice A l.length cap, .func (.func 77) #[] #[]] w fun en w' => (∃ q : Int, en = .returned (.int .i64 q) ∧ (0 ≤ q ↔ AllNo l)) ∧ Below w.heap.size w w' := by
  refine (callsIn_wide (n := 6)).1 ?_
  refine callsIn_of_wp Try.func83 rfl trivial ?_
  simp only [Try.ntmps83, List.size_toArray, List.length_cons, List.length_nil, Nat.reduceAdd, Nat.reduceSub, Array.replicate_succ, Array.replicate_zero, List.push_toArray, List.append_toArray, List.nil_append, List.cons_append]
  gi_wp2
  gi_loopw [8] (fun x wr => ∃ k : Nat, x = .int .i64 k ∧ k ≤ l.length ∧ Hid (l.all (·.2.2) = (l.drop k).all (·.2.2)) ∧ Below w.heap.size w wr) (fun x _ => l.length - (intOf x).toNat)
  case atStart => exact ⟨0, rfl, Nat.zero_le _, Lib.hid rfl, Below.refl _ _⟩
  case round =>
    obtain ⟨k, rfl, hk, hno, hlow⟩ := hrel
    by_cases hkn : k < l.length
    · have hkn' : (k : Int) < (l.length : Int) := by omega
      have hwk : IntKind.i64.wrap ((k : Int) + 1) = (k : Int) + 1 := by rw [IntKind.wrap_i64]; omega
      obtain ⟨ad, u, rfl, hbl, hu, hcu⟩ := (hr.below hlow).at_ hkn
      have hd : l.drop k = l[k] :: l.drop (k + 1) := List.drop_eq_getElem_cons hkn
      have hck := hc l[k] (List.getElem_mem hkn)
      rw [List.getElem?_map, List.getElem?_eq_getElem hkn, Option.map_some] at hu
      injection hu with hu
      subst hu
      replace hno := Lib.hid (hno.out.trans (by rw [hd, List.all_cons]))
      generalize l[k] = x at hcu hck hno
      obtain ⟨g, lb, b⟩ := x
      unfold ckv at hcu
      simp only at hcu hno
      have ha := ask_any g lb b wr hck.1 (fun W h => hck.2 W (hlow.trans (h.mono hlow.size)))
      clear hck
      cases b with
      | false =>
        have hal : Hid (l.all (·.2.2) = false) := Lib.hid (by rw [hno.out]; rfl)
        gi_wp2
        refine ⟨trivial, (callsIn_wide.2 ha).mono ?_⟩
        rintro en w3 ⟨rfl, hb3⟩
        gi_wp2
        go_ret
        exact ⟨⟨_, rfl, ⟨fun _ => hal.out, fun _ => Int.natCast_nonneg k⟩⟩, hlow.trans (hb3.mono hlow.size)⟩
      | true =>
        replace hno : Hid (l.all (·.2.2) = (l.drop (k + 1)).all (·.2.2)) := Lib.hid (by rw [hno.out]; rfl)
        gi_wp2
        refine ⟨trivial, (callsIn_wide.2 ha).mono ?_⟩
        rintro en w3 ⟨rfl, hb3⟩
        gi_wp2
        go_roundw
        case rel => exact ⟨k + 1, by go_num, by omega, hno, hlow.trans (hb3.mono hlow.size)⟩
        case measure => simp [intOf]; omega
    · obtain rfl : k = l.length := by omega
      have hal : Hid (l.all (·.2.2) = true) := Lib.hid (by rw [hno.out, List.drop_length]; rfl)
      gi_wp2
      go_ret
      exact ⟨⟨_, rfl, ⟨fun h => absurd h (by decide), fun h => by have h' : l.all (·.2.2) = false := h; rw [hal.out] at h'; cases h'⟩⟩, hlow⟩
set_option maxHeartbeats 4000000 in
set_option maxRecDepth 100000 in
theorem all_any (l : List (Nat × Array Value × Bool)) (A : Option Addr) (cap : Nat) (w : World) (hl : l.length ≤ 10) (hr : Reads w w.heap.size 1 A l.length (l.map ckv)) (hc : ∀ x ∈ l, CkAt w x) :
    Calls Try.prog 55 #[.slice A l.length cap] w fun en w' => en = .returned (.bool (l.all (·.2.2))) ∧ Below w.heap.size w w' := by
  have h1 := askAll_any l A cap w hl hr hc
  have h2 : Calls Try.prog 76 #[.slice A l.length cap, .func (.func 77) #[] #[]] w fun en w' => en = .returned (.bool (!l.all (·.2.2))) ∧ Below w.heap.size w w' := by
    clear hr hc
    unfold AllNo at h1
    generalize l.all (·.2.2) = b at h1
    refine (callsIn_wide (n := 6)).1 ?_
    refine callsIn_of_wp Try.func76 rfl trivial ?_
    simp only [Try.ntmps76, List.size_toArray, List.length_cons, List.length_nil, Nat.reduceAdd, Nat.reduceSub, Array.replicate_succ, Array.replicate_zero, List.push_toArray, List.append_toArray, List.nil_append, List.cons_append]
    gi_wp2
    refine ⟨trivial, (callsIn_wide.2 h1).mono ?_⟩
    rintro en w3 ⟨⟨q, rfl, hq⟩, hb3⟩
    have hq' : Hid (decide (0 ≤ q) = !b) := Lib.hid (by cases b <;> simp [hq])
    clear hq
    gi_wp2
    go_ret
    exact ⟨by rw [← hq'.out]; rfl, hb3⟩
  clear h1 hr hc
  generalize l.all (·.2.2) = b at h2
  refine (callsIn_wide (n := 6)).1 ?_
  refine callsIn_of_wp Try.func55 rfl trivial ?_
  simp only [Try.ntmps55, List.size_toArray, List.length_cons, List.length_nil, Nat.reduceAdd, Nat.reduceSub, Array.replicate_succ, Array.replicate_zero, List.push_toArray, List.append_toArray, List.nil_append, List.cons_append]
  gi_wp2
  refine ⟨trivial, (callsIn_wide.2 h2).mono ?_⟩
  rintro en w3 ⟨rfl, hb3⟩
  gi_wp2
  go_ret
  exact ⟨by cases b <;> rfl, hb3⟩
end Go.Proofs.Ytpbpbijjkmjjjaa
