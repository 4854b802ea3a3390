/- A small symbolic executor over the kit's weakest preconditions: the definitions. No conditions. -/
import Derived.WalkKit
import Derived.Below
import Derived.Deep.Quiet
import Derived.LoopN
import Derived.KernelRfl
namespace Go.Sx
open Go Go.RowKit

inductive Ty where
  | i | b | v
def Ty.same : Ty → Ty → Bool
  | .i, .i | .b, .b | .v, .v => true
  | _, _ => false
theorem Ty.same_eq {x y : Ty} (h : Ty.same x y = true) : x = y := by cases x <;> cases y <;> first | rfl | simp [Ty.same] at h

def boolOf : Value → Bool
  | .bool b => b
  | _ => false

/-- One cell's value, as an expression. -/
inductive E where
  | atom (t : Ty) (n : Nat)
  | int (n : Int)
  | bool (b : Bool)
  | val (v : Value)
  | add (x y : E) | sub (x y : E) | mul (x y : E) | quo (x y : E) | rem (x y : E) | mx (x y : E) | mn (x y : E)
  | lt (x y : E) | le (x y : E) | eq (x y : E) | beq (x y : E) | not (x : E) | and (x y : E) | or (x y : E)
  | ite (t : Ty) (c x y : E)
  | app (t : Ty) (f j : Nat) (args : E)
  | get (t : Ty) (n sz off : Nat) (i : E)  -- a cell of element i of the slice number n that came in
  | len (n sz : Nat)                       -- how many elements it has
  | nil
  | cons (x y : E)

/-- What a called function tells: cell by cell of its result, from the cells of its arguments. -/
structure Con where
  f : Nat
  params : List (Option Nat × List Ty)    -- the kinds of an argument's cells; 'some': an aggregate
  tup : Bool                              -- the result is a tuple
  res : List (Option Nat × List Ty)
  fi : List Value → Nat → Int
  fb : List Value → Nat → Bool
  fv : List Value → Nat → Value

structure Env where
  i : Nat → Int
  b : Nat → Bool
  v : Nat → Value
  fns : List Con
  sl : Nat → List Value := fun _ => []

def findCon (l : List Con) (f : Nat) : Option Con := l.find? (fun x => Nat.beq x.f f)

def w64 (n : Int) : Int := IntKind.i64.wrap n
/-- A value of one cell. -/
def oc : Value → Value
  | .agg _ | .tuple _ => .nilIface
  | v => v

def cellVal (x : Con) (cs : List Value) (t : Ty) (j : Nat) : Value :=
  match t with
  | .i => .int .i64 (x.fi cs j)
  | .b => .bool (x.fb cs j)
  | .v => oc (x.fv cs j)
def appVal (l : List Con) (t : Ty) (f j : Nat) (args : List Value) : Value :=
  match findCon l f with
  | none => match t with
    | .i => .int .i64 0
    | .b => .bool false
    | .v => .nilIface
  | some x => cellVal x args t j

def E.dens (ρ : Env) : E → Value × List Value
  | .atom .i n => (.int .i64 (ρ.i n), [])
  | .atom .b n => (.bool (ρ.b n), [])
  | .atom .v n => (oc (ρ.v n), [])
  | .int n => (.int .i64 n, [])
  | .bool b => (.bool b, [])
  | .val v => (oc v, [])
  | .add x y => (.int .i64 (w64 (intOf (x.dens ρ).1 + intOf (y.dens ρ).1)), [])
  | .sub x y => (.int .i64 (w64 (intOf (x.dens ρ).1 - intOf (y.dens ρ).1)), [])
  | .mul x y => (.int .i64 (w64 (intOf (x.dens ρ).1 * intOf (y.dens ρ).1)), [])
  | .quo x y => (.int .i64 (w64 ((intOf (x.dens ρ).1).tdiv (intOf (y.dens ρ).1))), [])
  | .rem x y => (.int .i64 ((intOf (x.dens ρ).1).tmod (intOf (y.dens ρ).1)), [])
  | .mx x y => (.int .i64 (max (intOf (x.dens ρ).1) (intOf (y.dens ρ).1)), [])
  | .mn x y => (.int .i64 (min (intOf (x.dens ρ).1) (intOf (y.dens ρ).1)), [])
  | .lt x y => (.bool (decide (intOf (x.dens ρ).1 < intOf (y.dens ρ).1)), [])
  | .le x y => (.bool (decide (intOf (x.dens ρ).1 ≤ intOf (y.dens ρ).1)), [])
  | .eq x y => (.bool (intOf (x.dens ρ).1 == intOf (y.dens ρ).1), [])
  | .beq x y => (.bool (boolOf (x.dens ρ).1 == boolOf (y.dens ρ).1), [])
  | .not x => (.bool (!boolOf (x.dens ρ).1), [])
  | .and x y => (.bool (boolOf (x.dens ρ).1 && boolOf (y.dens ρ).1), [])
  | .or x y => (.bool (boolOf (x.dens ρ).1 || boolOf (y.dens ρ).1), [])
  | .ite .i c x y => (.int .i64 (if boolOf (c.dens ρ).1 = true then intOf (x.dens ρ).1 else intOf (y.dens ρ).1), [])
  | .ite .b c x y => (.bool (if boolOf (c.dens ρ).1 = true then boolOf (x.dens ρ).1 else boolOf (y.dens ρ).1), [])
  | .ite .v c x y => (if boolOf (c.dens ρ).1 = true then (x.dens ρ).1 else (y.dens ρ).1, [])
  | .app t f j args => (appVal ρ.fns t f j (args.dens ρ).2, [])
  | .get .i n sz off i => (.int .i64 (intOf ((ρ.sl n).getD ((intOf (i.dens ρ).1).toNat * sz + off) .nilIface)), [])
  | .get .b n sz off i => (.bool (boolOf ((ρ.sl n).getD ((intOf (i.dens ρ).1).toNat * sz + off) .nilIface)), [])
  | .get .v n sz off i => (oc ((ρ.sl n).getD ((intOf (i.dens ρ).1).toNat * sz + off) .nilIface), [])
  | .len n sz => (.int .i64 (((ρ.sl n).length / sz : Nat) : Int), [])
  | .nil => (.nilIface, [])
  | .cons x y => (.nilIface, (x.dens ρ).1 :: (y.dens ρ).2)
def E.den (ρ : Env) (e : E) : Value := (e.dens ρ).1
def E.lst (ρ : Env) (e : E) : List Value := (e.dens ρ).2

def E.ty : E → Ty
  | .atom t _ | .ite t _ _ _ | .app t _ _ _ | .get t _ _ _ _ => t
  | .len _ _ | .int _ | .add .. | .sub .. | .mul .. | .quo .. | .rem .. | .mx .. | .mn .. => .i
  | .bool _ | .lt .. | .le .. | .eq .. | .beq .. | .not _ | .and .. | .or .. => .b
  | .val _ | .nil | .cons .. => .v

/-! Builders that reckon with literals. -/
def mkAdd : E → E → E
  | .int a, .int b => .int (w64 (a + b))
  | x, y => .add x y
def mkSub : E → E → E
  | .int a, .int b => .int (w64 (a - b))
  | x, y => .sub x y
def mkMul : E → E → E
  | .int a, .int b => .int (w64 (a * b))
  | x, y => .mul x y
def mkQuo : E → E → E
  | .int a, .int b => .int (w64 (a.tdiv b))
  | x, y => .quo x y
def mkRem : E → E → E
  | .int a, .int b => .int (a.tmod b)
  | x, y => .rem x y
def mkLt : E → E → E
  | .int a, .int b => .bool (decide (a < b))
  | x, y => .lt x y
def mkLe : E → E → E
  | .int a, .int b => .bool (decide (a ≤ b))
  | x, y => .le x y
def mkEq : E → E → E
  | .int a, .int b => .bool (a == b)
  | x, y => .eq x y
def mkBeq : E → E → E
  | .bool a, .bool b => .bool (a == b)
  | x, y => .beq x y
def mkNot : E → E
  | .bool a => .bool (!a)
  | .not x => if Ty.same x.ty .b then x else .not (.not x)
  | x => .not x
def mkAnd : E → E → E
  | .bool true, y => if Ty.same y.ty .b then y else .and (.bool true) y
  | .bool false, _ => .bool false
  | x, .bool true => if Ty.same x.ty .b then x else .and x (.bool true)
  | x, y => .and x y
def mkOr : E → E → E
  | .bool true, _ => .bool true
  | .bool false, y => if Ty.same y.ty .b then y else .or (.bool false) y
  | x, .bool false => if Ty.same x.ty .b then x else .or x (.bool false)
  | x, y => .or x y
/-- 'if c then x else y', of one type. -/
def mkIte (t : Ty) (c x y : E) : E :=
  match t with
  | .b => match x, y with
    | .bool true, y => mkOr c y
    | x, .bool false => mkAnd c x
    | x, y => .ite .b c x y
  | t => .ite t c x y

/-- A value: one cell, or an aggregate's cells. -/
inductive SV where
  | one (e : E)
  | agg (l : List E)
/-- What a slot can hold: a value, a tuple of values, the address of a cell of a block of the call's own. -/
inductive S0 where
  | sv (x : SV)
  | tup (l : List SV)
  | ptr (blk off : Nat)
  | clo (f : Nat) (caps : List (Nat × Nat))
  | rp (n sz : Nat) (i : E) (off : Nat)
inductive Sl where
  | dead
  | full (x : S0)
  | may (t : Nat) (want : Bool) (x : S0)

def SV.den (ρ : Env) : SV → Value
  | .one e => e.den ρ
  | .agg l => .agg (l.map (E.den ρ)).toArray
def SV.cells : SV → List E
  | .one e => [e]
  | .agg l => l
def rpVal (v : Value) (k : Nat) : Value := match v with
  | .slice (some a) _ _ => .pointer (some (a.add k))
  | _ => .pointer none
def S0.den (ρ : Env) (β : Nat → Nat) : S0 → Value
  | .sv x => x.den ρ
  | .tup l => .tuple (l.map (SV.den ρ)).toArray
  | .ptr b o => .pointer (some ⟨β b, o, none⟩)
  | .rp n sz i off => rpVal (ρ.v n) ((intOf (i.den ρ)).toNat * sz + off)
  | .clo f l => .func (.func f) #[] (l.map fun p => Value.pointer (some ⟨β p.1, p.2, none⟩)).toArray

/-- A slice that came in: the number of its atom, its elements' type, their cells. -/
structure InS where
  n : Nat
  T : Nat
  tys : List Ty
  loc : Option (Nat × List SV × S0) := none   -- or: a call, with just these arguments, and what it returns
structure St where
  tmps : List Sl
  mem : List (List E × Nat)
  mg : Bool := false                      -- whether the ways of a test are joined behind it
  ins : List InS := []                    -- the slices that came in

def cstE : Value → Option E
  | .int .i64 n => some (.int n)
  | .bool b => some (.bool b)
  | .agg _ | .tuple _ => none
  | v => some (.val v)
def cstS : Value → Option S0
  | .agg l => (l.toList.mapM cstE).map (.sv <| .agg ·)
  | .tuple _ => none
  | v => (cstE v).map (.sv <| .one ·)

def geq (t : Nat) (w : Bool) : Option (Nat × Bool) → Bool
  | some (t', w') => Nat.beq t t' && (w == w')
  | none => false

/-- An operand, under the guards that are known to hold. -/
def opnd (st : St) (g h : Option (Nat × Bool)) : Operand → Option S0
  | .tmp t => match st.tmps[t]? with
    | some (.full x) => some x
    | some (.may t w x) => if geq t w g || geq t w h then some x else none
    | _ => none
  | .const v => cstS v
  | .func f => some (.clo f [])
  | _ => none

def isAggD : TypeDesc → Bool
  | .struct _ | .array _ _ => true
  | _ => false

/-- That a divisor is not 0. -/
def nzNeed : E → List E
  | .int n => if n == 0 then [.bool false] else []
  | y => [.not (.eq y (.int 0))]

def binE (P : Program) (op : BinOp) (xT : Nat) (x y : E) : Option (E × List E) :=
  match x.ty, y.ty with
  | .i, .i => match op with
    | .add => some (mkAdd x y, [])
    | .sub => some (mkSub x y, [])
    | .mul => some (mkMul x y, [])
    | .quo => some (mkQuo x y, nzNeed y)
    | .rem => some (mkRem x y, nzNeed y)
    | .lss => some (mkLt x y, [])
    | .leq => some (mkLe x y, [])
    | .gtr => some (mkLt y x, [])
    | .geq => some (mkLe y x, [])
    | .eql => some (mkEq x y, [])
    | .neq => some (mkNot (mkEq x y), [])
    | _ => none
  | .b, .b => match P.underlying xT with
    | some .bool => match op with
      | .eql => some (mkBeq x y, [])
      | .neq => some (mkNot (mkBeq x y), [])
      | _ => none
    | _ => none
  | _, _ => none

def allE : List E → List E → E
  | x :: xs, y :: ys => mkAnd (mkEq x y) (allE xs ys)
  | _, _ => .bool true

/-- A struct of plain integers, one cell a field, in order. -/
def flatInts (P : Program) : List Field → Nat → Bool
  | [], _ => true
  | f :: fs, k => (f.name != "_") && Nat.beq f.offset k && (match P.underlying f.type with | some (.int .i64) => true | _ => false) && flatInts P fs (k + 1)

def allInt (l : List E) : Bool := l.all fun e => Ty.same e.ty .i

def eqAgg (P : Program) (xT : Nat) (x y : List E) : Option E :=
  match P.underlying xT with
  | some (.struct fs) =>
    if flatInts P fs.toList 0 && Nat.beq fs.size x.length && Nat.beq fs.size y.length && allInt x && allInt y && !P.stoodInHeld xT && !P.eqGuardType P.depth xT then some (allE x y) else none
  | _ => none

def placeOf (P : Program) (d : TypeDesc) (i : Nat) : Option (Nat × Nat) :=
  match d with
  | .struct fs => match fs[i]? with
    | some f => (P.info? f.type).map fun n => (f.offset, n.size)
    | none => none
  | .array _ e => (P.info? e).map fun n => (i * n.size, n.size)
  | _ => none

def splice (cells new : List E) (off : Nat) : List E := cells.take off ++ new ++ cells.drop (off + new.length)

def fillE (place : Nat → Option (Nat × Nat)) (cells : List E) : List (Nat × SV) → Option (List E)
  | [] => some cells
  | (i, x) :: rest => match place i with
    | none => none
    | some (off, size) => if Nat.beq x.cells.length size && Nat.ble (off + x.cells.length) cells.length then fillE place (splice cells x.cells off) rest else none

def partsE (st : St) (g : Option (Nat × Bool)) : List (Nat × Operand) → Option (List (Nat × SV))
  | [] => some []
  | (i, x) :: rest => match opnd st g none x, partsE st g rest with
    | some (.sv v), some l => some ((i, v) :: l)
    | _, _ => none

def fieldsSized (P : Program) : List Field → Bool
  | [] => true
  | f :: fs => (P.info? f.type).isSome && fieldsSized P fs

def buildE (P : Program) (st : St) (g : Option (Nat × Bool)) (t : Nat) (parts : List (Nat × Operand)) : Option (List E) :=
  match P.info? t, P.underlying t with
  | some inf, some d => match inf.zero with
    | some (.agg z) => match z.toList.mapM cstE, partsE st g parts with
      | some zs, some ps => match d with
        | .struct fs => if fieldsSized P fs.toList then fillE (placeOf P d) zs ps else none
        | .array _ e => if (P.info? e).isSome then fillE (placeOf P d) zs ps else none
        | _ => none
      | _, _ => none
    | _ => none
  | _, _ => none

/-- A part of type t of an aggregate's cells. -/
def partE (P : Program) (t : Nat) (cells : List E) (off : Nat) : Option SV :=
  match P.underlying t, P.info? t with
  | some d, some inf =>
    if isAggD d then (if Nat.ble (off + inf.size) cells.length then some (.agg ((cells.drop off).take inf.size)) else none)
    else (cells[off]?).map .one
  | _, _ => none

def svs (st : St) (g : Option (Nat × Bool)) : List Operand → Option (List SV)
  | [] => some []
  | x :: rest => match opnd st g none x, svs st g rest with
    | some (.sv v), some l => some (v :: l)
    | _, _ => none

/-- What a function value is made over: addresses. -/
def ptrs (st : St) (g : Option (Nat × Bool)) : List Operand → Option (List (Nat × Nat))
  | [] => some []
  | x :: rest => match opnd st g none x, ptrs st g rest with
    | some (.ptr b o), some l => some ((b, o) :: l)
    | _, _ => none

def foldMx : E → List SV → Option E
  | x, [] => some x
  | x, .one y :: rest => if Ty.same y.ty .i then foldMx (.mx x y) rest else none
  | _, _ => none
def foldMn : E → List SV → Option E
  | x, [] => some x
  | x, .one y :: rest => if Ty.same y.ty .i then foldMn (.mn x y) rest else none
  | _, _ => none

/-- An operation that leaves the world alone: its value, and what must hold. -/
def pureOp (P : Program) (st : St) (g : Option (Nat × Bool)) : Op → Option (S0 × List E)
  | .move x | .assign x => (opnd st g none x).map (·, [])
  | .pick c a b => match opnd st g none c with
    | some (.sv (.one (.bool true))) => (opnd st g none a).map (·, [])
    | some (.sv (.one (.bool false))) => (opnd st g none b).map (·, [])
    | some (.sv (.one e)) =>
      if Ty.same e.ty .b then
        match c with
        | .tmp t => match opnd st g (some (t, true)) a, opnd st g (some (t, false)) b with
          | some (.sv (.one x)), some (.sv (.one y)) => if Ty.same x.ty y.ty then some (.sv (.one (mkIte x.ty e x y)), []) else none
          | _, _ => none
        | _ => none
      else none
    | _ => none
  | .build t parts => (buildE P st g t parts.toList).map fun l => (.sv (.agg l), [])
  | .load t x => match opnd st g none x with
    | some (.ptr b o) => match st.mem[b]? with
      | some (cells, _) => (partE P t cells o).map fun v => (.sv v, [])
      | none => none
    | _ => none
  | .fieldAddr s x f => match opnd st g none x, P.underlying s with
    | some (.ptr b o), some (.struct fs) => match fs[f]? with
      | some fd => match P.info? fd.type with
        | some inf => if Nat.beq inf.size 0 then none else some (.ptr b (o + fd.offset), [])
        | none => none
      | none => none
    | _, _ => none
  | .field s x f => match opnd st g none x, P.underlying s with
    | some (.sv (.agg l)), some (.struct fs) => match fs[f]? with
      | some fd => (partE P fd.type l fd.offset).map fun v => (.sv v, [])
      | none => none
    | _, _ => none
  | .indexAddr t x i => match opnd st g none x, opnd st g none i, P.underlying t with
    | some (.ptr b o), some (.sv (.one (.int n))), some (.array len e) => match P.info? e with
      | some inf => if decide (0 ≤ n) && decide (n < len) then some (.ptr b (o + n.toNat * inf.size), []) else none
      | none => none
    | _, _, _ => none
  | .index t x i => match opnd st g none x, opnd st g none i, P.underlying t with
    | some (.sv (.agg l)), some (.sv (.one (.int n))), some (.array len e) => match P.info? e with
      | some inf => if decide (0 ≤ n) && decide (n < len) then (partE P e l (n.toNat * inf.size)).map fun v => (.sv v, []) else none
      | none => none
    | _, _, _ => none
  | .binOp op xT x y _ => match opnd st g none x, opnd st g none y with
    | some (.sv (.one a)), some (.sv (.one b)) => (binE P op xT a b).map fun r => (.sv (.one r.1), r.2)
    | some (.sv (.agg a)), some (.sv (.agg b)) => match op with
      | .eql => (eqAgg P xT a b).map fun r => (.sv (.one r), [])
      | .neq => (eqAgg P xT a b).map fun r => (.sv (.one (mkNot r)), [])
      | _ => none
    | _, _ => none
  | .unOp op _ x => match opnd st g none x with
    | some (.sv (.one e)) => match op, e.ty with
      | .neg, .i => some (.sv (.one (mkSub (.int 0) e)), [])
      | .not, .b => some (.sv (.one (mkNot e)), [])
      | _, _ => none
    | _ => none
  | .extract x i => match opnd st g none x with
    | some (.tup l) => (l[i]?).map fun v => (.sv v, [])
    | _ => none
  | .nilCheck x => match opnd st g none x with
    | some (.ptr b o) => some (.ptr b o, [])
    | _ => none
  | .makeFunc fn first captured => match fn, first.toList, ptrs st g captured.toList with
    | .func f, [], some l => some (.clo f l, [])
    | _, _, _ => none
  | .call c => match c.callee with
    | .builtin .max => match svs st g c.args.toList with
      | some (.one x :: rest) => if Ty.same x.ty .i then (foldMx x rest).map fun e => (.sv (.one e), []) else none
      | _ => none
    | .builtin .min => match svs st g c.args.toList with
      | some (.one x :: rest) => if Ty.same x.ty .i then (foldMn x rest).map fun e => (.sv (.one e), []) else none
      | _ => none
    | _ => none
  | _ => none

def tysOk : List Ty → List E → Bool
  | [], [] => true
  | t :: ts, e :: es => Ty.same t e.ty && tysOk ts es
  | _, _ => false
def svOk : Option Nat × List Ty → SV → Bool
  | (none, ts), .one e => tysOk ts [e]
  | (some _, ts), .agg l => tysOk ts l
  | _, _ => false
def svsOk : List (Option Nat × List Ty) → List SV → Bool
  | [], [] => true
  | p :: ps, x :: xs => svOk p x && svsOk ps xs
  | _, _ => false
def flatE : List E → E → E
  | [], k => k
  | e :: es, k => .cons e (flatE es k)
def flatS : List SV → E
  | [] => .nil
  | x :: xs => flatE x.cells (flatS xs)
def appCells (f : Nat) (args : E) : Nat → List Ty → List E
  | _, [] => []
  | j, t :: ts => .app t f j args :: appCells f args (j + 1) ts
def appSVs (f : Nat) (args : E) : Nat → List (Option Nat × List Ty) → List SV
  | _, [] => []
  | j, (none, ts) :: rest => (match appCells f args j ts with | [e] => SV.one e | l => .agg l) :: appSVs f args (j + ts.length) rest
  | j, (some _, ts) :: rest => .agg (appCells f args j ts) :: appSVs f args (j + ts.length) rest
def appS0 (x : Con) (args : E) : Option S0 :=
  match x.tup, appSVs x.f args 0 x.res with
  | true, l => some (.tup l)
  | false, [v] => some (.sv v)
  | _, _ => none

/-- A call of a function with a contract. -/
def callOp (P : Program) (Γ : List Con) (st : St) (g : Option (Nat × Bool)) : Op → Option (Nat × List SV × S0)
  | .call c => match c.callee with
    | .value y => match opnd st g none y with
      | some (.clo f []) => match P.funcs[f]?, findCon Γ f, svs st g c.args.toList with
        | some fn, some x, some l => if fn.body.isSome && !(fn.name == "runtime.NumGoroutine") && svsOk x.params l then (appS0 x (flatS l)).map fun r => (f, l, r) else none
        | _, _, _ => none
      | _ => none
    | _ => none
  | _ => none

def kill (t : Nat) : Sl → Sl
  | .may u w x => if Nat.beq t u then .dead else .may u w x
  | s => s
def St.put (st : St) (dst : Option Nat) (s : Sl) : St :=
  match dst with
  | none => st
  | some t => { st with tmps := (st.tmps.map (kill t)).set t (kill t s) }

inductive G where
  | no | yes | undecided (t : Nat) (w : Bool) | bad
/-- The guard of an operation. -/
def guardOf (st : St) (all : Array Oper) (o : Oper) : G :=
  match o.guard with
  | none => .yes
  | some (j, want) => match (all[j]?).bind (·.dst) with
    | none => .bad
    | some t => match st.tmps[t]? with
      | some (.full (.sv (.one (.bool b)))) => if b == want then .yes else .no
      | _ => .undecided t want

def guardNeed (st : St) (t : Nat) (w : Bool) (l : List E) : Option (List E) :=
  match l with
  | [] => some []
  | l => match st.tmps[t]? with
    | some (.full (.sv (.one e))) => if Ty.same e.ty .b then some (l.map fun c => .or (if w then .not e else e) c) else none
    | _ => none

/-! Equality of expressions, told by program (a value that is no number or Boolean is equal to none). -/
def E.same : E → E → Bool
  | .atom t n, .atom t' n' => Ty.same t t' && Nat.beq n n'
  | .int a, .int b => decide (a = b)
  | .bool a, .bool b => a == b
  | .add a b, .add c d | .sub a b, .sub c d | .mul a b, .mul c d | .quo a b, .quo c d | .rem a b, .rem c d | .mx a b, .mx c d | .mn a b, .mn c d
  | .lt a b, .lt c d | .le a b, .le c d | .eq a b, .eq c d | .beq a b, .beq c d | .and a b, .and c d | .or a b, .or c d | .cons a b, .cons c d => a.same c && b.same d
  | .not a, .not b => a.same b
  | .ite t a b c, .ite t' a' b' c' => Ty.same t t' && a.same a' && b.same b' && c.same c'
  | .app t f j a, .app t' f' j' a' => Ty.same t t' && Nat.beq f f' && Nat.beq j j' && a.same a'
  | .get t n s o a, .get t' n' s' o' a' => Ty.same t t' && Nat.beq n n' && Nat.beq s s' && Nat.beq o o' && a.same a'
  | .len n s, .len n' s' => Nat.beq n n' && Nat.beq s s'
  | .nil, .nil => true
  | _, _ => false
theorem E.same_eq : ∀ {x y : E}, x.same y = true → x = y := by
  intro x
  induction x with
  | atom t n => intro y h; cases y <;> simp [E.same] at h; obtain ⟨h1, h2⟩ := h; rw [Ty.same_eq h1, h2]
  | int a => intro y h; cases y <;> simp [E.same] at h; rw [h]
  | bool a => intro y h; cases y <;> simp [E.same] at h; rw [h]
  | val v => intro y h; cases y <;> simp [E.same] at h
  | nil => intro y h; cases y <;> simp [E.same] at h; rfl
  | not a ih => intro y h; cases y <;> simp [E.same] at h; rw [ih h]
  | ite t a b c iha ihb ihc => intro y h; cases y <;> simp [E.same] at h; obtain ⟨⟨⟨h1, h2⟩, h3⟩, h4⟩ := h; rw [Ty.same_eq h1, iha h2, ihb h3, ihc h4]
  | app t f j a ih => intro y h; cases y <;> simp [E.same] at h; obtain ⟨⟨⟨h1, h2⟩, h3⟩, h4⟩ := h; rw [Ty.same_eq h1, h2, h3, ih h4]
  | get t n s o a ih => intro y h; cases y <;> simp [E.same] at h; obtain ⟨⟨⟨⟨h1, h2⟩, h3⟩, h4⟩, h5⟩ := h; rw [Ty.same_eq h1, h2, h3, h4, ih h5]
  | len n s => intro y h; cases y <;> simp [E.same] at h; obtain ⟨h1, h2⟩ := h; rw [h1, h2]
  | _ a b iha ihb => intro y h; cases y <;> simp [E.same] at h; obtain ⟨h1, h2⟩ := h; rw [iha h1, ihb h2]

/-! A read of a slice that came in. -/
def findIn : List InS → Nat → Option InS
  | [], _ => none
  | s :: l, n => if Nat.beq s.n n && s.loc.isNone then some s else findIn l n
def getCells (n sz : Nat) (i : E) : Nat → List Ty → List E
  | _, [] => []
  | off, t :: ts => .get t n sz off i :: getCells n sz i (off + 1) ts
/-- Its value, and what must hold. -/
def readOp (P : Program) (st : St) : Op → Option (S0 × List E)
  | .indexAddr t x i => match opnd st none none x, opnd st none none i, P.underlying t with
    | some (.sv (.one (.atom .v n))), some (.sv (.one e)), some (.slice T) => match findIn st.ins n, P.info? T with
      | some s, some inf => if Ty.same e.ty .i && Nat.beq s.T T && Nat.beq inf.size s.tys.length && !Nat.beq s.tys.length 0 then some (.rp n s.tys.length e 0, [.le (.int 0) e, .lt e (.len n s.tys.length)]) else none
      | _, _ => none
    | _, _, _ => none
  | .load t x => match opnd st none none x with
    | some (.rp n sz e off) => match findIn st.ins n, P.underlying t, P.info? t with
      | some s, some d, some inf =>
        if Nat.beq sz s.tys.length then
          (if isAggD d then (if Nat.ble (off + inf.size) sz then some (.sv (.agg (getCells n sz e off ((s.tys.drop off).take inf.size))), [.le (.int 0) e, .lt e (.len n sz)]) else none)
          else match s.tys[off]? with
            | some ty => some (.sv (.one (.get ty n sz off e)), [.le (.int 0) e, .lt e (.len n sz)])
            | none => none)
        else none
      | _, _, _ => none
    | _ => none
  | .call c => match c.callee, c.args.toList, c.argTypes.toList with
    | .builtin .len, [x], [t] => match opnd st none none x, P.underlying t with
      | some (.sv (.one (.atom .v n))), some (.slice _) => match findIn st.ins n with
        | some s => if !Nat.beq s.tys.length 0 then some (.sv (.one (.len n s.tys.length)), []) else none
        | none => none
      | _, _ => none
    | _, _, _ => none
  | _ => none

/-! A call that is told of for this run alone. -/
def sameEs : List E → List E → Bool
  | [], [] => true
  | x :: xs, y :: ys => x.same y && sameEs xs ys
  | _, _ => false
def sameSVs : List SV → List SV → Bool
  | [], [] => true
  | .one x :: xs, .one y :: ys => x.same y && sameSVs xs ys
  | .agg x :: xs, .agg y :: ys => sameEs x y && sameSVs xs ys
  | _, _ => false
def findLoc : List InS → Nat → List SV → Option (InS × S0)
  | [], _, _ => none
  | s :: r, f, l => match s.loc with
    | some (f', args, res) => if Nat.beq f' f && sameSVs args l then some (s, res) else findLoc r f l
    | none => findLoc r f l
def locOp (P : Program) (st : St) : Op → Option (Nat × List SV × S0)
  | .call c => match c.callee with
    | .value y => match opnd st none none y with
      | some (.clo f []) => match P.funcs[f]?, svs st none c.args.toList with
        | some fn, some l => if fn.body.isSome && !(fn.name == "runtime.NumGoroutine") then match findLoc st.ins f l with
          | some (_, .sv v) => some (f, l, .sv v)
          | some (_, .tup v) => some (f, l, .tup v)
          | _ => none
          else none
        | _, _ => none
      | _ => none
    | _ => none
  | _ => none

inductive Step where
  | bad
  | ok (st : St) (needs : List E)

/-- One operation in a region that draws no order. -/
def stepOp (P : Program) (Γ : List Con) (st : St) (all : Array Oper) (o : Oper) : Step :=
  match guardOf st all o with
  | .bad => .bad
  | .no => .ok (st.put o.dst .dead) []
  | .yes => match pureOp P st none o.op with
    | some (x, needs) => .ok (st.put o.dst (.full x)) needs
    | none => match callOp P Γ st none o.op with
      | some (_, _, x) => .ok (st.put o.dst (.full x)) []
      | none => match o.op with
        | .box t x => match opnd st none none x with
          | some (.sv v) => .ok ({ (st.put o.dst (.full (.ptr st.mem.length 0))) with mem := st.mem ++ [(v.cells, t)] }) []
          | _ => .bad
        | .alloc t => match P.info? t with
          | some inf => match inf.zero with
            | some z => match cstS z with
              | some (.sv v) => .ok ({ (st.put o.dst (.full (.ptr st.mem.length 0))) with mem := st.mem ++ [(v.cells, t)] }) []
              | _ => .bad
            | none => .bad
          | none => .bad
        | .store t a x => match opnd st none none a, opnd st none none x, P.info? t with
          | some (.ptr b off), some (.sv v), some inf => match st.mem[b]?, o.dst with
            | some (cells, T), none => if Nat.beq v.cells.length inf.size && Nat.ble (off + v.cells.length) cells.length then .ok { st with mem := st.mem.set b (splice cells v.cells off, T) } [] else .bad
            | _, _ => .bad
          | _, _, _ => .bad
        | op => match readOp P st op with
          | some (x, needs) => .ok (st.put o.dst (.full x)) needs
          | none => match locOp P st op with
            | some (_, _, x) => .ok (st.put o.dst (.full x)) []
            | none => .bad
  | .undecided t w => match pureOp P st (some (t, w)) o.op with
    | some (x, needs) => match guardNeed st t w needs with
      | some ns => .ok (st.put o.dst (.may t w x)) ns
      | none => .bad
    | none => match callOp P Γ st (some (t, w)) o.op with
      | some (_, _, x) => .ok (st.put o.dst (.may t w x)) []
      | none => .bad

/-- All operations of a region that draws its order. -/
def quietOps (P : Program) (Γ : List Con) (all : Array Oper) : List Oper → St → Option St
  | [], st => some st
  | o :: rest, st => match guardOf st all o with
    | .bad => none
    | .no => quietOps P Γ all rest (st.put o.dst .dead)
    | .yes => match pureOp P st none o.op with
      | some (x, []) => quietOps P Γ all rest (st.put o.dst (.full x))
      | some (_, _ :: _) => none
      | none => match callOp P Γ st none o.op with
        | some (_, _, x) => quietOps P Γ all rest (st.put o.dst (.full x))
        | none => none
    | .undecided t w => match pureOp P st (some (t, w)) o.op with
      | some (x, []) => quietOps P Γ all rest (st.put o.dst (.may t w x))
      | some (_, _ :: _) => none
      | none => match callOp P Γ st (some (t, w)) o.op with
        | some (_, _, x) => quietOps P Γ all rest (st.put o.dst (.may t w x))
        | none => none

/-! A region that draws its order, with new blocks and stores. -/
/-- Which operations each operation waits for, as bits. -/
def ancsFrom : List Oper → List Nat → List Nat
  | [], acc => acc
  | o :: rest, acc => ancsFrom rest (acc ++ [o.after.toList.foldl (fun s e => if Region.binds .any e then s ||| 2 ^ e.on ||| acc.getD e.on 0 else s) 0])
def anc (m : List Nat) (k j : Nat) : Bool := (m.getD k 0).testBit j

inductive OR where
  | skip
  | val (s : Sl)
  | new (b : Nat)
  | sto (b off : Nat) (cells : List E)
def OR.slot : OR → Sl
  | .val s => s
  | .new b => .full (.ptr b 0)
  | _ => .dead

/-- A slot as operation k finds it. -/
def maskOne (m : List Nat) (k j : Nat) (r : OR) (base : Sl) : Sl := if anc m k j then r.slot else if anc m j k then base else .dead
/-- The slots as operation k finds them, whatever order was drawn: 'rs': the results of the operations from number j on. -/
def maskSlots (m : List Nat) (k : Nat) : List Oper → List OR → Nat → List Sl → List Sl
  | [], _, _, l => l
  | o :: os, rs, j, l => match o.dst with
    | none => maskSlots m k os rs.tail (j + 1) l
    | some t => maskSlots m k os rs.tail (j + 1) (l.set t (maskOne m k j (rs.headD .skip) (l.getD t .dead)))

def dstsOf (ops : List Oper) : List Nat := ops.filterMap (·.dst)
def nodupN : List Nat → Bool
  | [] => true
  | x :: l => !l.any (Nat.beq x) && nodupN l
def killAll (ts : List Nat) (l : List Sl) : List Sl := ts.foldl (fun l t => l.map (kill t)) l
def newBlocks (P : Program) : List Oper → Option (List (List E × Nat))
  | [] => some []
  | o :: os => match o.op with
    | .alloc t => match P.info? t with
      | some inf => match inf.zero with
        | some z => match cstS z, newBlocks P os with
          | some (.sv v), some l => some ((v.cells, t) :: l)
          | _, _ => none
        | none => none
      | none => none
    | _ => newBlocks P os
def isAlloc : Op → Bool
  | .alloc _ => true
  | _ => false

/-- The block that a load reads. -/
def loadBlock (st : St) (g : Option (Nat × Bool)) : Op → Option Nat
  | .load _ y => match opnd st g none y with
    | some (.ptr b _) => some b
    | _ => none
  | _ => none
def isLoad : Op → Bool
  | .load _ _ => true
  | _ => false

/-- One operation of such a region, its frame masked: its result, what must hold, the block that it reads (N: that many blocks there are ahead of the region; nb: the number of the next new block). -/
def regionOp (P : Program) (Γ : List Con) (N nb : Nat) (all : Array Oper) (M : St) (o : Oper) : Option (OR × List E × Option Nat) :=
  if isAlloc o.op && o.guard.isSome then none else
  match guardOf M all o with
  | .bad => none
  | .no => some (.skip, [], none)
  | .yes => match o.op with
    | .alloc _ => some (.new nb, [], none)
    | .store t a x => match opnd M none none a, opnd M none none x, P.info? t with
      | some (.ptr b off), some (.sv v), some inf => match M.mem[b]?, o.dst with
        | some (cells, _), none => if Nat.beq v.cells.length inf.size && Nat.ble (off + v.cells.length) cells.length then some (.sto b off v.cells, [], none) else none
        | _, _ => none
      | _, _, _ => none
    | op => match pureOp P M none op with
      | some (x, needs) => if isLoad op && !((loadBlock M none op).any fun b => Nat.blt b N) then none else some (.val (.full x), needs, loadBlock M none op)
      | none => match callOp P Γ M none op with
        | some (_, _, x) => some (.val (.full x), [], none)
        | none => none
  | .undecided t w =>
    if isAlloc o.op then none else
    match pureOp P M (some (t, w)) o.op with
    | some (x, needs) => if isLoad o.op && !((loadBlock M (some (t, w)) o.op).any fun b => Nat.blt b N) then none else match guardNeed M t w needs with
      | some ns => some (.val (.may t w x), ns, loadBlock M (some (t, w)) o.op)
      | none => none
    | none => match callOp P Γ M (some (t, w)) o.op with
      | some (_, _, x) => some (.val (.may t w x), [], none)
      | none => none

/-- The guard's temporary, if it is one of the region's own, is written ahead of the operation. -/
def guardFirst (m : List Nat) (all : Array Oper) (ops : List Oper) (k : Nat) (o : Oper) : Bool :=
  match o.guard with
  | none => true
  | some (j, _) => match (all[j]?).bind (·.dst) with
    | none => false
    | some t => ops.zipIdx.all fun p => match p.1.dst with
      | some t' => !Nat.beq t t' || anc m k p.2
      | none => true

structure RSt where
  rs : List OR
  needs : List E
  reads : List (Option Nat)
  nb : Nat

def regionRun (P : Program) (Γ : List Con) (N : Nat) (all : Array Oper) (m : List Nat) (base : List Sl) (mem : List (List E × Nat)) : List Oper → Nat → RSt → Option RSt
  | [], _, r => some r
  | o :: os, k, r =>
    if guardFirst m all all.toList k o then
      match regionOp P Γ N r.nb all { tmps := maskSlots m k all.toList r.rs 0 base, mem := mem } o with
      | some (x, ns, rd) => regionRun P Γ N all m base mem os (k + 1) { rs := r.rs ++ [x], needs := r.needs ++ ns, reads := r.reads ++ [rd], nb := if isAlloc o.op then r.nb + 1 else r.nb }
      | none => none
    else none

/-- No load is beside a store into its block; stores into one block come one behind the other. -/
def pairOk (m : List Nat) (rs : List OR) (reads : List (Option Nat)) (n : Nat) : Bool :=
  (List.range n).all fun j => match rs.getD j .skip with
    | .sto b _ _ => (List.range n).all fun k =>
      (match reads.getD k none with | some b' => !Nat.beq b b' || anc m j k | none => true) &&
      (match rs.getD k .skip with | .sto b' _ _ => !Nat.beq b b' || Nat.ble k j || anc m k j | _ => true)
    | _ => true

def depsBelow (ops : List Oper) : Bool := ops.zipIdx.all fun p => p.1.after.toList.all fun e => !Region.binds .any e || Nat.blt e.on p.2

def endSlots : List Oper → List OR → List Sl → List Sl
  | [], _, l => l
  | o :: os, rs, l => match o.dst with
    | none => endSlots os rs.tail l
    | some t => endSlots os rs.tail (l.set t (rs.headD .skip).slot)
def stored (mem : List (List E × Nat)) : List OR → List (List E × Nat)
  | [] => mem
  | .sto b off cells :: rs => stored (match mem[b]? with | some (c, T) => mem.set b (splice c cells off, T) | none => mem) rs
  | _ :: rs => stored mem rs

def regionOps (P : Program) (Γ : List Con) (ops : Array Oper) (st : St) : Option (St × List E) :=
  let l := ops.toList
  let m := ancsFrom l []
  let dsts := dstsOf l
  if Region.noSelect ops && nodupN dsts && depsBelow l then
    match newBlocks P l with
    | some news =>
      let base := killAll dsts st.tmps
      let mem := st.mem ++ news
      match regionRun P Γ st.mem.length ops m base mem l 0 ⟨[], [], [], st.mem.length⟩ with
      | some r => if pairOk m r.rs r.reads l.length then some ({ tmps := endSlots l r.rs base, mem := stored mem r.rs, mg := st.mg, ins := st.ins }, r.needs) else none
      | none => none
    | none => none
  else none

/-- What is still to be done. -/
inductive K where
  | code (c : Code)
  | ops (all : Array Oper) (l : List Oper)
  | inBlock (id : Nat)
  | inLoop (c : Code)

def unwind (id : Nat) : List K → Option (List K)
  | [] => none
  | .inBlock id' :: k => if Nat.beq id id' then some k else unwind id k
  | _ :: k => unwind id k

inductive X where
  | normal | ret | exit (id : Nat)

inductive T where
  | leaf (k : List K) (x : X) (st : St)
  | br (c : E) (t e : T)
  | need (c : E) (t : T)

/-- What a test has told. -/
def learn (st : St) (c : Operand) (b : Bool) : St :=
  match c with
  | .tmp t => { st with tmps := st.tmps.set t (.full (.sv (.one (.bool b)))) }
  | _ => st

def needAll : List E → T → T
  | [], t => t
  | .bool true :: l, t => needAll l t
  | c :: l, t => .need c (needAll l t)

def resultE (P : Program) (st : St) : ResultVar → Option SV
  | .tmp t => match st.tmps[t]? with
    | some (.full (.sv v)) => some v
    | _ => none
  | .cell a t => match st.tmps[a]? with
    | some (.full (.ptr b o)) => match st.mem[b]? with
      | some (cells, _) => partE P t cells o
      | none => none
    | _ => none
def resultsE (P : Program) (st : St) : List ResultVar → Option (List SV)
  | [] => some []
  | r :: rs => match resultE P st r, resultsE P st rs with
    | some v, some l => some (v :: l)
    | _, _ => none

def capsEq : List (Nat × Nat) → List (Nat × Nat) → Bool
  | [], [] => true
  | p :: l, q :: m => Nat.beq p.1 q.1 && Nat.beq p.2 q.2 && capsEq l m
  | _, _ => false
theorem capsEq_eq : ∀ {l m : List (Nat × Nat)}, capsEq l m = true → l = m
  | [], [], _ => rfl
  | [], _ :: _, h => by simp [capsEq] at h
  | _ :: _, [], h => by simp [capsEq] at h
  | (a, b) :: l, (c, d) :: m, h => by
    simp only [capsEq, Bool.and_eq_true] at h
    have e1 := Nat.eq_of_beq_eq_true h.1.1
    have e2 := Nat.eq_of_beq_eq_true h.1.2
    have e3 := capsEq_eq h.2
    subst e3
    exact congrArg (· :: l) (Prod.ext e1 e2)
/-! Two states, one for each way of a test, as one. -/
def tysEq : List Ty → List Ty → Bool
  | [], [] => true
  | x :: xs, y :: ys => Ty.same x y && tysEq xs ys
  | _, _ => false
def joinE (c x y : E) : Option E := if x.same y then some x else if Ty.same x.ty y.ty then some (mkIte x.ty c x y) else none
def joinEs (c : E) : List E → List E → Option (List E)
  | [], [] => some []
  | x :: xs, y :: ys => match joinE c x y, joinEs c xs ys with
    | some z, some zs => some (z :: zs)
    | _, _ => none
  | _, _ => none
def joinSl (c : E) : Sl → Sl → Sl
  | .full (.sv (.one x)), .full (.sv (.one y)) => match joinE c x y with
    | some z => .full (.sv (.one z))
    | none => .dead
  | .full (.sv (.agg x)), .full (.sv (.agg y)) => match joinEs c x y with
    | some z => .full (.sv (.agg z))
    | none => .dead
  | .full (.ptr b o), .full (.ptr b' o') => if Nat.beq b b' && Nat.beq o o' then .full (.ptr b o) else .dead
  | .full (.clo f l), .full (.clo f' l') => if Nat.beq f f' && capsEq l l' then .full (.clo f l) else .dead
  | _, _ => .dead
def joinSls (c : E) : List Sl → List Sl → Option (List Sl)
  | [], [] => some []
  | x :: xs, y :: ys => (joinSls c xs ys).map fun zs => joinSl c x y :: zs
  | _, _ => none
def joinMem (c : E) : List (List E × Nat) → List (List E × Nat) → Option (List (List E × Nat))
  | [], [] => some []
  | (x, T) :: xs, (y, T') :: ys => match joinEs c x y, joinMem c xs ys with
    | some z, some zs => if Nat.beq T T' then some ((z, T) :: zs) else none
    | _, _ => none
  | _, _ => none
def insEq : List InS → List InS → Bool
  | [], [] => true
  | x :: xs, y :: ys => Nat.beq x.n y.n && Nat.beq x.T y.T && tysEq x.tys y.tys && x.loc.isNone && y.loc.isNone && insEq xs ys
  | _, _ => false
def joinSt (c : E) (A B : St) : Option St :=
  match joinSls c A.tmps B.tmps, joinMem c A.mem B.mem with
  | some t, some m => if insEq A.ins B.ins then some { tmps := t, mem := m, mg := A.mg, ins := A.ins } else none
  | _, _ => none
def tryJoin (c : E) (t : T) (e : Unit → T) : Option St :=
  match t with
  | .leaf [] .normal A => match e () with
    | .leaf [] .normal B => joinSt c A B
    | _ => none
  | _ => none

/-- Arguments of any kind but tuples. -/
def s0s (st : St) : List Operand → Option (List S0)
  | [] => some []
  | x :: rest => match opnd st none none x, s0s st rest with
    | some (.tup _), _ => none
    | some v, some l => some (v :: l)
    | _, _ => none

/-- A function value is called that has no contract: its code is walked in its place. -/
def inlineAt (P : Program) (st : St) (all : Array Oper) (o : Oper) : Option (Nat × Func × Code × List S0) :=
  match guardOf st all o with
  | .yes => match o.op with
    | .call c => match c.callee with
      | .value y => match opnd st none none y with
        | some (.clo f caps) => match P.funcs[f]?, s0s st c.args.toList with
          | some fn, some l => match fn.body with
            | some b => if !(fn.name == "runtime.NumGoroutine") && Nat.ble (l ++ caps.map fun p => S0.ptr p.1 p.2).length fn.ntmps then some (f, fn, b, l ++ caps.map fun p => S0.ptr p.1 p.2) else none
            | none => none
          | _, _ => none
        | _ => none
      | _ => none
    | _ => none
  | _ => none
def frameSt (fn : Func) (args : List S0) (mem : List (List E × Nat)) (ins : List InS) : St := { tmps := args.map .full ++ List.replicate (fn.ntmps - args.length) .dead, mem := mem, ins := ins }
def resS0 : List SV → S0
  | [x] => .sv x
  | l => .tup l
def bindR (P : Program) (fn : Func) (stuck : T) (cont : S0 → List (List E × Nat) → T) : T → T
  | .leaf [] .normal st | .leaf [] .ret st => match resultsE P st fn.results.toList with
    | some l => cont (resS0 l) st.mem
    | none => stuck
  | .leaf _ _ _ => stuck
  | .br c t e => .br c (bindR P fn stuck cont t) (bindR P fn stuck cont e)
  | .need c t => .need c (bindR P fn stuck cont t)

/-- The walk. 'u': loops are gone round as long as their tests are decided; else it stands at a loop. -/
def exec (P : Program) (Γ : List Con) (u : Bool) : Nat → List K → St → T
  | 0, k, st => .leaf k .normal st
  | _ + 1, [], st => .leaf [] .normal st
  | n + 1, .inBlock _ :: k, st => exec P Γ u n k st
  | n + 1, .inLoop c :: k, st => if u then exec P Γ u n (.code c :: .inLoop c :: k) st else .leaf (.inLoop c :: k) .normal st
  | n + 1, .ops _ [] :: k, st => exec P Γ u n k st
  | n + 1, .ops all (o :: rest) :: k, st => match stepOp P Γ st all o with
    | .ok st' needs => needAll needs (exec P Γ u n (.ops all rest :: k) st')
    | .bad => match inlineAt P st all o with
      | some (_, fn, b, args) => bindR P fn (.leaf (.ops all (o :: rest) :: k) .normal st) (fun x mem => exec P Γ u n (.ops all rest :: k) (({ st with mem := mem } : St).put o.dst (.full x))) (exec P Γ true n [.code b] (frameSt fn args st.mem st.ins))
      | none => .leaf (.ops all (o :: rest) :: k) .normal st
  | n + 1, .code c :: k, st => match c with
    | .skip => exec P Γ u n k st
    | .seq a b => exec P Γ u n (.code a :: .code b :: k) st
    | .block id b => exec P Γ u n (.code b :: .inBlock id :: k) st
    | .loop b => if u then exec P Γ u n (.code b :: .inLoop b :: k) st else .leaf (.code (.loop b) :: k) .normal st
    | .cond c a b => match opnd st none none c with
      | some (.sv (.one (.bool t))) => exec P Γ u n (.code (if t then a else b) :: k) st
      | some (.sv (.one e)) => if Ty.same e.ty .b then (match (if st.mg then tryJoin e (exec P Γ u n [.code a] (learn st c true)) (fun _ => exec P Γ u n [.code b] (learn st c false)) else none) with
        | some J => exec P Γ u n k J
        | none => .br e (exec P Γ u n (.code a :: k) (learn st c true)) (exec P Γ u n (.code b :: k) (learn st c false))) else .leaf (.code (.cond c a b) :: k) .normal st
      | _ => .leaf (.code (.cond c a b) :: k) .normal st
    | .exit id => match unwind id k with
      | some k' => exec P Γ u n k' st
      | none => .leaf [] (.exit id) st
    | .ret => .leaf [] .ret st
    | .region id ops draw =>
      if draw then
        (if P.follows .mixedOrders then
          match (if Region.lexB .any ops then quietOps P Γ ops ops.toList st else none) with
          | some st' => exec P Γ u n k st'
          | none => match regionOps P Γ ops st with
            | some (st', needs) => needAll needs (exec P Γ u n k st')
            | none => .leaf (.code (.region id ops true) :: k) .normal st
        else .leaf (.code (.region id ops true) :: k) .normal st)
      else exec P Γ u n (.ops ops ops.toList :: k) st
    | c => .leaf (.code c :: k) .normal st

def T.ok (ρ : Env) (F : List K → X → St → Prop) : T → Prop
  | .leaf k x st => F k x st
  | .br c t e => (boolOf (c.den ρ) = true → t.ok ρ F) ∧ (boolOf (c.den ρ) = false → e.ok ρ F)
  | .need c t => boolOf (c.den ρ) = true ∧ t.ok ρ F

/-! A whole function. -/
def startSt (fn : Func) (args : List SV) : St :=
  { tmps := args.map (fun v => .full (.sv v)) ++ List.replicate (fn.ntmps - args.length) .dead, mem := [] }

def startM (b : Bool) (fn : Func) (args : List SV) : St := { startSt fn args with mg := b }
/-- A tree of results. -/
inductive R where
  | val (l : List SV)
  | br (c : E) (t e : R)
  | need (c : E) (t : R)
  | bad

def T.fin (P : Program) (fn : Func) : T → R
  | .leaf [] .normal st | .leaf [] .ret st => match resultsE P st fn.results.toList with
    | some l => .val l
    | none => .bad
  | .leaf _ _ _ => .bad
  | .br c t e => .br c (t.fin P fn) (e.fin P fn)
  | .need c t => .need c (t.fin P fn)

def resVal (ρ : Env) : List SV → Value
  | [x] => x.den ρ
  | l => .tuple (l.map (SV.den ρ)).toArray

def R.ok (ρ : Env) (F : Value → Prop) : R → Prop
  | .val l => F (resVal ρ l)
  | .br c t e => (boolOf (c.den ρ) = true → t.ok ρ F) ∧ (boolOf (c.den ρ) = false → e.ok ρ F)
  | .need c t => boolOf (c.den ρ) = true ∧ t.ok ρ F
  | .bad => False

def run (P : Program) (Γ : List Con) (n : Nat) (f : Nat) (args : List SV) : R :=
  match P.funcs[f]? with
  | some fn => match fn.body with
    | some c => if Nat.ble args.length fn.ntmps then (exec P Γ true n [.code c] (startM (Nat.beq (n % 2) 1) fn args)).fin P fn else .bad
    | none => .bad
  | none => .bad

end Go.Sx
