/- A pure interpreter of the model's code over values whose immutable slices are lists. Definitions alone. -/
import Derived.CallsIn
import Derived.RangeFuncIn
import Derived.RangeFuncLeaves
import Derived.OrdersIn
import Derived.Still
import Derived.Wp
import Derived.Laws.AppendOwn
import Derived.Laws.MakeOwn
import Derived.Laws.Slices
import Derived.Laws.Tables
import Derived.Laws.StructEq
set_option linter.unusedVariables false
set_option linter.unusedSimpArgs false
namespace Go.Dn
open Go

/-- A value without a reference to what may change: one cell. -/
inductive FV where
  | bool (b : Bool)
  | int (k : IntKind) (n : Int)
  | str (s : ByteArray)
  | nilp
  | nilf
  | fn (f : FuncId)
  | sl (xs : List (List FV))
  deriving Inhabited

/-- A value of a slot or a cell. 'buf', 'ptr' refer to the interpreter's own heap, by a number and the count of cells that were there; 'fptr' is the address of immutable cells. -/
inductive PV where
  | undef
  | v (x : FV)
  | nils
  | full (xs : List (List FV))
  | buf (id len sz : Nat)
  | ptr (id ver off : Nat)
  | fptr (cells : List FV)
  | clo (f : FuncId) (first caps : List PV)
  | yld (id : Nat)
  | agg (cells : List PV)
  | tup (vs : List PV)
  deriving Inhabited

abbrev Env := Nat → PV

inductive Ent where
  | none
  | blk (elem : TypeId) (cells : List PV) (live : Bool)
  | loop (fn : FuncId) (env : Env) (n : Nat) (params : List Nat) (assign body : Code) (st : LoopState) (pend : Option Code)

structure Heap where
  nx : Nat
  ent : Nat → Ent

def upd {α : Type} (f : Nat → α) (i : Nat) (x : α) : Nat → α := fun j => if j = i then x else f j

def Heap.empty : Heap := ⟨0, fun _ => .none⟩
def Heap.put (σ : Heap) (id : Nat) (e : Ent) : Heap := ⟨σ.nx, upd σ.ent id e⟩

/-- What is asked of a program. -/
structure Ctx where
  P : Program
  glob : Nat → Option (List FV)
  intr : FuncId → List PV → Option PV
  opn : FuncId → Bool
  keep : FuncId → Bool
  /-- Are literals of slices immutable from the first? -/
  lit : Bool := false

/-! ### Values -/
def FV.ofVal : Value → Option FV
  | .bool b => some (.bool b)
  | .int k n => some (.int k n)
  | .string s => some (.str s)
  | .pointer none => some .nilp
  | .nilFunc => some .nilf
  | _ => none

def PV.ofCell : Value → Option PV
  | .slice none 0 0 => some .nils
  | x => (FV.ofVal x).map .v

def ofCells : List Value → Option (List PV)
  | [] => some []
  | x :: xs => (PV.ofCell x).bind fun y => (ofCells xs).bind fun ys => some (y :: ys)

def PV.ofVal : Value → Option PV
  | .agg cs => (ofCells cs.toList).map .agg
  | .tuple vs => if vs.size = 0 then some .undef else none
  | x => PV.ofCell x

def PV.cells : PV → Option (List PV)
  | .agg cs => some cs
  | .tup _ => none
  | .undef => none
  | x => some [x]

def vs (xs : List FV) : List PV := xs.map .v

def chunk (sz : Nat) : Nat → List FV → List (List FV)
  | 0, _ => []
  | n + 1, xs => xs.take sz :: chunk sz n (xs.drop sz)

def expCellsW (f : Heap → PV → Option (FV × Heap)) : Heap → List PV → Option (List FV × Heap)
  | σ, [] => some ([], σ)
  | σ, x :: xs => (f σ x).bind fun r => (expCellsW f r.2 xs).bind fun s => some (r.1 :: s.1, s.2)

/-- One cell's value, what it leads to being read; what was read is immutable from now on. -/
def expCell : Nat → Heap → PV → Option (FV × Heap)
  | 0, _, _ => none
  | d + 1, σ, x =>
    match x with
    | .v x => some (x, σ)
    | .nils => some (.sl [], σ)
    | .full xs => some (.sl xs, σ)
    | .buf id len sz =>
      match σ.ent id with
      | .blk elem cells _ =>
        if cells.length = len * sz then
          (expCellsW (expCell d) (σ.put id (.blk elem cells false)) cells).bind fun r => some (.sl (chunk sz len r.1), r.2)
        else none
      | _ => none
    | _ => none

def expList : Heap → List PV → Option (List FV × Heap) := expCellsW (expCell 6)

/-- A value for the caller or the callee: no reference but to immutable cells. -/
def expVal (σ : Heap) : PV → Option (PV × Heap)
  | .agg cs => (expList σ cs).bind fun r => some (.agg (vs r.1), r.2)
  | .fptr cs => some (.fptr cs, σ)
  | .undef => some (.undef, σ)
  | .tup _ => none
  | x => (expCell 6 σ x).bind fun r => some (.v r.1, r.2)

def expVals : Heap → List PV → Option (List PV × Heap)
  | σ, [] => some ([], σ)
  | σ, x :: xs => (expVal σ x).bind fun r => (expVals r.2 xs).bind fun s => some (r.1 :: s.1, s.2)

def expRes (σ : Heap) : PV → Option (PV × Heap)
  | .tup xs => (expVals σ xs).bind fun r => some (.tup r.1, r.2)
  | x => expVal σ x

/-- An argument in which buffers have been read; what refers to memory otherwise stays. -/
def expArg (σ : Heap) : PV → Option (PV × Heap)
  | .ptr id ver off => some (.ptr id ver off, σ)
  | .clo f a c => some (.clo f a c, σ)
  | .yld id => some (.yld id, σ)
  | x => expVal σ x

def expArgs : Heap → List PV → Option (List PV × Heap)
  | σ, [] => some ([], σ)
  | σ, x :: xs => (expArg σ x).bind fun r => (expArgs r.2 xs).bind fun s => some (r.1 :: s.1, s.2)

def PV.isV : PV → Bool
  | .v _ => true
  | _ => false

def PV.pure : PV → Bool
  | .v _ | .fptr _ => true
  | .agg cs => cs.all PV.isV
  | _ => false

def PV.isN : PV → Bool
  | .v _ | .nils | .full _ => true
  | _ => false

/-- A value that is read without a look at the heap. -/
def PV.calm : PV → Bool
  | .v _ | .fptr _ | .nils | .full _ => true
  | .agg cs => cs.all PV.isN
  | _ => false

/-! ### Types -/
def tsize (P : Program) (t : TypeId) : Option Nat := (P.info? t).map (·.size)
def tbytes (P : Program) (t : TypeId) : Option Nat := (P.info? t).map (·.bytes)
def tzero (P : Program) (t : TypeId) : Option (List PV) := ((P.info? t).bind (·.zero)).bind fun z => ofCells z.cells.toList
def tagg (P : Program) (t : TypeId) : Option Bool := (P.underlying t).map fun | .struct _ | .array _ _ => true | _ => false
def tslice (P : Program) (t : TypeId) : Option TypeId := match P.underlying t with | some (.slice e) => some e | _ => none
def tarray (P : Program) (t : TypeId) : Option (Nat × TypeId) := match P.underlying t with | some (.array n e) => some (n, e) | _ => none
/-- A field's place and type. -/
def tfield (P : Program) (t : TypeId) (f : Nat) : Option (Nat × TypeId) := match P.underlying t with | some (.struct fs) => (fs[f]?).map fun x => (x.offset, x.type) | _ => none
/-- The places of a struct's fields. -/
def tplaces (P : Program) (t : TypeId) : Option (List (Nat × Nat)) :=
  match P.underlying t with
  | some (.struct fs) => fs.toList.mapM fun f => (P.info? f.type).map fun i => (f.offset, i.size)
  | _ => none
def tint (P : Program) (t : TypeId) : Option IntKind := match P.underlying t with | some (.int k) => some k | _ => none
def tstr (P : Program) (t : TypeId) : Bool := match P.underlying t with | some .string => true | _ => false

/-- A part of an aggregate's cells, as a value. -/
def partD (P : Program) (t : TypeId) (cs : List PV) (off : Nat) : Option PV :=
  match tagg P t, tsize P t with
  | some true, some n => if off + n ≤ cs.length then some (.agg ((cs.drop off).take n)) else none
  | some false, _ => cs[off]?
  | _, _ => none

def tfields (P : Program) (t : TypeId) : Option (List (String × Nat × TypeId)) :=
  match P.underlying t with
  | some (.struct fs) => if P.stoodInHeld t then none else some (fs.toList.map fun f => (f.name, f.offset, f.type))
  | _ => none

/-! ### Operations -/
def loadD (P : Program) (σ : Heap) (t : TypeId) : PV → Option PV
  | .ptr id ver off =>
    match σ.ent id with
    | .blk _ cells _ =>
      if cells.length = ver then
        match tagg P t, tsize P t with
        | some true, some n => if off + n ≤ cells.length then some (.agg ((cells.drop off).take n)) else none
        | some false, _ => cells[off]?
        | _, _ => none
      else none
    | _ => none
  | .fptr cells =>
    match tagg P t, tsize P t with
    | some true, some n => if n ≤ cells.length then some (.agg (vs (cells.take n))) else none
    | some false, _ => (cells[0]?).map .v
    | _, _ => none
  | _ => none

def splice (xs : List PV) (off : Nat) (ys : List PV) : List PV := xs.take off ++ ys ++ xs.drop (off + ys.length)

def storeD (P : Program) (σ : Heap) (t : TypeId) (x : PV) : PV → Option Heap
  | .ptr id ver off =>
    match σ.ent id with
    | .blk elem cells true =>
      if cells.length = ver then
        match tsize P t, x.cells with
        | some n, some ys => if ys.length = n ∧ off + n ≤ cells.length then some (σ.put id (.blk elem (splice cells off ys) true)) else none
        | _, _ => none
      else none
    | _ => none
  | _ => none

def newD (σ : Heap) (id : Nat) (t : TypeId) (cells : List PV) : PV × Heap := (.ptr id cells.length 0, σ.put id (.blk t cells true))

def fillD (place : Nat → Option (Nat × Nat)) : List PV → List (Nat × PV) → Option (List PV)
  | cells, [] => some cells
  | cells, (i, x) :: rest =>
    match place i, x.cells with
    | some (off, n), some ys => if ys.length = n ∧ off + n ≤ cells.length then fillD place (splice cells off ys) rest else none
    | _, _ => none

def intBin (op : BinOp) (k : IntKind) (x y : Int) : Option FV :=
  match op with
  | .add => some (.int k (k.wrap (x + y)))
  | .sub => some (.int k (k.wrap (x - y)))
  | .mul => some (.int k (k.wrap (x * y)))
  | .quo => if y = 0 then none else some (.int k (k.wrap (x.tdiv y)))
  | .rem => if y = 0 then none else some (.int k (x.tmod y))
  | .and => some (.int k (k.wrap (BitVec.ofInt k.bits x &&& BitVec.ofInt k.bits y).toNat))
  | .or => some (.int k (k.wrap (BitVec.ofInt k.bits x ||| BitVec.ofInt k.bits y).toNat))
  | .xor => some (.int k (k.wrap (BitVec.ofInt k.bits x ^^^ BitVec.ofInt k.bits y).toNat))
  | .andNot => some (.int k (k.wrap (BitVec.ofInt k.bits x &&& ~~~ BitVec.ofInt k.bits y).toNat))
  | .eql => some (.bool (x == y))
  | .neq => some (.bool (x != y))
  | .lss => some (.bool (decide (x < y)))
  | .leq => some (.bool (decide (x ≤ y)))
  | .gtr => some (.bool (decide (x > y)))
  | .geq => some (.bool (decide (x ≥ y)))
  | _ => none

def eqFields (P : Program) (eq : TypeId → PV → PV → Option Bool) (xs ys : List PV) : List (String × Nat × TypeId) → Option Bool
  | [] => some true
  | (name, off, ft) :: fs =>
    if name = "_" then none else
    match partD P ft xs off, partD P ft ys off with
    | some a, some b => (eq ft a b).bind fun r => (eqFields P eq xs ys fs).bind fun s => some (r && s)
    | _, _ => none

/-- '==': numbers, bools, texts, structs of such. -/
def eqD (P : Program) : Nat → TypeId → PV → PV → Option Bool
  | 0, _, _, _ => none
  | d + 1, t, x, y =>
    match x, y with
    | .v (.bool a), .v (.bool b) => match P.underlying t with | some .bool => some (a == b) | _ => none
    | .v (.int k a), .v (.int k' b) => match P.underlying t with | some (.int _) => if k = k' then some (a == b) else none | _ => none
    | .v (.str a), .v (.str b) => match P.underlying t with | some .string => some (a == b) | _ => none
    | .agg xs, .agg ys => (tfields P t).bind fun fs => eqFields P (eqD P d) xs ys fs
    | _, _ => none

def Heap.cur (σ : Heap) (id n : Nat) : Bool :=
  match σ.ent id with
  | .blk _ cells _ => cells.length == n
  | _ => false

def isNil (σ : Heap) : PV → Option Bool
  | .nils => some true
  | .v (.sl (_ :: _)) => some false
  | .buf id len sz => if σ.cur id (len * sz) then some false else none
  | _ => none

def guardFree (P : Program) (t : TypeId) : PV → Bool
  | .agg _ => !P.eqGuardType P.depth t
  | _ => true

def binD (P : Program) (σ : Heap) (op : BinOp) (t : TypeId) (x y : PV) : Option FV :=
  match x, y with
  | .v (.int k a), .v (.int k' b) =>
    match op with
    | .shl => if b < 0 then none else some (.int k (k.wrap (a * 2 ^ min b.toNat k.bits)))
    | .shr => if b < 0 then none else some (.int k (a.fdiv (2 ^ min b.toNat k.bits)))
    | _ => if k = k' then intBin op k a b else none
  | .v (.str a), .v (.str b) =>
    match op with
    | .eql => some (.bool (a.toList == b.toList))
    | .neq => some (.bool (!(a.toList == b.toList)))
    | _ => none
  | x, .nils =>
    match tslice P t, op with
    | some _, .eql => (isNil σ x).map .bool
    | some _, .neq => (isNil σ x).map fun b => .bool (!b)
    | _, _ => none
  | x, y =>
    if guardFree P t x then
      match op with
      | .eql => (eqD P 6 t x y).map .bool
      | .neq => (eqD P 6 t x y).map fun b => .bool (!b)
      | _ => none
    else none

def unD (op : UnOp) (x : PV) : Option FV :=
  match op, x with
  | .neg, .v (.int k a) => some (.int k (k.wrap (0 - a)))
  | .not, .v (.bool b) => some (.bool (!b))
  | _, _ => none

def convD (P : Program) (src dst : TypeId) (x : PV) : Option FV :=
  match x with
  | .v (.int _ a) => match P.underlying src, tint P dst with
    | some _, some k => some (.int k (k.wrap a))
    | _, _ => none
  | _ => none

def asNat : PV → Option Nat
  | .v (.int _ n) => if 0 ≤ n then some n.toNat else none
  | _ => none

def lenD (P : Program) (σ : Heap) (t : TypeId) (x : PV) : Option FV :=
  match tslice P t with
  | some _ =>
    match x with
    | .v (.sl xs) => some (.int .i64 xs.length)
    | .full xs => some (.int .i64 xs.length)
    | .nils => some (.int .i64 0)
    | .buf id n sz => if σ.cur id (n * sz) then some (.int .i64 n) else none
    | _ => none
  | none =>
    match x with
    | .v (.str s) => if tstr P t then some (.int .i64 s.size) else none
    | _ => none

def indexAddrD (P : Program) (σ : Heap) (t : TypeId) (x i : PV) : Option PV :=
  match asNat i with
  | none => none
  | some i =>
    match x with
    | .v (.sl xs) => match (tslice P t).bind (tsize P), xs[i]? with | some sz, some y => if y.length = sz then some (.fptr y) else none | _, _ => none
    | .buf id len sz =>
      match tslice P t with
      | some e => if σ.cur id (len * sz) && tsize P e == some sz && decide (i < len) then some (.ptr id (len * sz) (i * sz)) else none
      | none => none
    | .ptr id ver off =>
      match tarray P t with
      | some (n, e) => if σ.cur id ver && decide (i < n) then (tsize P e).map fun s => .ptr id ver (off + i * s) else none
      | none => none
    | _ => none

def indexD (P : Program) (t : TypeId) (x i : PV) : Option PV :=
  match asNat i with
  | none => none
  | some i =>
    match x with
    | .agg cs => match tarray P t with
      | some (n, e) => if i < n then (tsize P e).bind fun s => partD P e cs (i * s) else none
      | none => none
    | .v (.str s) => if tstr P t then (s[i]?).map fun b => .v (.int .u8 b.toNat) else none
    | _ => none

def fieldAddrD (P : Program) (σ : Heap) (t : TypeId) (x : PV) (f : Nat) : Option PV :=
  match tfield P t f with
  | none => none
  | some (off, ft) =>
    match tsize P ft with
    | none | some 0 => none
    | some _ =>
      match x with
      | .ptr id ver o => if σ.cur id ver then some (.ptr id ver (o + off)) else none
      | .fptr cells => some (.fptr (cells.drop off))
      | _ => none

def fieldD (P : Program) (t : TypeId) (x : PV) (f : Nat) : Option PV :=
  match tfield P t f, x with
  | some (off, ft), .agg cs => partD P ft cs off
  | _, _ => none

def elemLen (xs : List (List FV)) (l sz : Nat) : Bool := match xs[l]? with | some y => y.length == sz | none => true

/-- x[lo:hi:max]: immutable slices and texts; a part of what is immutable. 'hi', 'max' at most the length. -/
def sliceD (P : Program) (t : TypeId) (x : PV) (lo hi mx : Option PV) : Option PV :=
  let l? := match lo with | none => some 0 | some v => asNat v
  match x with
  | .v (.sl xs) =>
    match (tslice P t).bind (tsize P) with
    | none => none
    | some sz =>
      let h? := match hi with | none => some xs.length | some v => asNat v
      match l?, h? with
      | some l, some h =>
        if l ≤ h ∧ h ≤ xs.length ∧ elemLen xs l sz = true then
          match mx with
          | none => some (.v (.sl ((xs.take h).drop l)))
          | some m => if asNat m = some h ∧ l < h ∧ hi.isSome = true then some (.full ((xs.take h).drop l)) else none
        else none
      | _, _ => none
  | _ => none

/-- The cells that an append's second operand brings, and how many elements. -/
def bringD (σ : Heap) (sz : Nat) : PV → Option (List PV × Nat)
  | .v (.sl ys) => if ys.all (fun y => y.length == sz) then some (vs ys.flatten, ys.length) else none
  | .full ys => if ys.all (fun y => y.length == sz) then some (vs ys.flatten, ys.length) else none
  | .nils => some ([], 0)
  | .buf id len s =>
    match σ.ent id with
    | .blk _ cells _ => if s = sz ∧ cells.length = len * s then some (cells, len) else none
    | _ => none
  | _ => none

def room : Nat := 140737488355328

def appendD (P : Program) (σ : Heap) (id0 : Nat) (t : TypeId) (x y : PV) : Option (PV × Heap) :=
  match tslice P t with
  | none => none
  | some e =>
    match tsize P e, tbytes P e with
    | some sz, some by_ =>
      match bringD σ sz y with
      | none => none
      | some (ys, n) =>
        if (sz = 0 ∨ by_ = 0 ∨ (tzero P e).map List.length ≠ some sz) then none else
        match x with
        | .nils =>
          if n = 0 then some (.nils, σ)
          else if n * by_ ≤ room then some (.buf id0 n sz, σ.put id0 (.blk e ys true)) else none
        | .full xs =>
          if n = 0 then none
          else if (xs.length + n) * by_ ≤ room ∧ xs.all (fun y => y.length == sz) then some (.buf id0 (xs.length + n) sz, σ.put id0 (.blk e (vs xs.flatten ++ ys) true)) else none
        | .buf id len s =>
          match σ.ent id with
          | .blk e' cells true =>
            if s = sz ∧ e' = e ∧ cells.length = len * sz ∧ (len + n) * by_ ≤ room then some (.buf id (len + n) sz, σ.put id (.blk e (cells ++ ys) true)) else none
          | _ => none
        | _ => none
    | _, _ => none

def copyD (P : Program) (σ : Heap) (t : TypeId) (x y : PV) : Option (PV × Heap) :=
  match tslice P t with
  | none => none
  | some e =>
    match tsize P e with
    | none => none
    | some sz =>
      match bringD σ sz y, x with
      | some (ys, n), .buf id len s =>
        match σ.ent id with
        | .blk e' cells true =>
          if s = sz ∧ e' = e ∧ cells.length = len * sz then
            some (.v (.int .i64 (min n len : Nat)), σ.put id (.blk e (splice cells 0 (ys.take (min n len * sz))) true))
          else none
        | _ => none
      | _, _ => none

def makeD (P : Program) (σ : Heap) (id0 : Nat) (t : TypeId) (len cap : PV) : Option (PV × Heap) :=
  match tslice P t, len, cap with
  | some e, .v (.int .i64 l), .v (.int .i64 c) =>
    match tsize P e, tbytes P e, tzero P e with
    | some sz, some by_, some z =>
      if l = c ∧ 0 ≤ l ∧ l.toNat * by_ ≤ room ∧ z.length = sz ∧ sz ≠ 0 ∧ by_ ≠ 0 then some (.buf id0 l.toNat sz, σ.put id0 (.blk e (List.replicate l.toNat z).flatten true)) else none
    | _, _, _ => none
  | _, _, _ => none

def foldInt (f : Int → Int → Int) (k : IntKind) : Int → List PV → Option Int
  | a, [] => some a
  | a, .v (.int k' b) :: xs => if k = k' then foldInt f k (f a b) xs else none
  | _, _ => none

inductive Callee where
  | fn (f : FuncId)
  | yld (id : Nat)

abbrev Call0 := Callee → List PV → Heap → Option (PV × Heap)

def builtinD (P : Program) (σ : Heap) (id0 : Nat) (b : Builtin) (ts : List TypeId) (args : List PV) : Option (PV × Heap) :=
  match b, ts, args with
  | .len, [t], [x] => (lenD P σ t x).map fun r => (.v r, σ)
  | .append, [t, t'], [x, y] => if t = t' then appendD P σ id0 t x y else none
  | .copy, [t, _], [x, y] => copyD P σ t x y
  | .min, _, .v (.int k a) :: xs => (foldInt (fun x y => if y < x then y else x) k a xs).map fun r => (.v (.int k r), σ)
  | .max, _, .v (.int k a) :: xs => (foldInt (fun x y => if y > x then y else x) k a xs).map fun r => (.v (.int k r), σ)
  | _, _, _ => none

section
variable (X : Ctx)

def operandD (e : Env) : Operand → Option PV
  | .tmp t => some (e t)
  | .const c => PV.ofVal c
  | .global g => (X.glob g).map .fptr
  | .func f => some (.v (.fn f))

def operandsD (e : Env) : List Operand → Option (List PV)
  | [] => some []
  | x :: xs => (operandD X e x).bind fun y => (operandsD e xs).bind fun ys => some (y :: ys)

def partsD (e : Env) : List (Nat × Operand) → Option (List (Nat × PV))
  | [] => some []
  | (i, x) :: xs => (operandD X e x).bind fun y => (partsD e xs).bind fun ys => some ((i, y) :: ys)

def optD (e : Env) : Option Operand → Option (Option PV)
  | none => some none
  | some x => (operandD X e x).map some

def buildD (e : Env) (t : TypeId) (parts : List (Nat × Operand)) : Option PV :=
  match tzero X.P t, partsD X e parts with
  | some z, some ps =>
    match tplaces X.P t with
    | some pl => (fillD (pl[·]?) z ps).map .agg
    | none =>
      match tarray X.P t with
      | some (_, el) => (tsize X.P el).bind fun n => (fillD (fun i => some (i * n, n)) z ps).map .agg
      | none => none
  | _, _ => none

def fvsOf : List PV → Option (List FV)
  | [] => some []
  | .v x :: xs => (fvsOf xs).map (x :: ·)
  | _ :: _ => none

/-- What a literal is, and what lies there. -/
def litR (lit : Bool) (len sz id0 : Nat) (el : TypeId) (cs : List PV) : PV × Ent :=
  match lit && len != 0, fvsOf cs with
  | true, some fs => (.v (.sl (chunk sz len fs)), .blk el cs false)
  | _, _ => (.buf id0 len sz, .blk el cs true)

def buildSliceD (e : Env) (σ : Heap) (id0 : Nat) (t : TypeId) (len : Nat) (parts : List (Nat × Operand)) : Option (PV × Heap) :=
  match tslice X.P t, partsD X e parts with
  | some el, some ps =>
    match tsize X.P el, tzero X.P el with
    | some sz, some z =>
      if z.length = sz ∧ sz ≠ 0 ∧ len * sz ≤ 1000000 then
        (fillD (fun i => some (i * sz, sz)) (List.replicate len z).flatten ps).map fun cs => ((litR X.lit len sz id0 el cs).1, σ.put id0 (litR X.lit len sz id0 el cs).2)
      else none
    | _, _ => none
  | _, _ => none

def callOpD (call : Call0) (e : Env) (σ : Heap) (id0 : Nat) (c : Call) : Option (PV × Heap) :=
  match operandsD X e c.args.toList with
  | none => none
  | some args =>
    match c.callee with
    | .builtin b => builtinD X.P σ id0 b c.argTypes.toList args
    | .invoke _ _ => none
    | .value f =>
      match operandD X e f with
      | some (.v (.fn f)) => call (.fn f) args σ
      | some (.clo f first caps) => call (.fn f) (first ++ args ++ caps) σ
      | some (.yld id) => call (.yld id) args σ
      | _ => none

/-- One operation: what it leaves in its slot, and the heap. -/
def stepOp (call : Call0) (e : Env) (σ : Heap) (id0 : Nat) : Op → Option (PV × Heap)
  | .move x | .assign x => (operandD X e x).map (·, σ)
  | .pick c a b =>
    match operandD X e c with
    | some (.v (.bool true)) => (operandD X e a).map (·, σ)
    | some (.v (.bool false)) => (operandD X e b).map (·, σ)
    | _ => none
  | .alloc t => (tzero X.P t).map fun z => newD σ id0 t z
  | .box t x => ((operandD X e x).bind PV.cells).map fun cs => newD σ id0 t cs
  | .build t parts => (buildD X e t parts.toList).map (·, σ)
  | .buildSlice t len parts => buildSliceD X e σ id0 t len parts.toList
  | .load t a => ((operandD X e a).bind fun a => loadD X.P σ t a).map (·, σ)
  | .store t a x => match operandD X e a, operandD X e x with
    | some a, some x => (storeD X.P σ t x a).map fun σ' => (.undef, σ')
    | _, _ => none
  | .nilCheck x =>
    match operandD X e x with
    | some (.ptr id ver off) => if σ.cur id ver then some (.ptr id ver off, σ) else none
    | some (.fptr cs) => some (.fptr cs, σ)
    | some (.clo f a c) => some (.clo f a c, σ)
    | some (.v (.fn f)) => some (.v (.fn f), σ)
    | some (.yld id) => some (.yld id, σ)
    | _ => none
  | .binOp op t x y _ => match operandD X e x, operandD X e y with
    | some x, some y => (binD X.P σ op t x y).map fun r => (.v r, σ)
    | _, _ => none
  | .unOp op _ x => ((operandD X e x).bind fun x => unD op x).map fun r => (.v r, σ)
  | .convert src dst x => ((operandD X e x).bind fun x => convD X.P src dst x).map fun r => (.v r, σ)
  | .makeFunc (.func f) first caps =>
    match operandsD X e first.toList, operandsD X e caps.toList with
    | some [], some [] => some (.v (.fn f), σ)
    | some a, some c => some (.clo f a c, σ)
    | _, _ => none
  | .makeSlice t l c => match operandD X e l, operandD X e c with
    | some l, some c => makeD X.P σ id0 t l c
    | _, _ => none
  | .slice t x lo hi mx =>
    match operandD X e x, optD X e lo, optD X e hi, optD X e mx with
    | some (.buf id len sz), some lo, some hi, some mx =>
      (expCell 6 σ (.buf id len sz)).bind fun r => (sliceD X.P t (.v r.1) lo hi mx).map (·, r.2)
    | some x, some lo, some hi, some mx => (sliceD X.P t x lo hi mx).map (·, σ)
    | _, _, _, _ => none
  | .fieldAddr t x f => ((operandD X e x).bind fun x => fieldAddrD X.P σ t x f).map (·, σ)
  | .field t x f => ((operandD X e x).bind fun x => fieldD X.P t x f).map (·, σ)
  | .indexAddr t x i => match operandD X e x, operandD X e i with
    | some x, some i => (indexAddrD X.P σ t x i).map (·, σ)
    | _, _ => none
  | .index t x i => match operandD X e x, operandD X e i with
    | some x, some i => (indexD X.P t x i).map (·, σ)
    | _, _ => none
  | .extract x i => match operandD X e x with
    | some (.tup vs) => (vs[i]?).map (·, σ)
    | _ => none
  | .call c => callOpD X call e σ id0 c
  | _ => none
end

/-! ### Regions -/
def putD (n : Nat) (e : Env) (dst : Option Tmp) (x : PV) : Env :=
  match dst with
  | none => e
  | some d => if d < n then upd e d x else e

def wantedD (ops : Array Oper) (e : Env) (o : Oper) : Option Bool :=
  match o.guard with
  | none => some true
  | some (j, want) =>
    match (ops[j]?).bind (·.dst) with
    | none => some false
    | some d =>
      match e d with
      | .v (.bool b) => some (b == want)
      | .undef => some false
      | _ => none

/-- One operation in its region, the i-th: 'base + i' is the number of what it makes. -/
def stepO (X : Ctx) (call : Call0) (n : Nat) (ops : Array Oper) (base i : Nat) (o : Oper) (e : Env) (σ : Heap) : Option (Env × Heap) :=
  match wantedD ops e o with
  | some true => (stepOp X call e σ (base + i) o.op).bind fun r => some (putD n e o.dst r.1, r.2)
  | some false => some (putD n e o.dst .undef, σ)
  | none => none

def runOps (X : Ctx) (call : Call0) (n : Nat) (ops : Array Oper) (base : Nat) : Nat → List Oper → Env → Heap → Option (Env × Heap)
  | _, [], e, σ => some (e, σ)
  | i, o :: os, e, σ => (stepO X call n ops base i o e σ).bind fun r => runOps X call n ops base (i + 1) os r.1 r.2

/-! ### Regions that draw their order: what an operation reads and writes -/
def vids : PV → List Nat
  | .ptr id _ _ => [id]
  | .buf id _ _ => [id]
  | _ => []

inductive OpK where
  | pure | read | write | call | bad
  deriving DecidableEq

def opKind : Op → OpK
  | .move _ | .assign _ | .pick .. | .alloc _ | .box .. | .build .. | .buildSlice .. | .unOp .. | .convert .. | .field .. | .index .. | .extract .. | .makeSlice .. | .slice .. => .pure
  | .makeFunc (.func _) _ _ => .pure
  | .binOp op _ _ _ _ => match op with | .eql | .neq => .read | _ => .pure
  | .load .. | .nilCheck _ | .indexAddr .. | .fieldAddr .. => .read
  | .store .. => .write
  | .call c => match c.callee with
    | .builtin .len => .read
    | .builtin .append | .builtin .copy => .write
    | .builtin .min | .builtin .max => .pure
    | .value _ => .call
    | _ => .bad
  | _ => .bad

/-- The operands whose entries an operation may read or write. -/
def opLooks : Op → List Operand
  | .load _ a => [a]
  | .nilCheck a => [a]
  | .indexAddr _ a _ => [a]
  | .fieldAddr _ a _ => [a]
  | .binOp _ _ x y _ => [x, y]
  | .store _ a _ => [a]
  | .call c => match c.callee with
    | .builtin _ => c.args.toList
    | _ => []
  | _ => []

def touched (X : Ctx) (e : Env) (op : Op) : List Nat :=
  (opLooks op).flatMap fun x => match operandD X e x with | some v => vids v | none => []

def isRW (op : Op) : Bool := match opKind op with | .read | .write => true | _ => false
def isW (op : Op) : Bool := match opKind op with | .write => true | _ => false

def unord (bef : Array Nat) (i j : Nat) : Bool := i != j && !((bef.getD (max i j) 0).testBit (min i j))

/-- Some operation that writes may come up ahead of, or behind, this one. -/
def oldOnly (bef : Array Nat) (ops : Array Oper) (j : Nat) : Bool :=
  (List.range ops.size).any fun i => unord bef i j && (match ops[i]? with | some o => isW o.op | none => false)
def freshOnly (bef : Array Nat) (ops : Array Oper) (i : Nat) : Bool :=
  (List.range ops.size).any fun j => unord bef i j && (match ops[j]? with | some o => isRW o.op | none => false)

def drawOK (ops : Array Oper) : Bool :=
  let bef := Region.before ops
  Region.lexB .any ops && ops.all (fun o => opKind o.op != .bad) &&
  (List.range ops.size).all fun i => match ops[i]? with
    | some o => (if isW o.op then !oldOnly bef ops i else true) && o.after.all fun e => !Region.binds .any e || decide (e.on < i)
    | none => true

/-- Whom a region that draws may call: a function on values without references. -/
def callAsk (X : Ctx) (e : Env) (args : List PV) : Go.Callee → Bool
  | .value f => match operandD X e f with
    | some (.v (.fn f)) => args.all PV.calm && !X.opn f && !X.keep f
    | some (.clo f first caps) => first.all PV.calm && args.all PV.calm && caps.all PV.calm && !X.opn f && !X.keep f
    | _ => false
  | _ => false

/-- What a region that draws asks of its i-th operation, beyond that it can be carried out. -/
def drawAsk (X : Ctx) (ops : Array Oper) (base i : Nat) (o : Oper) (e : Env) : Bool :=
  let bef := Region.before ops
  match opKind o.op with
  | .pure => match o.op with
    | .slice _ x _ _ _ => match operandD X e x with
      | some (.buf _ _ _) => false
      | _ => true
    | _ => true
  | .read => (touched X e o.op).all fun k => decide (k < base) || (!oldOnly bef ops i && (bef.getD i 0).testBit (k - base) && decide (k < base + ops.size))
  | .write => (touched X e o.op).all fun k => (decide (k < base) && !freshOnly bef ops i) || (decide (base ≤ k) && (bef.getD i 0).testBit (k - base) && decide (k < base + ops.size))
  | .call => match o.op with
    | .call c => match operandsD X e c.args.toList with
      | some args => callAsk X e args c.callee
      | none => false
    | _ => false
  | .bad => false

def stepW (X : Ctx) (call : Call0) (n : Nat) (ops : Array Oper) (base i : Nat) (o : Oper) (e : Env) (σ : Heap) : Option (Env × Heap) :=
  if wantedD ops e o = some true ∧ drawAsk X ops base i o e = false then none else stepO X call n ops base i o e σ

def runDraw (X : Ctx) (call : Call0) (n : Nat) (ops : Array Oper) (base : Nat) : Nat → List Oper → Env → Heap → Option (Env × Heap)
  | _, [], e, σ => some (e, σ)
  | i, o :: os, e, σ => (stepW X call n ops base i o e σ).bind fun r => runDraw X call n ops base (i + 1) os r.1 r.2

inductive Ex where
  | normal
  | exit (id : Nat)
  | ret
  deriving DecidableEq

abbrev Out := Ex × Env × Heap

def loopD (step : Env → Heap → Option Out) : Nat → Env → Heap → Option Out
  | 0, _, _ => none
  | k + 1, e, σ =>
    match step e σ with
    | some (.normal, e', σ') => loopD step k e' σ'
    | r => r

def jumpD : Option Code → Option Ex
  | none => some .normal
  | some .ret => some .ret
  | some (.exit id) => some (.exit id)
  | _ => none

/-- The code of an activation. -/
def runCode (X : Ctx) (call : Call0) (lf n : Nat) (fn : FuncId) : Code → Env → Heap → Option Out
  | .skip, e, σ => some (.normal, e, σ)
  | .region _ ops draw, e, σ =>
    let σ0 : Heap := ⟨σ.nx + ops.size, σ.ent⟩
    if draw then
      if drawOK ops then (runDraw X call n ops σ.nx 0 ops.toList e σ0).map fun r => (.normal, r.1, r.2) else none
    else (runOps X call n ops σ.nx 0 ops.toList e σ0).map fun r => (.normal, r.1, r.2)
  | .seq a b, e, σ =>
    match runCode X call lf n fn a e σ with
    | some (.normal, e', σ') => runCode X call lf n fn b e' σ'
    | r => r
  | .cond c a b, e, σ =>
    match operandD X e c with
    | some (.v (.bool true)) => runCode X call lf n fn a e σ
    | some (.v (.bool false)) => runCode X call lf n fn b e σ
    | _ => none
  | .block id c, e, σ =>
    match runCode X call lf n fn c e σ with
    | some (.exit id', e', σ') => if id' = id then some (.normal, e', σ') else some (.exit id', e', σ')
    | r => r
  | .loop c, e, σ => loopD (runCode X call lf n fn c) lf e σ
  | .exit id, e, σ => some (.exit id, e, σ)
  | .ret, e, σ => some (.ret, e, σ)
  | .label _, e, σ => some (.normal, e, σ)
  | .scope c, e, σ => runCode X call lf n fn c e σ
  | .rangeFunc g ps assign body, e, σ =>
    match operandD X e g with
    | some g =>
      let id := σ.nx
      let σ1 : Heap := ⟨σ.nx + 1, upd σ.ent id (.loop fn e n ps.toList assign body .ready none)⟩
      let r := match g with
        | .v (.fn f) => call (.fn f) [PV.yld id] σ1
        | .clo f first caps => call (.fn f) (first ++ [PV.yld id] ++ caps) σ1
        | _ => none
      match r with
      | some (_, σ2) =>
        match σ2.ent id with
        | .loop fn' e' n' ps' as' bo' st pend =>
          if st = LoopState.busy then none else
          match jumpD pend with
          | some x => some (x, e, σ2.put id (.loop fn' e' n' ps' as' bo' .exhausted pend))
          | none => none
        | _ => none
      | none => none
    | none => none
  | _, _, _ => none

def resultsD (P : Program) (e : Env) (σ : Heap) : List ResultVar → Option (List PV)
  | [] => some []
  | .tmp t :: rs => (resultsD P e σ rs).map fun xs => e t :: xs
  | .cell a t :: rs => (loadD P σ t (e a)).bind fun x => (resultsD P e σ rs).map fun xs => x :: xs

def packD : List PV → PV
  | [x] => x
  | xs => .tup xs

def envOf (args : List PV) : Env := fun t => args.getD t .undef

/-- A function's body on its arguments, in a heap. -/
def bodyD (X : Ctx) (call : Call0) (lf : Nat) (f : FuncId) (args : List PV) (σ : Heap) : Option (PV × Heap) :=
  match X.P.funcs[f]? with
  | none => none
  | some fn =>
    match fn.body with
    | none => none
    | some c =>
      match runCode X call lf (max fn.ntmps args.length) f c (envOf args) σ with
      | some (.normal, e, σ') | some (.ret, e, σ') => (resultsD X.P e σ' fn.results.toList).map fun xs => (packD xs, σ')
      | _ => none

def setArgs (e : Env) (n : Nat) : List Nat → List PV → Env
  | p :: ps, x :: xs => setArgs (putD n e (some p) x) n ps xs
  | _, _ => e

def callD (X : Ctx) : Nat → Call0
  | 0, _, _, _ => none
  | k + 1, .fn f, args, σ =>
    match X.intr f args with
    | some r => if args.all PV.pure then some (r, σ) else none
    | none =>
      match (if X.keep f then some (args, σ) else expArgs σ args) with
      | none => none
      | some (args, σ) =>
        if X.opn f then bodyD X (callD X k) k f args σ
        else if args.all PV.pure then (bodyD X (callD X k) k f args Heap.empty).bind fun r => (expRes r.2 r.1).map fun s => (s.1, σ)
        else (bodyD X (callD X k) k f args σ).bind fun r => expRes r.2 r.1
  | k + 1, .yld id, args, σ =>
    match σ.ent id with
    | .loop fn e n ps as_ bo .ready none =>
      if ps.length = args.length then
        match expArgs σ args with
        | none => none
        | some (args, σ) =>
        match runCode X (callD X k) k n fn as_ (setArgs e n ps args) σ with
        | some (.normal, e1, σ1) =>
          match σ1.ent id with
          | .loop _ _ _ _ _ _ .ready pend =>
            match runCode X (callD X k) k n fn bo e1 (σ1.put id (.loop fn e n ps as_ bo .busy pend)) with
            | some (x, _, σ2) =>
              match x with
              | .normal => some (.v (.bool true), σ2.put id (.loop fn e n ps as_ bo .ready none))
              | .exit t => some (.v (.bool false), σ2.put id (.loop fn e n ps as_ bo .done (some (.exit t))))
              | .ret => some (.v (.bool false), σ2.put id (.loop fn e n ps as_ bo .done (some .ret)))
            | none => none
          | _ => none
        | _ => none
      else none
    | _ => none

end Go.Dn
