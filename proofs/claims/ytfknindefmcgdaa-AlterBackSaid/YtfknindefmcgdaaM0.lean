/- Part 0 of what the row stands on. -/
import Derived.CallsIn
import Derived.RangeFuncIn
import Derived.RangeFuncLeaves
import Derived.OrdersIn
import Derived.Still
import Derived.Wp
import Derived.Laws.AppendOwn
import Derived.Laws.MakeOwn
import Derived.Laws.Slices
import Derived.Laws.Tables
import Derived.Laws.StructEq
import Derived.MapKept
set_option linter.unusedVariables false
set_option linter.unusedSimpArgs false
set_option linter.defProp false
namespace Go.Dn
def Y0:=@Option.bind_some
def Y1:=@Option.map_eq_some_iff
def Y2:=@List.getElem?_eq_getElem
def Y3:=@Prod.mk.injEq
def Y4:=@Option.bind_eq_some_iff
def Y5:=@Option.some.injEq
def Y6:=@List.mem_of_getElem?
def Y7:=@Array.getD_eq_getD_getElem?
def Y8:=@Option.map_some
def Y9:=@Bool.and_eq_true
def YA:=@Bool.false_eq_true
def YB:=@Nat.le_refl
def YC:=@List.getElem?_of_mem
def YD:=@Int.mul_le_mul_of_nonneg_left
def YE:=@List.getD_eq_getElem?_getD
def YF:=@List.mem_singleton
def YG:=@List.mem_cons_self
def YH:=@List.mem_cons_of_mem
def YI:=@Nat.lt_or_ge
def YJ:=@List.all_eq_true
def YK:=@List.getElem?_append_left
def YL:=@Nat.mul_le_mul_right
def YM:=@Int.mul_le_mul_of_nonneg_right
def YN:=@List.getElem?_append_right
def YO:=@List.flatMap_cons
def YP:=@List.getElem?_map
def YQ:=@List.append_nil
def YR:=@List.getElem?_take
def YS:=@List.length_take
def YT:=@List.flatMap_nil
def YU:=@Nat.lt_of_lt_of_le
def YV:=@Bool.not_eq_true'
def YW:=@List.getElem_mem
def YX:=@Nat.zero_le
def YY:=@List.length_map
def YZ:=@List.getElem?_eq_none
def Ya:=@Int.emod_nonneg
def Yb:=@Int.emod_add_mul_ediv
def Yc:=@Int.mul_assoc
def Yd:=@Nat.le_trans
def Ye:=@Int.emod_lt_of_pos
def Yf:=@List.mem_append_left
def Yg:=@Bool.not_true
def Yh:=@Array.getElem?_eq_getElem
def Yi:=@Nat.add_sub_cancel_left
def Yj:=@List.getElem_of_mem
def Yk:=@Bool.or_eq_true
def Yl:=@Nat.add_mul
def Ym:=@List.length_append
def Yn:=@List.mem_append_right
def Yo:=@Int.toNat_of_nonneg
def Yp:=@Int.mul_comm
def Yq:=@List.mem_of_mem_take
def Yr:=@List.pairwise_iff_getElem
def Ys:=@List.getElem?_drop
def Yt:=@List.length_nil
def Yu:=@List.mem_append
def Yv:=@List.length_cons
def Yw:=@List.all_cons
def Yx:=@Int.ediv_le_of_le_mul
def Yy:=@Array.getElem?_append_left
def Yz:=@Int.tmod_eq_emod_of_nonneg
def Y00:=@List.map_append
def Y01:=@List.append_assoc
def Y02:=@List.size_toArray
def Y03:=@List.getLast?_eq_some_getLast
def Y04:=@Nat.le_of_ble_eq_true
def Y05:=@List.length_singleton
def Y06:=@Int.le_ediv_of_mul_le
def Y07:=@Nat.mul_le_mul
def Y08:=@Int.mul_nonpos_of_nonneg_of_nonpos
def Y09:=@Bool.not_eq_true
def Y0A:=@List.head?_eq_some_head
def Y0B:=@List.map_cons
def Y0C:=@List.length_range
def Y0D:=@Int.toNat_natCast
def Y0E:=@List.flatten_cons
def Y0F:=@Array.getElem?_eq_none
def Y0G:=@Int.mul_nonneg
def Y0H:=@Nat.le_mul_of_pos_left
def Y0I:=@Array.length_toList
def Y0J:=@Array.toList_append
def Y0K:=@Int.le_refl
def Y0L:=@Array.getElem?_toList
def Y0M:=@List.getElem?_toArray
def Y0N:=@Nat.eq_of_beq_eq_true
def Y0O:=@List.length_filter_le
def Y0P:=@Bool.and_self
def Y0Q:=@Int.mul_ediv_cancel_left
def Y0R:=@List.eq_nil_of_length_eq_zero
def Y0S:=@Int.add_mul
def Y0T:=@Nat.gcd_pos_of_pos_left
def Y0U:=@Bool.false_or
def Y0V:=@Int.le_of_dvd
def Y0W:=@Nat.mul_assoc
def Y0X:=@Option.getD_some
def Y0Y:=@List.take_length
def Y0Z:=@Nat.eq_zero_or_pos
def Y0a:=@Int.fdiv_eq_ediv_of_nonneg
def Y0b:=@List.exists_cons_of_ne_nil
def Y0c:=@List.getLast?_eq_getElem?
def Y0d:=@Nat.zero_add
def Y0e:=@List.ext_getElem?
def Y0f:=@List.take_succ_eq_append_getElem
def Y0g:=@Int.lt_or_le
def Y0h:=@Bool.or_self
def Y0i:=@Array.eq_empty_of_size_eq_zero
def Y0j:=@Nat.le_mul_of_pos_right
def Y0k:=@List.cons_append
def Y0l:=@Bool.not_false
def Y0m:=@Bool.false_and
def Y0n:=@Int.dvd_of_emod_eq_zero
def Y0o:=@Nat.mul_div_cancel_left
def Y0p:=@List.take_append_of_le_length
def Y0q:=@List.take_of_length_le
def Y0r:=@Int.natAbs_natCast
def Y0s:=@Nat.mul_comm
def Y0t:=@Bool.and_eq_false_iff
def Y0u:=@List.take_append_drop
def Y0v:=@Array.size_append
def Y0w:=@List.getElem?_set
def Y0x:=@List.getElem?_append
def Y0y:=@Int.ediv_pos_of_pos_of_dvd
def Y0z:=@Nat.le_add_right
def Y10:=@Nat.le_max_right
def Y11:=@Int.le_of_lt
def Y12:=@Int.ediv_le_self
def Y13:=@Nat.gcd_dvd_left
def Y14:=@Nat.le_max_left
def Y15:=@Array.foldl_toList
def Y16:=@Array.empty_append
def Y17:=@Int.one_mul
def Y18:=@Int.zero_add
end Go.Dn
namespace Go.Dn
open Go
inductive FV where
 | bool (b:Bool)
 | int (k:IntKind) (n:Int)
 | str (s:ByteArray)
 | nilp
 | nilf
 | fn (f:FuncId)
 | sl (xs:List (List FV))
 deriving Inhabited
inductive PV where
 | undef
 | v (x:FV)
 | nils
 | full (xs:List (List FV))
 | buf (id len sz:Nat)
 | ptr (id ver off:Nat)
 | fptr (cells:List FV)
 | clo (f:FuncId) (first caps:List PV)
 | yld (id:Nat)
 | agg (cells:List PV)
 | tup (vs:List PV)
 | mp (id:Nat)
 | view (id tot off len sz:Nat)
 deriving Inhabited
abbrev Env:=Nat→PV
inductive Ent where
 | none
 | blk (elem:TypeId) (cells:List PV) (live:Bool)
 | loop (fn:FuncId) (env:Env) (n:Nat) (params:List Nat) (assign body:Code) (st:LoopState) (pend:Option Code)
 | map (kv:List (Int × Int))
structure Heap where
 nx:Nat
 ent:Nat→Ent
def upd {α:Type} (f:Nat→α) (i:Nat) (x:α):Nat→α:=fun j => if j = i then x else f j
def Heap.empty:Heap:=⟨0,fun _ => .none⟩
def Heap.only (σ:Heap) (ids:List Nat):Heap:=⟨σ.nx,fun k => if k ∈ ids then σ.ent k else .none⟩
def Heap.put (σ:Heap) (id:Nat) (e:Ent):Heap:=⟨σ.nx,upd σ.ent id e⟩
structure Ctx where
 P:Program
 glob:Nat→Option (List FV)
 intr:FuncId→List PV→Option PV
 opn:FuncId→Bool
 keep:FuncId→Bool
 /-- Are literals of slices immutable from the first? -/
 lit:Bool:=false
 /-- Which slicings of what is being built tell a window of it? -/
 view:Op→Bool:=fun _ => false
 /-- Which of those that are handed slices to change leave them as they were,and see nothing else? -/
 shut:FuncId→Bool:=fun _ => false
 /-- After which calls may what was read for them be changed again,if nothing is answered that refers to it? -/
 thaw:FuncId→Bool:=fun _ => false
 /-- Which literals take slices that are still being built as they are? -/
 hold:TypeId→List (Nat × Operand)→Bool:=fun _ _ => false
def FV.ofVal:Value→Option FV
 | .bool b => some (.bool b)
 | .int k n => some (.int k n)
 | .string s => some (.str s)
 | .pointer none => some .nilp
 | .nilFunc => some .nilf
 | _ => none
def PV.ofCell:Value→Option PV
 | .slice none 0 0 => some .nils
 | x => (FV.ofVal x).map .v
def Z8P:List Value→Option (List PV)
 | [] => some []
 | x :: xs => (PV.ofCell x).bind fun y => (Z8P xs).bind fun ys => some (y :: ys)
def PV.ofVal:Value→Option PV
 | .agg cs => (Z8P cs.toList).map .agg
 | .tuple vs => if vs.size = 0 then some .undef else none
 | x => PV.ofCell x
def PV.cells:PV→Option (List PV)
 | .agg cs => some cs
 | .tup _ => none
 | .undef => none
 | x => some [x]
def vs (xs:List FV):List PV:=xs.map .v
def chunk (sz:Nat):Nat→List FV→List (List FV)
 | 0,_ => []
 | n + 1,xs => xs.take sz :: chunk sz n (xs.drop sz)
def Z0I (f:Heap→PV→Option (FV × Heap)):Heap→List PV→Option (List FV × Heap)
 | σ,[] => some ([],σ)
 | σ,x :: xs => (f σ x).bind fun r => (Z0I f r.2 xs).bind fun s => some (r.1 :: s.1,s.2)
def Z02:Nat→Heap→PV→Option (FV × Heap)
 | 0,_,_ => none
 | d + 1,σ,x =>
  match x with
  | .v x => some (x,σ)
  | .nils => some (.sl [],σ)
  | .full xs => some (.sl xs,σ)
  | .buf id len sz =>
   match σ.ent id with
   | .blk elem cells _ =>
    if cells.length = len * sz then
     (Z0I (Z02 d) (σ.put id (.blk elem cells false)) cells).bind fun r => some (.sl (chunk sz len r.1),r.2)
    else none
   | _ => none
  | _ => none
def Z8T:Heap→List PV→Option (List FV × Heap):=Z0I (Z02 6)
def Z1Q (σ:Heap):PV→Option (PV × Heap)
 | .agg cs => (Z8T σ cs).bind fun r => some (.agg (vs r.1),r.2)
 | .fptr cs => some (.fptr cs,σ)
 | .undef => some (.undef,σ)
 | .tup _ => none
 | x => (Z02 6 σ x).bind fun r => some (.v r.1,r.2)
def Z2g:Heap→List PV→Option (List PV × Heap)
 | σ,[] => some ([],σ)
 | σ,x :: xs => (Z1Q σ x).bind fun r => (Z2g r.2 xs).bind fun s => some (r.1 :: s.1,s.2)
def Z1C (σ:Heap):PV→Option (PV × Heap)
 | .tup xs => (Z2g σ xs).bind fun r => some (.tup r.1,r.2)
 | x => Z1Q σ x
def Z4S (σ:Heap):PV→Option (PV × Heap)
 | .ptr id ver off => some (.ptr id ver off,σ)
 | .clo f a c => some (.clo f a c,σ)
 | .yld id => some (.yld id,σ)
 | x => Z1Q σ x
def Z13:Heap→List PV→Option (List PV × Heap)
 | σ,[] => some ([],σ)
 | σ,x :: xs => (Z4S σ x).bind fun r => (Z13 r.2 xs).bind fun s => some (r.1 :: s.1,s.2)
def PV.isV:PV→Bool
 | .v _ => true
 | _ => false
def FV.Z8E:FV→Bool
 | .sl (_ :: _) => false
 | _ => true
def PV.noRef1:PV→Bool
 | .v x => x.Z8E
 | _ => false
def PV.noRef2:PV→Bool
 | .v x => x.Z8E
 | .agg cs => cs.all PV.noRef1
 | _ => false
def PV.Z8E:PV→Bool
 | .tup xs => xs.all PV.noRef2
 | x => x.noRef2
def PV.pure:PV→Bool
 | .v _ | .fptr _ => true
 | .agg cs => cs.all PV.isV
 | _ => false
def PV.isN:PV→Bool
 | .v _ | .nils | .full _ => true
 | _ => false
def PV.calm:PV→Bool
 | .v _ | .fptr _ | .nils | .full _ => true
 | .agg cs => cs.all PV.isN
 | _ => false
def tsize (P:Program) (t:TypeId):Option Nat:=(P.info? t).map (·.size)
def tbytes (P:Program) (t:TypeId):Option Nat:=(P.info? t).map (·.bytes)
def tzero (P:Program) (t:TypeId):Option (List PV):=((P.info? t).bind (·.zero)).bind fun z => Z8P z.cells.toList
def tagg (P:Program) (t:TypeId):Option Bool:=(P.underlying t).map fun | .struct _ | .array _ _ => true | _ => false
def tslice (P:Program) (t:TypeId):Option TypeId:=match P.underlying t with | some (.slice e) => some e | _ => none
def tarray (P:Program) (t:TypeId):Option (Nat × TypeId):=match P.underlying t with | some (.array n e) => some (n,e) | _ => none
def tfield (P:Program) (t:TypeId) (f:Nat):Option (Nat × TypeId):=match P.underlying t with | some (.struct fs) => (fs[f]?).map fun x => (x.offset,x.type) | _ => none
def tplaces (P:Program) (t:TypeId):Option (List (Nat × Nat)) :=
 match P.underlying t with
 | some (.struct fs) => fs.toList.mapM fun f => (P.info? f.type).map fun i => (f.offset,i.size)
 | _ => none
def tint (P:Program) (t:TypeId):Option IntKind:=match P.underlying t with | some (.int k) => some k | _ => none
def tstr (P:Program) (t:TypeId):Bool:=match P.underlying t with | some .string => true | _ => false
def partD (P:Program) (t:TypeId) (cs:List PV) (off:Nat):Option PV :=
 match tagg P t,tsize P t with
 | some true,some n => if off + n≤cs.length then some (.agg ((cs.drop off).take n)) else none
 | some false,_ => cs[off]?
 | _,_ => none
def tfields (P:Program) (t:TypeId):Option (List (String × Nat × TypeId)) :=
 match P.underlying t with
 | some (.struct fs) => if P.stoodInHeld t then none else some (fs.toList.map fun f => (f.name,f.offset,f.type))
 | _ => none
def Z4A (P:Program) (σ:Heap) (t:TypeId):PV→Option PV
 | .ptr id ver off =>
  match σ.ent id with
  | .blk _ cells _ =>
   if cells.length = ver then
    match tagg P t,tsize P t with
    | some true,some n => if off + n≤cells.length then some (.agg ((cells.drop off).take n)) else none
    | some false,_ => cells[off]?
    | _,_ => none
   else none
  | _ => none
 | .fptr cells =>
  match tagg P t,tsize P t with
  | some true,some n => if n≤cells.length then some (.agg (vs (cells.take n))) else none
  | some false,_ => (cells[0]?).map .v
  | _,_ => none
 | _ => none
def splice (xs:List PV) (off:Nat) (ys:List PV):List PV:=xs.take off ++ ys ++ xs.drop (off + ys.length)
def Z5i (P:Program) (σ:Heap) (t:TypeId) (x:PV):PV→Option Heap
 | .ptr id ver off =>
  match σ.ent id with
  | .blk elem cells true =>
   if cells.length = ver then
    match tsize P t,x.cells with
    | some n,some ys => if ys.length = n∧off + n≤cells.length then some (σ.put id (.blk elem (splice cells off ys) true)) else none
    | _,_ => none
   else none
  | _ => none
 | _ => none
def newD (σ:Heap) (id:Nat) (t:TypeId) (cells:List PV):PV × Heap:=(.ptr id cells.length 0,σ.put id (.blk t cells true))
def Z7b (place:Nat→Option (Nat × Nat)):List PV→List (Nat × PV)→Option (List PV)
 | cells,[] => some cells
 | cells,(i,x) :: rest =>
  match place i,x.cells with
  | some (off,n),some ys => if ys.length = n∧off + n≤cells.length then Z7b place (splice cells off ys) rest else none
  | _,_ => none
def Z8L (op:BinOp) (k:IntKind) (x y:Int):Option FV :=
 match op with
 | .add => some (.int k (k.wrap (x + y)))
 | .sub => some (.int k (k.wrap (x - y)))
 | .mul => some (.int k (k.wrap (x * y)))
 | .quo => if y = 0 then none else some (.int k (k.wrap (x.tdiv y)))
 | .rem => if y = 0 then none else some (.int k (x.tmod y))
 | .and => some (.int k (k.wrap (BitVec.ofInt k.bits x &&& BitVec.ofInt k.bits y).toNat))
 | .or => some (.int k (k.wrap (BitVec.ofInt k.bits x ||| BitVec.ofInt k.bits y).toNat))
 | .xor => some (.int k (k.wrap (BitVec.ofInt k.bits x ^^^ BitVec.ofInt k.bits y).toNat))
 | .andNot => some (.int k (k.wrap (BitVec.ofInt k.bits x &&& ~~~ BitVec.ofInt k.bits y).toNat))
 | .eql => some (.bool (x == y))
 | .neq => some (.bool (x != y))
 | .lss => some (.bool (decide (x < y)))
 | .leq => some (.bool (decide (x≤y)))
 | .gtr => some (.bool (decide (x > y)))
 | .geq => some (.bool (decide (x ≥ y)))
 | _ => none
def eqFields (P:Program) (eq:TypeId→PV→PV→Option Bool) (xs ys:List PV):List (String × Nat × TypeId)→Option Bool
 | [] => some true
 | (name,off,ft) :: fs =>
  if name = "_" then none else
  match partD P ft xs off,partD P ft ys off with
  | some a,some b => (eq ft a b).bind fun r => (eqFields P eq xs ys fs).bind fun s => some (r && s)
  | _,_ => none
def eqD (P:Program):Nat→TypeId→PV→PV→Option Bool
 | 0,_,_,_ => none
 | d + 1,t,x,y =>
  match x,y with
  | .v (.bool a),.v (.bool b) => match P.underlying t with | some .bool => some (a == b) | _ => none
  | .v (.int k a),.v (.int k' b) => match P.underlying t with | some (.int _) => if k = k' then some (a == b) else none | _ => none
  | .v (.str a),.v (.str b) => match P.underlying t with | some .string => some (a == b) | _ => none
  | .agg xs,.agg ys => (tfields P t).bind fun fs => eqFields P (eqD P d) xs ys fs
  | _,_ => none
def Heap.cur (σ:Heap) (id n:Nat):Bool :=
 match σ.ent id with
 | .blk _ cells _ => cells.length == n
 | _ => false
def Z90 (σ:Heap):PV→Option Bool
 | .nils => some true
 | .v (.sl (_ :: _)) => some false
 | .buf id len sz => if σ.cur id (len * sz) then some false else none
 | _ => none
def Z6i (P:Program) (t:TypeId):PV→Bool
 | .agg _ => !P.eqGuardType P.depth t
 | _ => true
def binD (P:Program) (σ:Heap) (op:BinOp) (t:TypeId) (x y:PV):Option FV :=
 match x,y with
 | .v (.int k a),.v (.int k' b) =>
  match op with
  | .shl => if b < 0 then none else some (.int k (k.wrap (a * 2 ^ min b.toNat k.bits)))
  | .shr => if b < 0 then none else some (.int k (a.fdiv (2 ^ min b.toNat k.bits)))
  | _ => if k = k' then Z8L op k a b else none
 | .v (.str a),.v (.str b) =>
  match op with
  | .eql => some (.bool (a.toList == b.toList))
  | .neq => some (.bool (!(a.toList == b.toList)))
  | _ => none
 | x,.nils =>
  match tslice P t,op with
  | some _,.eql => (Z90 σ x).map .bool
  | some _,.neq => (Z90 σ x).map fun b => .bool (!b)
  | _,_ => none
 | x,y =>
  if Z6i P t x then
   match op with
   | .eql => (eqD P 6 t x y).map .bool
   | .neq => (eqD P 6 t x y).map fun b => .bool (!b)
   | _ => none
  else none
def unD (op:UnOp) (x:PV):Option FV :=
 match op,x with
 | .neg,.v (.int k a) => some (.int k (k.wrap (0 - a)))
 | .not,.v (.bool b) => some (.bool (!b))
 | _,_ => none
def convD (P:Program) (src dst:TypeId) (x:PV):Option FV :=
 match x with
 | .v (.int _ a) => match P.underlying src,tint P dst with
  | some _,some k => some (.int k (k.wrap a))
  | _,_ => none
 | _ => none
def Z49:PV→Option Nat
 | .v (.int _ n) => if 0≤n then some n.toNat else none
 | _ => none
def lenD (P:Program) (σ:Heap) (t:TypeId) (x:PV):Option FV :=
 match tslice P t with
 | some _ =>
  match x with
  | .v (.sl xs) => some (.int .i64 xs.length)
  | .full xs => some (.int .i64 xs.length)
  | .nils => some (.int .i64 0)
  | .buf id n sz => if σ.cur id (n * sz) then some (.int .i64 n) else none
  | _ => none
 | none =>
  match x with
  | .v (.str s) => if tstr P t then some (.int .i64 s.size) else none
  | _ => none
def Z1A (P:Program) (σ:Heap) (t:TypeId) (x i:PV):Option PV :=
 match Z49 i with
 | none => none
 | some i =>
  match x with
  | .v (.sl xs) => match (tslice P t).bind (tsize P),xs[i]? with | some sz,some y => if y.length = sz then some (.fptr y) else none | _,_ => none
  | .buf id len sz =>
   match tslice P t with
   | some e => if σ.cur id (len * sz) && tsize P e == some sz && decide (i < len) then some (.ptr id (len * sz) (i * sz)) else none
   | none => none
  | .ptr id ver off =>
   match tarray P t with
   | some (n,e) => if σ.cur id ver && decide (i < n) then (tsize P e).map fun s => .ptr id ver (off + i * s) else none
   | none => none
  | _ => none
def indexD (P:Program) (t:TypeId) (x i:PV):Option PV :=
 match Z49 i with
 | none => none
 | some i =>
  match x with
  | .agg cs => match tarray P t with
   | some (n,e) => if i < n then (tsize P e).bind fun s => partD P e cs (i * s) else none
   | none => none
  | .v (.str s) => if tstr P t then (s[i]?).map fun b => .v (.int .u8 b.toNat) else none
  | _ => none
def Z1P (P:Program) (σ:Heap) (t:TypeId) (x:PV) (f:Nat):Option PV :=
 match tfield P t f with
 | none => none
 | some (off,ft) =>
  match tsize P ft with
  | none | some 0 => none
  | some _ =>
   match x with
   | .ptr id ver o => if σ.cur id ver then some (.ptr id ver (o + off)) else none
   | .fptr cells => some (.fptr (cells.drop off))
   | _ => none
def fieldD (P:Program) (t:TypeId) (x:PV) (f:Nat):Option PV :=
 match tfield P t f,x with
 | some (off,ft),.agg cs => partD P ft cs off
 | _,_ => none
def Z6F (xs:List (List FV)) (l sz:Nat):Bool:=match xs[l]? with | some y => y.length == sz | none => true
def Z8G (P:Program) (t:TypeId) (x:PV) (lo hi mx:Option PV):Option PV :=
 let l?:=match lo with | none => some 0 | some v => Z49 v
 match x with
 | .v (.sl xs) =>
  match (tslice P t).bind (tsize P) with
  | none => none
  | some sz =>
   let h?:=match hi with | none => some xs.length | some v => Z49 v
   match l?,h? with
   | some l,some h =>
    if l≤h∧h≤xs.length∧Z6F xs l sz = true then
     match mx with
     | none => some (.v (.sl ((xs.take h).drop l)))
     | some m => if Z49 m = some h∧hi.isSome = true then some (.full ((xs.take h).drop l)) else none
    else none
   | _,_ => none
 | _ => none
def viewD (P:Program) (t:TypeId) (id len sz:Nat) (lo hi mx:Option PV):Option PV :=
 match mx with
 | some _ => none
 | none =>
  match (tslice P t).bind (tsize P),(match lo with | none => some 0 | some v => Z49 v),(match hi with | none => some len | some v => Z49 v) with
  | some s,some l,some h => if s = sz∧l < h∧h≤len then some (.view id len l (h - l) sz) else none
  | _,_,_ => none
def Z4E (σ:Heap) (sz:Nat):PV→Option (List PV × Nat)
 | .v (.sl ys) => if ys.all (fun y => y.length == sz) then some (vs ys.flatten,ys.length) else none
 | .full ys => if ys.all (fun y => y.length == sz) then some (vs ys.flatten,ys.length) else none
 | .nils => some ([],0)
 | .buf id len s =>
  match σ.ent id with
  | .blk _ cells _ => if s = sz∧cells.length = len * s then some (cells,len) else none
  | _ => none
 | .view id tot l n s =>
  match σ.ent id with
  | .blk _ cells _ => if s = sz∧cells.length = tot * s∧l + n≤tot then some ((cells.drop (l * s)).take (n * s),n) else none
  | _ => none
 | _ => none
def room:Nat:=140737488355328
def Z2E (P:Program) (σ:Heap) (id0:Nat) (t:TypeId) (x y:PV):Option (PV × Heap) :=
 match tslice P t with
 | none => none
 | some e =>
  match tsize P e,tbytes P e with
  | some sz,some by_ =>
   match Z4E σ sz y with
   | none => none
   | some (ys,n) =>
    if (sz = 0∨by_ = 0∨(tzero P e).map List.length ≠ some sz) then none else
    match x with
    | .nils =>
     if n = 0 then some (.nils,σ)
     else if n * by_≤room then some (.buf id0 n sz,σ.put id0 (.blk e ys true)) else none
    | .full xs =>
     if n = 0 then none
     else if (xs.length + n) * by_≤room∧xs.all (fun y => y.length == sz) then some (.buf id0 (xs.length + n) sz,σ.put id0 (.blk e (vs xs.flatten ++ ys) true)) else none
    | .buf id len s =>
     match σ.ent id with
     | .blk e' cells true =>
      if s = sz∧e' = e∧cells.length = len * sz∧(len + n) * by_≤room then some (.buf id (len + n) sz,σ.put id (.blk e (cells ++ ys) true)) else none
     | _ => none
    | _ => none
  | _,_ => none
def Z99 (P:Program) (σ:Heap) (t:TypeId) (x y:PV):Option (PV × Heap) :=
 match tslice P t with
 | none => none
 | some e =>
  match tsize P e with
  | none => none
  | some sz =>
   match Z4E σ sz y,x with
   | some (ys,n),.buf id len s =>
    match σ.ent id with
    | .blk e' cells true =>
     if s = sz∧e' = e∧cells.length = len * sz then
      some (.v (.int .i64 (min n len:Nat)),σ.put id (.blk e (splice cells 0 (ys.take (min n len * sz))) true))
     else none
    | _ => none
   | some (ys,n),.view id tot l m s =>
    match σ.ent id with
    | .blk e' cells true =>
     if s = sz∧e' = e∧cells.length = tot * sz∧l + m≤tot then
      some (.v (.int .i64 (min n m:Nat)),σ.put id (.blk e (splice cells (l * sz) (ys.take (min n m * sz))) true))
     else none
    | _ => none
   | _,_ => none
def makeD (P:Program) (σ:Heap) (id0:Nat) (t:TypeId) (len cap:PV):Option (PV × Heap) :=
 match tslice P t,len,cap with
 | some e,.v (.int .i64 l),.v (.int .i64 c) =>
  match tsize P e,tbytes P e,tzero P e with
  | some sz,some by_,some z =>
   if l = c∧0≤l∧l.toNat * by_≤room∧z.length = sz∧sz ≠ 0∧by_ ≠ 0 then some (.buf id0 l.toNat sz,σ.put id0 (.blk e (List.replicate l.toNat z).flatten true)) else none
  | _,_,_ => none
 | _,_,_ => none
def tmap (P:Program) (t:TypeId):Bool :=
 match P.underlying t with
 | some (.map k e) => (match P.underlying k,(P.info? e).bind (·.zero) with
  | some (.int .i64),some (.int .i64 0) => true
  | _,_ => false)
 | _ => false
def mfind (a:Int):List (Int × Int)→Nat→Option (Nat × Int)
 | [],_ => none
 | p :: l,i => if a == p.1 then some (i,p.2) else mfind a l (i + 1)
def mget (kv:List (Int × Int)) (a:Int):Int:=match mfind a kv 0 with | some p => p.2 | none => 0
def mgetD (P:Program) (σ:Heap) (t:TypeId):PV→PV→Option PV
 | .mp id,.v (.int .i64 a) => if tmap P t then (match σ.ent id with | .map kv => some (.v (.int .i64 (mget kv a))) | _ => none) else none
 | _,_ => none
def ZA7 (P:Program) (σ:Heap) (t:TypeId):PV→PV→Option (PV × Heap)
 | .mp id,.v (.int .i64 a) => if tmap P t then (match σ.ent id with
  | .map kv => (match mfind a kv 0 with
   | some p => some (.tup [.v (.int .i64 p.2),.v (.int .i64 p.1)],σ.put id (.map kv))
   | none => some (.tup [.v (.int .i64 0),.v (.int .i64 kv.length)],σ.put id (.map (kv ++ [(a,0)]))))
  | _ => none) else none
 | _,_ => none
def mset (kv:List (Int × Int)) (i:Nat) (b:Int):List (Int × Int):=kv.set i ((kv.getD i (0,0)).1,b)
def ZA4 (σ:Heap):PV→PV→PV→Option Heap
 | .mp id,.v (.int .i64 i),.v (.int .i64 b) => (match σ.ent id with
  | .map kv => if 0≤i∧i.toNat < kv.length then some (σ.put id (.map (mset kv i.toNat b))) else none
  | _ => none)
 | _,_,_ => none
def mput (kv:List (Int × Int)) (a b:Int):List (Int × Int):=match mfind a kv 0 with | some p => mset kv p.1 b | none => kv ++ [(a,b)]
def mupdD (P:Program) (σ:Heap) (t:TypeId):PV→PV→PV→Option Heap
 | .mp id,.v (.int .i64 a),.v (.int .i64 b) => if tmap P t then (match σ.ent id with | .map kv => some (σ.put id (.map (mput kv a b))) | _ => none) else none
 | _,_,_ => none
def Z40 (f:Int→Int→Int) (k:IntKind):Int→List PV→Option Int
 | a,[] => some a
 | a,.v (.int k' b) :: xs => if k = k' then Z40 f k (f a b) xs else none
 | _,_ => none
inductive Callee where
 | fn (f:FuncId)
 | yld (id:Nat)
abbrev Z05:=Callee→List PV→Heap→Option (PV × Heap)
def Z0X (P:Program) (σ:Heap) (id0:Nat) (b:Builtin) (ts:List TypeId) (args:List PV):Option (PV × Heap) :=
 match b,ts,args with
 | .len,[t],[x] => (lenD P σ t x).map fun r => (.v r,σ)
 | .append,[t,t'],[x,y] => if t = t' then Z2E P σ id0 t x y else none
 | .copy,[t,_],[x,y] => Z99 P σ t x y
 | .min,_,.v (.int k a) :: xs => (Z40 (fun x y => if y < x then y else x) k a xs).map fun r => (.v (.int k r),σ)
 | .max,_,.v (.int k a) :: xs => (Z40 (fun x y => if y > x then y else x) k a xs).map fun r => (.v (.int k r),σ)
 | _,_,_ => none
section
variable (X:Ctx)
def Z0 (e:Env):Operand→Option PV
 | .tmp t => some (e t)
 | .const c => PV.ofVal c
 | .global g => (X.glob g).map .fptr
 | .func f => some (.v (.fn f))
def ZY (e:Env):List Operand→Option (List PV)
 | [] => some []
 | x :: xs => (Z0 X e x).bind fun y => (ZY e xs).bind fun ys => some (y :: ys)
def Z3v (e:Env):List (Nat × Operand)→Option (List (Nat × PV))
 | [] => some []
 | (i,x) :: xs => (Z0 X e x).bind fun y => (Z3v e xs).bind fun ys => some ((i,y) :: ys)
def optD (e:Env):Option Operand→Option (Option PV)
 | none => some none
 | some x => (Z0 X e x).map some
def ZAh (e:Env) (t:TypeId) (parts:List (Nat × Operand)):Option PV :=
 match tzero X.P t,Z3v X e parts with
 | some z,some ps =>
  match tplaces X.P t with
  | some pl => (Z7b (pl[·]?) z ps).map .agg
  | none =>
   match tarray X.P t with
   | some (_,el) => (tsize X.P el).bind fun n => (Z7b (fun i => some (i * n,n)) z ps).map .agg
   | none => none
 | _,_ => none
def fvsOf:List PV→Option (List FV)
 | [] => some []
 | .v x :: xs => (fvsOf xs).map (x :: ·)
 | _ :: _ => none
def litR (lit:Bool) (len sz id0:Nat) (el:TypeId) (cs:List PV):PV × Ent :=
 match lit && len != 0,fvsOf cs with
 | true,some fs => (.v (.sl (chunk sz len fs)),.blk el cs false)
 | _,_ => (.buf id0 len sz,.blk el cs true)
def isBuf:PV→Bool
 | .buf _ _ _ => true
 | _ => false
def isRef:PV→Bool
 | .buf _ _ _ | .nils | .full _ => true
 | _ => false
def bufId:PV→List Nat
 | .buf id _ _ => [id]
 | _ => []
def Z6X:PV→List Nat
 | .agg cs => cs.flatMap bufId
 | x => bufId x
def Z6f:PV→Bool
 | .buf _ _ _ | .nils | .full _ => true
 | .agg cs => cs.any isRef
 | _ => false
def Z4K (σ:Heap):PV→Option (PV × Heap)
 | .v x => some (.v x,σ)
 | .nils => some (.v (.sl []),σ)
 | .full xs => some (.v (.sl xs),σ)
 | .buf id len sz =>
  match σ.ent id with
  | .blk el cells _ => if cells.length = len * sz then (fvsOf cells).map fun fs => (.v (.sl (chunk sz len fs)),σ.put id (.blk el cells false)) else none
  | _ => none
 | _ => none
def Z3H:Heap→List PV→Option (List PV × Heap)
 | σ,[] => some ([],σ)
 | σ,x :: xs => (Z4K σ x).bind fun r => (Z3H r.2 xs).bind fun q => some (r.1 :: q.1,q.2)
def Z3E (σ:Heap):PV→Option (PV × Heap)
 | .agg cs => (Z3H σ cs).bind fun r => some (.agg r.1,r.2)
 | x => Z4K σ x
def Z0f:Heap→List (Nat × PV)→Option (List (Nat × PV) × Heap)
 | σ,[] => some ([],σ)
 | σ,p :: ps =>
  if Z6f p.2 then (Z3E σ p.2).bind fun r => (Z0f r.2 ps).bind fun q => some ((p.1,r.1) :: q.1,q.2)
  else (Z0f σ ps).bind fun q => some (p :: q.1,q.2)
def Z95 (hold:Bool) (σ:Heap) (ps:List (Nat × PV)):Option (List (Nat × PV) × Heap) :=
 match hold with
 | true => some (ps,σ)
 | false => Z0f σ ps
def Z2W (σ:Heap) (id0:Nat) (t:TypeId) (len:Nat) (ps:List (Nat × PV)):Option (PV × Heap) :=
 match tslice X.P t with
 | some el =>
  match tsize X.P el,tzero X.P el with
  | some sz,some z =>
   if z.length = sz∧sz ≠ 0∧len * sz≤1000000 then
    (Z7b (fun i => some (i * sz,sz)) (List.replicate len z).flatten ps).map fun cs => ((litR X.lit len sz id0 el cs).1,σ.put id0 (litR X.lit len sz id0 el cs).2)
   else none
  | _,_ => none
 | none => none
def Z1e (e:Env) (σ:Heap) (id0:Nat) (t:TypeId) (len:Nat) (parts:List (Nat × Operand)):Option (PV × Heap) :=
 (Z3v X e parts).bind fun ps => (Z95 (X.hold t parts) σ ps).bind fun r => Z2W X r.2 id0 t len r.1
def Zx (call:Z05) (e:Env) (σ:Heap) (id0:Nat) (c:Call):Option (PV × Heap) :=
 match ZY X e c.args.toList with
 | none => none
 | some args =>
  match c.callee with
  | .builtin b => Z0X X.P σ id0 b c.argTypes.toList args
  | .invoke _ _ => none
  | .value f =>
   match Z0 X e f with
   | some (.v (.fn f)) => call (.fn f) args σ
   | some (.clo f first caps) => call (.fn f) (first ++ args ++ caps) σ
   | some (.yld id) => call (.yld id) args σ
   | _ => none
def Z5 (call:Z05) (e:Env) (σ:Heap) (id0:Nat):Op→Option (PV × Heap)
 | .move x | .assign x => (Z0 X e x).map (·,σ)
 | .pick c a b =>
  match Z0 X e c with
  | some (.v (.bool true)) => (Z0 X e a).map (·,σ)
  | some (.v (.bool false)) => (Z0 X e b).map (·,σ)
  | _ => none
 | .alloc t => (tzero X.P t).map fun z => newD σ id0 t z
 | .box t x => ((Z0 X e x).bind PV.cells).map fun cs => newD σ id0 t cs
 | .build t parts => (ZAh X e t parts.toList).map (·,σ)
 | .buildSlice t len parts => Z1e X e σ id0 t len parts.toList
 | .load t a => ((Z0 X e a).bind fun a => Z4A X.P σ t a).map (·,σ)
 | .store t a x => match Z0 X e a,Z0 X e x with
  | some a,some x => (Z5i X.P σ t x a).map fun σ' => (.undef,σ')
  | _,_ => none
 | .nilCheck x =>
  match Z0 X e x with
  | some (.ptr id ver off) => if σ.cur id ver then some (.ptr id ver off,σ) else none
  | some (.fptr cs) => some (.fptr cs,σ)
  | some (.clo f a c) => some (.clo f a c,σ)
  | some (.v (.fn f)) => some (.v (.fn f),σ)
  | some (.yld id) => some (.yld id,σ)
  | _ => none
 | .binOp op t x y _ => match Z0 X e x,Z0 X e y with
  | some x,some y => (binD X.P σ op t x y).map fun r => (.v r,σ)
  | _,_ => none
 | .unOp op _ x => ((Z0 X e x).bind fun x => unD op x).map fun r => (.v r,σ)
 | .convert src dst x => ((Z0 X e x).bind fun x => convD X.P src dst x).map fun r => (.v r,σ)
 | .makeFunc (.func f) first caps =>
  match ZY X e first.toList,ZY X e caps.toList with
  | some [],some [] => some (.v (.fn f),σ)
  | some a,some c => some (.clo f a c,σ)
  | _,_ => none
 | .makeSlice t l c => match Z0 X e l,Z0 X e c with
  | some l,some c => makeD X.P σ id0 t l c
  | _,_ => none
 | .slice t x lo' hi' mx' =>
  match Z0 X e x,optD X e lo',optD X e hi',optD X e mx' with
  | some (.buf id len sz),some lo,some hi,some mx =>
   if X.view (.slice t x lo' hi' mx') then (viewD X.P t id len sz lo hi mx).map (·,σ)
   else (Z02 6 σ (.buf id len sz)).bind fun r => (Z8G X.P t (.v r.1) lo hi mx).map (·,r.2)
  | some x,some lo,some hi,some mx => (Z8G X.P t x lo hi mx).map (·,σ)
  | _,_,_,_ => none
 | .fieldAddr t x f => ((Z0 X e x).bind fun x => Z1P X.P σ t x f).map (·,σ)
 | .field t x f => ((Z0 X e x).bind fun x => fieldD X.P t x f).map (·,σ)
 | .indexAddr t x i => match Z0 X e x,Z0 X e i with
  | some x,some i => (Z1A X.P σ t x i).map (·,σ)
  | _,_ => none
 | .index t x i => match Z0 X e x,Z0 X e i with
  | some x,some i => (indexD X.P t x i).map (·,σ)
  | _,_ => none
 | .extract x i => match Z0 X e x with
  | some (.tup vs) => (vs[i]?).map (·,σ)
  | _ => none
 | .call c => Zx X call e σ id0 c
 | .makeMap t none => if tmap X.P t then some (.mp id0,σ.put id0 (.map [])) else none
 | .lookup t x k false => match Z0 X e x,Z0 X e k with
  | some x,some k => (mgetD X.P σ t x k).map (·,σ)
  | _,_ => none
 | .mapEntry t x k => match Z0 X e x,Z0 X e k with
  | some x,some k => ZA7 X.P σ t x k
  | _,_ => none
 | .entryStore t x i v => match Z0 X e x,Z0 X e i,Z0 X e v with
  | some x,some i,some v => (ZA4 σ x i v).map (.undef,·)
  | _,_,_ => none
 | .mapUpdate t x k v => match Z0 X e x,Z0 X e k,Z0 X e v with
  | some x,some k,some v => (mupdD X.P σ t x k v).map (.undef,·)
  | _,_,_ => none
 | _ => none
end
def putD (n:Nat) (e:Env) (dst:Option Tmp) (x:PV):Env :=
 match dst with
 | none => e
 | some d => if d < n then upd e d x else e
def Zz (ops:Array Oper) (e:Env) (o:Oper):Option Bool :=
 match o.guard with
 | none => some true
 | some (j,want) =>
  match (ops[j]?).bind (·.dst) with
  | none => some false
  | some d =>
   match e d with
   | .v (.bool b) => some (b == want)
   | .undef => some false
   | _ => none
def Z0s (X:Ctx) (call:Z05) (n:Nat) (ops:Array Oper) (base i:Nat) (o:Oper) (e:Env) (σ:Heap):Option (Env × Heap) :=
 match Zz ops e o with
 | some true => (Z5 X call e σ (base + i) o.op).bind fun r => some (putD n e o.dst r.1,r.2)
 | some false => some (putD n e o.dst .undef,σ)
 | none => none
def Z2Q (X:Ctx) (call:Z05) (n:Nat) (ops:Array Oper) (base:Nat):Nat→List Oper→Env→Heap→Option (Env × Heap)
 | _,[],e,σ => some (e,σ)
 | i,o :: os,e,σ => (Z0s X call n ops base i o e σ).bind fun r => Z2Q X call n ops base (i + 1) os r.1 r.2
def vids:PV→List Nat
 | .ptr id _ _ => [id]
 | .buf id _ _ => [id]
 | .view id _ _ _ _ => [id]
 | _ => []
def Z6R (σ:Heap) (args:List PV):Bool:=args.all fun x => match x with
 | .buf id _ _ => (match σ.ent id with | .blk _ cells true => cells.all PV.isV | _ => false)
 | .nils => true
 | x => x.pure
inductive OpK where
 | pure | read | write | call | bad
 deriving DecidableEq
def Zs:Op→OpK
 | .move _ | .assign _ | .pick .. | .alloc _ | .box .. | .build .. | .buildSlice .. | .unOp .. | .convert .. | .field .. | .index .. | .extract .. | .makeSlice .. | .slice .. => .pure
 | .makeFunc (.func _) _ _ => .pure
 | .binOp op _ _ _ _ => match op with | .eql | .neq => .read | _ => .pure
 | .load .. | .nilCheck _ | .indexAddr .. | .fieldAddr .. => .read
 | .store .. => .write
 | .call c => match c.callee with
  | .builtin .len => .read
  | .builtin .append | .builtin .copy => .write
  | .builtin .min | .builtin .max => .pure
  | .value _ => .call
  | _ => .bad
 | _ => .bad
def Zf:Op→List Operand
 | .load _ a => [a]
 | .nilCheck a => [a]
 | .indexAddr _ a _ => [a]
 | .fieldAddr _ a _ => [a]
 | .binOp _ _ x y _ => [x,y]
 | .store _ a _ => [a]
 | .call c => match c.callee with
  | .builtin _ => c.args.toList
  | _ => []
 | _ => []
def touched (X:Ctx) (e:Env) (op:Op):List Nat :=
 (Zf op).flatMap fun x => match Z0 X e x with | some v => vids v | none => []
def isRW (op:Op):Bool:=match Zs op with | .read | .write => true | _ => false
def isW (op:Op):Bool:=match Zs op with | .write => true | _ => false
def unord (bef:Array Nat) (i j:Nat):Bool:=i != j && !((bef.getD (max i j) 0).testBit (min i j))
def Z5N (bef:Array Nat) (ops:Array Oper) (j:Nat):Bool :=
 (List.range ops.size).any fun i => unord bef i j && (match ops[i]? with | some o => isW o.op | none => false)
def ZAi (bef:Array Nat) (ops:Array Oper) (i:Nat):Bool :=
 (List.range ops.size).any fun j => unord bef i j && (match ops[j]? with | some o => isRW o.op | none => false)
def stableOp (ops:Array Oper) (op:Op):Bool:=(Zf op).all fun x => match x with | .tmp t => !(ops.any fun o => o.dst == some t) | _ => true
def rootT (ops:Array Oper) (t:Nat):Option Nat :=
 match ops.toList.find? (fun o => o.dst == some t) with
 | none => some t
 | some o => match o.op with
  | .fieldAddr _ (.tmp u) _ | .nilCheck (.tmp u) | .indexAddr _ (.tmp u) _ | .move (.tmp u) => if ops.toList.any (fun o => o.dst == some u) then none else some u
  | _ => none
def ZB7 (ops:Array Oper) (op:Op):Bool:=(Zf op).all fun x => match x with | .tmp t => (rootT ops t).isSome | _ => true
def Z2x (X:Ctx) (ops:Array Oper) (e:Env) (op:Op):List Nat:=(Zf op).flatMap fun x => match x with
 | .tmp t => (match rootT ops t with | some u => vids (e u) | none => [])
 | x => (match Z0 X e x with | some v => vids v | none => [])
def Z2w (X:Ctx) (e:Env) (bef:Array Nat) (ops:Array Oper) (i k:Nat):Bool :=
 (List.range ops.size).any fun j => unord bef i j && (match ops[j]? with | some o => isRW o.op && !(ZB7 ops o.op && !(Z2x X ops e o.op).contains k) | none => false)
def Z6e (bef:Array Nat) (ops:Array Oper) (i:Nat):Bool:=!Z5N bef ops i || (match ops[i]? with | some o => stableOp ops o.op || !ZB7 ops o.op | none => true)
def Z4Y (ops:Array Oper):Bool :=
 let bef:=Region.before ops
 Region.lexB .any ops && ops.all (fun o => Zs o.op != .bad) &&
 (List.range ops.size).all fun i => match ops[i]? with
  | some o => (if isW o.op then !Z5N bef ops i else true) && o.after.all fun e => !Region.binds .any e || decide (e.on < i)
  | none => true
def Z6G (X:Ctx) (e:Env) (args:List PV):Go.Callee→Bool
 | .value f => match Z0 X e f with
  | some (.v (.fn f)) => args.all PV.calm && !X.opn f && !X.keep f
  | some (.clo f first caps) => first.all PV.calm && args.all PV.calm && caps.all PV.calm && !X.opn f && !X.keep f
  | _ => false
 | _ => false
def Z34 (bef:Array Nat) (ops:Array Oper) (i:Nat):Bool:=(List.range ops.size).all fun j => !unord bef i j
def frozen (X:Ctx) (e:Env):Op→List Nat
 | .buildSlice t _ parts => match X.hold t parts.toList,Z3v X e parts.toList with
  | false,some ps => ps.flatMap fun p => Z6X p.2
  | _,_ => []
 | _ => []
def Zj (X:Ctx) (ops:Array Oper) (base i:Nat) (o:Oper) (e:Env):Bool :=
 let bef:=Region.before ops
 match Zs o.op with
 | .pure => match o.op with
  | .slice _ x _ _ _ => match Z0 X e x with
   | some (.buf _ _ _) => X.view o.op
   | _ => true
  | _ => (frozen X e o.op).all fun k => decide (base≤k) && decide (k < base + ops.size) && (bef.getD i 0).testBit (k - base) && (List.range ops.size).all fun j => !(unord bef i j && (bef.getD j 0).testBit (k - base))
 | .read => ((touched X e o.op).all fun k => decide (k < base) || (!Z5N bef ops i && (bef.getD i 0).testBit (k - base) && decide (k < base + ops.size))) && (Z6e bef ops i || !ZB7 ops o.op || (touched X e o.op).all fun k => (Z2x X ops e o.op).contains k)
 | .write => (touched X e o.op).all fun k => (decide (k < base) && !Z2w X e bef ops i k) || (decide (base≤k) && (bef.getD i 0).testBit (k - base) && decide (k < base + ops.size))
 | .call => match o.op with
  | .call c => match ZY X e c.args.toList with
   | some args => Z6G X e args c.callee
   | none => false
  | _ => false
 | .bad => false
def Zp (X:Ctx) (ops:Array Oper) (base i:Nat) (o:Oper) (e:Env):Bool:=Z34 (Region.before ops) ops i || Zj X ops base i o e
def quiet:Op→Bool
 | .move _ | .assign _ | .pick .. | .unOp .. | .convert .. | .field .. | .index .. | .extract .. | .load .. | .nilCheck _ | .indexAddr .. | .fieldAddr .. | .binOp .. | .build .. => true
 | .makeFunc (.func _) _ _ => true
 | .call c => match c.callee with
  | .builtin .len | .builtin .min | .builtin .max => true
  | _ => false
 | _ => false
def Z5g (ops:Array Oper) (i:Nat):Bool:=(List.range ops.size).all fun j => !unord (Region.before ops) i j || (match ops[j]? with | some o => quiet o.op | none => true)
def Alike (a b:Ent):Prop:=b = a∨∃ el cells l l',a = .blk el cells l∧b = .blk el cells l'
def mild:Op→Bool
 | .alloc _ => true
 | op => quiet op
def ZAw (ops:Array Oper) (i:Nat):Bool:=(List.range ops.size).all fun j => !unord (Region.before ops) i j || (match ops[j]? with | some o => mild o.op | none => true)
def Z6A (X:Ctx) (ops:Array Oper) (base i:Nat) (e:Env) (op:Op):Bool:=ZAw ops i && match op with
 | .call c => match c.callee with
  | .value f => match Z0 X e f,ZY X e c.args.toList with
   | some (.v (.fn f)),some args => X.shut f && X.keep f && !X.opn f && !args.all PV.pure && (args.flatMap vids).all fun k => decide (k < base)
   | _,_ => false
  | _ => false
 | _ => false
def Z4j (X:Ctx) (call:Z05) (ops:Array Oper) (base i:Nat) (o:Oper) (e:Env) (σ:Heap):Prop :=
 Zs o.op = .call∧(Z6A X ops base i e o.op = true∨(Z5g ops i = true∧∀ id r σ',Z5 X call e σ id o.op = some (r,σ')→∀ k,k < base + ops.size→Alike (σ.ent k) (σ'.ent k)))
noncomputable def Z0c (X:Ctx) (call:Z05) (n:Nat) (ops:Array Oper) (base i:Nat) (o:Oper) (e:Env) (σ:Heap):Option (Env × Heap) :=
 if Zz ops e o = some true∧Zp X ops base i o e = false then @ite _ (Z4j X call ops base i o e σ) (Classical.propDecidable _) (Z0s X call n ops base i o e σ) none else Z0s X call n ops base i o e σ
noncomputable def Z1U (X:Ctx) (call:Z05) (n:Nat) (ops:Array Oper) (base:Nat):Nat→List Oper→Env→Heap→Option (Env × Heap)
 | _,[],e,σ => some (e,σ)
 | i,o :: os,e,σ => (Z0c X call n ops base i o e σ).bind fun r => Z1U X call n ops base (i + 1) os r.1 r.2
inductive Ex where
 | normal
 | exit (id:Nat)
 | ret
 deriving DecidableEq
abbrev Out:=Ex × Env × Heap
def Z1x (step:Env→Heap→Option Out):Nat→Env→Heap→Option Out
 | 0,_,_ => none
 | k + 1,e,σ =>
  match step e σ with
  | some (.normal,e',σ') => Z1x step k e' σ'
  | r => r
def Z6v:Option Code→Option Ex
 | none => some .normal
 | some .ret => some .ret
 | some (.exit id) => some (.exit id)
 | _ => none
noncomputable def ZD (X:Ctx) (call:Z05) (lf n:Nat) (fn:FuncId):Code→Env→Heap→Option Out
 | .skip,e,σ => some (.normal,e,σ)
 | .region _ ops draw,e,σ =>
  let σ0:Heap:=⟨σ.nx + ops.size,σ.ent⟩
  if draw then
   if Z4Y ops then (Z1U X call n ops σ.nx 0 ops.toList e σ0).map fun r => (.normal,r.1,r.2) else none
  else (Z2Q X call n ops σ.nx 0 ops.toList e σ0).map fun r => (.normal,r.1,r.2)
 | .seq a b,e,σ =>
  match ZD X call lf n fn a e σ with
  | some (.normal,e',σ') => ZD X call lf n fn b e' σ'
  | r => r
 | .cond c a b,e,σ =>
  match Z0 X e c with
  | some (.v (.bool true)) => ZD X call lf n fn a e σ
  | some (.v (.bool false)) => ZD X call lf n fn b e σ
  | _ => none
 | .block id c,e,σ =>
  match ZD X call lf n fn c e σ with
  | some (.exit id',e',σ') => if id' = id then some (.normal,e',σ') else some (.exit id',e',σ')
  | r => r
 | .loop c,e,σ => Z1x (ZD X call lf n fn c) lf e σ
 | .exit id,e,σ => some (.exit id,e,σ)
 | .ret,e,σ => some (.ret,e,σ)
 | .label _,e,σ => some (.normal,e,σ)
 | .scope c,e,σ => ZD X call lf n fn c e σ
 | .rangeFunc g ps assign body,e,σ =>
  match Z0 X e g with
  | some g =>
   let id:=σ.nx
   let σ1:Heap:=⟨σ.nx + 1,upd σ.ent id (.loop fn e n ps.toList assign body .ready none)⟩
   let r:=match g with
    | .v (.fn f) => call (.fn f) [PV.yld id] σ1
    | .clo f first caps => call (.fn f) (first ++ [PV.yld id] ++ caps) σ1
    | _ => none
   match r with
   | some (_,σ2) =>
    match σ2.ent id with
    | .loop fn' e' n' ps' as' bo' st pend =>
     if st = LoopState.busy then none else
     match Z6v pend with
     | some x => some (x,e,σ2.put id (.loop fn' e' n' ps' as' bo' .exhausted pend))
     | none => none
    | _ => none
   | none => none
  | none => none
 | _,_,_ => none
def Z0H (P:Program) (e:Env) (σ:Heap):List ResultVar→Option (List PV)
 | [] => some []
 | .tmp t :: rs => (Z0H P e σ rs).map fun xs => e t :: xs
 | .cell a t :: rs => (Z4A P σ t (e a)).bind fun x => (Z0H P e σ rs).map fun xs => x :: xs
def Z1r:List PV→PV
 | [x] => x
 | xs => .tup xs
def Z72 (args:List PV):Env:=fun t => args.getD t .undef
noncomputable def Z1R (X:Ctx) (call:Z05) (lf:Nat) (f:FuncId) (args:List PV) (σ:Heap):Option (PV × Heap) :=
 match X.P.funcs[f]? with
 | none => none
 | some fn =>
  match fn.body with
  | none => none
  | some c =>
   match ZD X call lf (max fn.ntmps args.length) f c (Z72 args) σ with
   | some (.normal,e,σ') | some (.ret,e,σ') => (Z0H X.P e σ' fn.results.toList).map fun xs => (Z1r xs,σ')
   | _ => none
def Z4v (e:Env) (n:Nat):List Nat→List PV→Env
 | p :: ps,x :: xs => Z4v (putD n e (some p) x) n ps xs
 | _,_ => e
noncomputable def Z0b (X:Ctx):Nat→Z05
 | 0,_,_,_ => none
 | k + 1,.fn f,args,σ =>
  match X.intr f args with
  | some r => if args.all PV.pure then some (r,σ) else none
  | none =>
   match (if X.keep f then some (args,σ) else Z13 σ args) with
   | none => none
   | some (args,σ1) =>
    match X.intr f args with
    | some r => if args.all PV.pure then some (r,σ1) else none
    | none =>
    if X.opn f then Z1R X (Z0b X k) k f args σ1
    else if args.all PV.pure then (Z1R X (Z0b X k) k f args Heap.empty).bind fun r => (Z1C r.2 r.1).map fun s => (s.1,if X.thaw f && s.1.Z8E then σ else σ1)
    else if X.keep f && X.shut f then
     if Z6R σ1 args then (Z1R X (Z0b X k) k f args (σ1.only (args.flatMap vids))).bind fun r => (Z1C r.2 r.1).bind fun s => @ite _ (∀ id ∈ args.flatMap vids,s.2.ent id = σ1.ent id) (Classical.propDecidable _) (some (s.1,σ1)) none else none
    else (Z1R X (Z0b X k) k f args σ1).bind fun r => Z1C r.2 r.1
 | k + 1,.yld id,args,σ =>
  match σ.ent id with
  | .loop fn e n ps as_ bo .ready none =>
   if ps.length = args.length then
    match Z13 σ args with
    | none => none
    | some (args,σ) =>
    match ZD X (Z0b X k) k n fn as_ (Z4v e n ps args) σ with
    | some (.normal,e1,σ1) =>
     match σ1.ent id with
     | .loop _ _ _ _ _ _ .ready pend =>
      match ZD X (Z0b X k) k n fn bo e1 (σ1.put id (.loop fn e n ps as_ bo .busy pend)) with
      | some (x,_,σ2) =>
       match x with
       | .normal => some (.v (.bool true),σ2.put id (.loop fn e n ps as_ bo .ready none))
       | .exit t => some (.v (.bool false),σ2.put id (.loop fn e n ps as_ bo .done (some (.exit t))))
       | .ret => some (.v (.bool false),σ2.put id (.loop fn e n ps as_ bo .done (some .ret)))
      | none => none
     | _ => none
    | _ => none
   else none
  | _ => none
end Go.Dn

namespace Go.Dn
open Go
inductive FVR (w:World) (Imm:Nat→Prop):FV→Value→Prop
 | bool (b:Bool):FVR w Imm (.bool b) (.bool b)
 | int (k:IntKind) (n:Int):FVR w Imm (.int k n) (.int k n)
 | str (s:ByteArray):FVR w Imm (.str s) (.string s)
 | nilp:FVR w Imm .nilp (.pointer none)
 | nilf:FVR w Imm .nilf .nilFunc
 | fn (f:FuncId):FVR w Imm (.fn f) (.func (.func f) #[] #[])
 | nil:FVR w Imm (.sl []) (.slice none 0 0)
 | empty (a:Addr) (cap:Nat):FVR w Imm (.sl []) (.slice (some a) 0 cap)
 | sl (xs:List (List FV)) (b off cap sz:Nat) (vals:Nat→Nat→Value) (himm:Imm b) (hcap:xs.length≤cap)
   (hsz:∀ e ∈ xs,e.length = sz)
   (hcell:∀ i j,i < xs.length→j < sz→w.cell? ⟨b,off + i * sz + j,none⟩ = some (vals i j))
   (hval:∀ (i j:Nat) (e:List FV) (x:FV),xs[i]? = some e→e[j]? = some x→FVR w Imm x (vals i j)) :
   FVR w Imm (.sl xs) (.slice (some ⟨b,off,none⟩) xs.length cap)
theorem FVR.mono {w w':World} {Imm Imm':Nat→Prop} {x:FV} {v:Value} (h:FVR w Imm x v)
  (hm:∀ b,Imm b→Imm' b∧w'.heap[b]? = w.heap[b]?):FVR w' Imm' x v:=by
 induction h with
 | bool b => exact .bool b
 | int k n => exact .int k n
 | str s => exact .str s
 | nilp => exact .nilp
 | nilf => exact .nilf
 | fn f => exact .fn f
 | nil => exact .nil
 | empty a cap => exact .empty a cap
 | sl xs b off cap sz vals himm hcap hsz hcell hval ih =>
  refine .sl xs b off cap sz vals (hm b himm).1 hcap hsz (fun i j hi hj => ?_) ih
  rw [← hcell i j hi hj];simp only [World.cell?,(hm b himm).2]
theorem FVR.Z6B {w:World} {Imm:Nat→Prop} {x:FV} {v:Value} (h:FVR w Imm x v):v.oneCell' = true:=by
 cases h <;> rfl
def Heap.Z87 (σ:Heap) (id:Nat):Prop:=∃ el cells lv,σ.ent id = .blk el cells lv
def Heap.ver (σ:Heap) (id:Nat):Nat:=match σ.ent id with | .blk _ cells _ => cells.length | _ => 0
def Heap.isLoop (σ:Heap) (id:Nat):Prop:=∃ fn e n ps as_ bo st pend,σ.ent id = .loop fn e n ps as_ bo st pend
def Heap.isMap (σ:Heap) (id:Nat):Prop:=∃ kv,σ.ent id = .map kv
def Live (σ:Heap) (id:Nat):Prop:=(∃ el cells,σ.ent id = .blk el cells true)∨σ.isLoop id∨σ.isMap id
def Imm (w:World) (Y:Nat→Prop) (σ:Heap) (ι:Nat→Nat) (b:Nat):Prop :=
 b < w.heap.size∧¬ Y b∧∀ id,Live σ id→ι id ≠ b
structure St where
 w:World
 Y:Nat→Prop
 σ:Heap
 ι:Nat→Nat
def St.imm (s:St):Nat→Prop:=Imm s.w s.Y s.σ s.ι
inductive PVR (s:St):PV→Value→Prop
 | undef:PVR s .undef Go.undef
 | v {x:FV} {v:Value} (h:FVR s.w s.imm x v):PVR s (.v x) v
 | nils:PVR s .nils (.slice none 0 0)
 | full {xs:List (List FV)} {o:Option Addr} (h:FVR s.w s.imm (.sl xs) (.slice o xs.length xs.length)) :
   PVR s (.full xs) (.slice o xs.length xs.length)
 | buf {id len sz:Nat} {v:Value} (hb:s.σ.Z87 id) (hv:len * sz≤s.σ.ver id) (ho:∃ a cap,v = .slice (some a) len cap∧len≤cap)
   (h:s.σ.ver id = len * sz→∃ cap cs el fr,v = .slice (some ⟨s.ι id,0,none⟩) len cap∧len≤cap∧s.w.heap[s.ι id]? = some (.cells cs el fr)∧cs.size = cap * sz∧cap≤maxLen) :
   PVR s (.buf id len sz) v
 | ptr {id ver off:Nat} {v:Value} (hb:s.σ.Z87 id) (hv:ver≤s.σ.ver id) (ho:v.oneCell' = true)
   (h:s.σ.ver id = ver→v = .pointer (some ⟨s.ι id,off,none⟩)):PVR s (.ptr id ver off) v
 | fptr {cells:List FV} {b off:Nat} (himm:s.imm b)
   (hcell:∀ (j:Nat) (x:FV),cells[j]? = some x→∃ u,s.w.cell? ⟨b,off + j,none⟩ = some u∧FVR s.w s.imm x u):PVR s (.fptr cells) (.pointer (some ⟨b,off,none⟩))
 | clo {f:FuncId} {first caps:List PV} {fv cv:Array Value} (hf:first.length = fv.size) (hc:caps.length = cv.size)
   (h1:∀ (i:Nat) (x:PV),first[i]? = some x→PVR s x (fv.getD i Go.undef))
   (h2:∀ (i:Nat) (x:PV),caps[i]? = some x→PVR s x (cv.getD i Go.undef)):PVR s (.clo f first caps) (.func (.func f) fv cv)
 | yld {id:Nat} (h:s.σ.isLoop id):PVR s (.yld id) (.func (.yield (s.ι id)) #[] #[])
 | agg {cells:List PV} {cs:Array Value} (hs:cells.length = cs.size)
   (h:∀ (i:Nat) (x:PV),cells[i]? = some x→PVR s x (cs.getD i Go.undef)) (ho:∀ (i:Nat) (u:Value),cs[i]? = some u→u.oneCell' = true):PVR s (.agg cells) (.agg cs)
 | tup {xs:List PV} {vs:Array Value} (hs:xs.length = vs.size)
   (h:∀ (i:Nat) (x:PV),xs[i]? = some x→PVR s x (vs.getD i Go.undef)):PVR s (.tup xs) (.tuple vs)
 | mp {id:Nat} (h:s.σ.isMap id):PVR s (.mp id) (.map (some (s.ι id)))
 | view {id tot off len sz:Nat} {v:Value} (hb:s.σ.Z87 id) (hv:tot * sz≤s.σ.ver id) (ho:∃ a cap,v = .slice (some a) len cap∧len≤cap)
   (h:s.σ.ver id = tot * sz→∃ cap,v = .slice (some ⟨s.ι id,off * sz,none⟩) len cap):PVR s (.view id tot off len sz) v
structure Ev (s s':St):Prop where
 Y:s'.Y = s.Y
 size:s.w.heap.size≤s'.w.heap.size
 keep:∀ b,b < s.w.heap.size→(∀ id,Live s.σ id→s.ι id ≠ b)→s'.w.heap[b]? = s.w.heap[b]?
 live:∀ id,Live s'.σ id→s'.ι id < s.w.heap.size→∃ id0,Live s.σ id0∧s.ι id0 = s'.ι id
 blk:∀ id el cells lv,s.σ.ent id = .blk el cells lv→∃ cells' lv',s'.σ.ent id = .blk el cells' lv'∧cells.length≤cells'.length ∧
  (cells'.length = cells.length→s'.ι id = s.ι id∧∀ cs e fr,s.w.heap[s.ι id]? = some (.cells cs e fr)→∃ cs' fr',s'.w.heap[s.ι id]? = some (.cells cs' e fr')∧cs'.size = cs.size)
 loop:∀ id fn e n ps as_ bo st pend,s.σ.ent id = .loop fn e n ps as_ bo st pend→(∃ st' pend',s'.σ.ent id = .loop fn e n ps as_ bo st' pend')∧s'.ι id = s.ι id
 map:∀ id kv,s.σ.ent id = .map kv→(∃ kv',s'.σ.ent id = .map kv')∧s'.ι id = s.ι id
 os:s'.w.os = s.w.os
 tape:s'.w.tape = s.w.tape
 output:s'.w.output = s.w.output
theorem Ev.refl (s:St):Ev s s where
 Y:=rfl
 size:=YB _
 keep:=fun _ _ _ => rfl
 live:=fun id h _ => ⟨id,h,rfl⟩
 blk:=fun id el cells lv h => ⟨cells,lv,h,YB _,fun _ => ⟨rfl,fun cs e fr h => ⟨cs,fr,h,rfl⟩⟩⟩
 loop:=fun id fn e n ps as_ bo st pend h => ⟨⟨st,pend,h⟩,rfl⟩
 map:=fun id kv h => ⟨⟨kv,h⟩,rfl⟩
 os:=rfl
 tape:=rfl
 output:=rfl
theorem Ev.trans {s s' s'':St} (h:Ev s s') (h':Ev s' s''):Ev s s'' where
 Y:=h'.Y.trans h.Y
 size:=Yd h.size h'.size
 keep:=fun b hb hl => by
  rw [h'.keep b (YU hb h.size),h.keep b hb hl];intro id hid heq;obtain ⟨id0,h0,h1⟩:=h.live id hid (heq ▸ hb)
  exact hl id0 h0 (h1.trans heq)
 live:=fun id hid hlt => by
  obtain ⟨id1,h1,e1⟩:=h'.live id hid (YU hlt h.size)
  obtain ⟨id0,h0,e0⟩:=h.live id1 h1 (by rw [e1];exact hlt)
  exact ⟨id0,h0,e0.trans e1⟩
 blk:=fun id el cells lv hb => by
  obtain ⟨c1,l1,e1,le1,k1⟩:=h.blk id el cells lv hb
  obtain ⟨c2,l2,e2,le2,k2⟩:=h'.blk id el c1 l1 e1
  refine ⟨c2,l2,e2,Yd le1 le2,fun heq => ?_⟩
  have q1:c1.length = cells.length:=by omega
  have q2:c2.length = c1.length:=by omega
  obtain ⟨a1,b1⟩:=k1 q1
  obtain ⟨a2,b2⟩:=k2 q2
  refine ⟨a2.trans a1,fun cs e fr hc => ?_⟩
  obtain ⟨cs1,fr1,hc1,hs1⟩:=b1 cs e fr hc
  obtain ⟨cs2,fr2,hc2,hs2⟩:=b2 cs1 e fr1 (by rw [a1];exact hc1)
  exact ⟨cs2,fr2,by rw [a1] at hc2;exact hc2,hs2.trans hs1⟩
 loop:=fun id fn e n ps as_ bo st pend hl => by
  obtain ⟨⟨s1,p1,e1⟩,i1⟩:=h.loop id fn e n ps as_ bo st pend hl
  obtain ⟨h2,i2⟩:=h'.loop id fn e n ps as_ bo s1 p1 e1
  exact ⟨h2,i2.trans i1⟩
 map:=fun id kv hl => by
  obtain ⟨⟨k1,e1⟩,i1⟩:=h.map id kv hl
  obtain ⟨h2,i2⟩:=h'.map id k1 e1
  exact ⟨h2,i2.trans i1⟩
 os:=h'.os.trans h.os
 tape:=h'.tape.trans h.tape
 output:=h'.output.trans h.output
theorem Ev.imm {s s':St} (h:Ev s s') (b:Nat) (hb:s.imm b):s'.imm b∧s'.w.heap[b]? = s.w.heap[b]?:=by
 obtain ⟨h1,h2,h3⟩:=hb
 refine ⟨⟨YU h1 h.size,by rw [h.Y];exact h2,fun id hid heq => ?_⟩,h.keep b h1 h3⟩
 obtain ⟨id0,h0,e0⟩:=h.live id hid (heq ▸ h1)
 exact h3 id0 h0 (e0.trans heq)
theorem Ev.fvr {s s':St} (h:Ev s s') {x:FV} {v:Value} (hx:FVR s.w s.imm x v):FVR s'.w s'.imm x v:=hx.mono h.imm
theorem Ev.Z87 {s s':St} (h:Ev s s') {id:Nat} (hb:s.σ.Z87 id):s'.σ.Z87 id:=by
 obtain ⟨el,cells,lv,e⟩:=hb
 obtain ⟨c',l',e',_⟩:=h.blk id el cells lv e
 exact ⟨el,c',l',e'⟩
theorem Ev.ver {s s':St} (h:Ev s s') {id:Nat} (hb:s.σ.Z87 id):s.σ.ver id≤s'.σ.ver id ∧
  (s'.σ.ver id = s.σ.ver id→s'.ι id = s.ι id∧∀ cs e fr,s.w.heap[s.ι id]? = some (.cells cs e fr)→∃ cs' fr',s'.w.heap[s.ι id]? = some (.cells cs' e fr')∧cs'.size = cs.size):=by
 obtain ⟨el,cells,lv,e⟩:=hb
 obtain ⟨c',l',e',hle,hk⟩:=h.blk id el cells lv e
 simp only [Heap.ver,e,e']
 exact ⟨hle,hk⟩
theorem Ev.pvr {s s':St} (h:Ev s s') {x:PV} {v:Value} (hx:PVR s x v):PVR s' x v:=by
 induction hx with
 | undef => exact .undef
 | v hx => exact .v (h.fvr hx)
 | nils => exact .nils
 | full hx => exact .full (h.fvr hx)
 | buf hb hv ho hk =>
  obtain ⟨hle,heq⟩:=h.ver hb
  refine .buf (h.Z87 hb) (Yd hv hle) ho fun e => ?_
  have e1:s'.σ.ver _ = s.σ.ver _:=Nat.le_antisymm (by omega) hle
  obtain ⟨hi,hs⟩:=heq e1
  obtain ⟨cap,cs,el,fr,q1,q2,q3,q4,q5⟩:=hk (by omega)
  obtain ⟨cs',fr',r1,r2⟩:=hs cs el fr q3
  exact ⟨cap,cs',el,fr',by rw [hi];exact q1,q2,by rw [hi];exact r1,r2.trans q4,q5⟩
 | ptr hb hv ho hk =>
  obtain ⟨hle,heq⟩:=h.ver hb
  refine .ptr (h.Z87 hb) (Yd hv hle) ho fun e => ?_
  have e1:s'.σ.ver _ = s.σ.ver _:=Nat.le_antisymm (by omega) hle
  rw [(heq e1).1];exact hk (by omega)
 | @fptr cells b off himm hcell =>
  refine .fptr (h.imm _ himm).1 (fun j x hj => ?_)
  obtain ⟨u,h1,h2⟩:=hcell j x hj
  refine ⟨u,?_,h.fvr h2⟩;rw [← h1];simp only [World.cell?,(h.imm _ himm).2]
 | clo hf hc _ _ ih1 ih2 => exact .clo hf hc ih1 ih2
 | yld hl =>
  obtain ⟨fn,e,n,ps,as_,bo,st,pend,hl⟩:=hl
  obtain ⟨⟨st',pend',h1⟩,h2⟩:=h.loop _ _ _ _ _ _ _ _ _ hl
  rw [← h2];exact .yld ⟨_,_,_,_,_,_,_,_,h1⟩
 | agg hs _ ho ih => exact .agg hs ih ho
 | tup hs _ ih => exact .tup hs ih
 | mp hm =>
  obtain ⟨kv,hm⟩:=hm
  obtain ⟨⟨kv',h1⟩,h2⟩:=h.map _ _ hm
  rw [← h2];exact .mp ⟨_,h1⟩
 | view hb hv ho hk =>
  obtain ⟨hle,heq⟩:=h.ver hb
  refine .view (h.Z87 hb) (Yd hv hle) ho fun e => ?_
  have e1:s'.σ.ver _ = s.σ.ver _:=Nat.le_antisymm (by omega) hle
  rw [(heq e1).1];exact hk (by omega)
def mlist (kv:List (Int × Int)) (j:Nat):List MapEntry:=(kv.zipIdx j).map fun p => { key:=.int .i64 p.1.1,val:=.int .i64 p.1.2,born:=p.2 }
def mobj (kv:List (Int × Int)):Obj:=.map (mlist kv 0).toArray kv.length
def EntOK (s:St) (id:Nat):Ent→Prop
 | .none => True
 | .blk el cells lv => ∃ cs fr,s.w.heap[s.ι id]? = some (.cells cs el fr)∧cells.length≤cs.size∧(lv = true→fr = (0,0)) ∧
   ∀ (j:Nat) (x:PV),cells[j]? = some x→∃ u,cs[j]? = some u∧PVR s x u∧u.oneCell' = true
 | .loop _ e n ps as_ bo st pend => ∃ fn tmps defers,s.w.heap[s.ι id]? = some (.loop { state:=st,pending:=pend,fn:=fn,tmps:=tmps,params:=ps.toArray,assign:=as_,body:=bo,defers:=defers }) ∧
   tmps.size = n∧∀ t,PVR s (e t) (tmps.getD t Go.undef)
 | .map kv => s.w.heap[s.ι id]? = some (mobj kv)
structure Inv (s:St):Prop where
 ent:∀ id,EntOK s id (s.σ.ent id)
 inj:∀ id id',Live s.σ id→Live s.σ id'→s.ι id = s.ι id'→id = id'
 notY:∀ id,Live s.σ id→¬ s.Y (s.ι id)
 fz:∀ id el cells,s.σ.ent id = .blk el cells false→s.imm (s.ι id)
 nx:∀ id,s.σ.nx≤id→s.σ.ent id = .none
 Ylt:∀ b,s.Y b→b < s.w.heap.size
def EnvR (s:St) (n:Nat) (e:Env) (a:Act):Prop:=a.tmps.size = n∧∀ t,PVR s (e t) (a.tmps.getD t Go.undef)
theorem EnvR.mono {s s':St} {n:Nat} {e:Env} {a:Act} (h:EnvR s n e a) (hev:Ev s s'):EnvR s' n e a :=
 ⟨h.1,fun t => hev.pvr (h.2 t)⟩
theorem Live.lt {s:St} (hi:Inv s) {id:Nat} (h:Live s.σ id):s.ι id < s.w.heap.size:=by
 have he:=hi.ent id
 rcases h with ⟨el,cells,e⟩ | ⟨fn,e',n,ps,as_,bo,st,pend,e⟩ | ⟨kv,e⟩
 ·rw [e] at he;obtain ⟨cs,fr,h1,_⟩:=he
  exact (Array.getElem?_eq_some_iff.1 h1).1
 ·rw [e] at he;obtain ⟨fn2,tmps,defers,h1,_⟩:=he
  exact (Array.getElem?_eq_some_iff.1 h1).1
 ·rw [e] at he;exact (Array.getElem?_eq_some_iff.1 he).1
end Go.Dn

namespace Go.Dn
open Go
variable {X:Ctx} {s:St} {n:Nat} {e:Env} {a:Act}
def Z0W (X:Ctx) (s:St):Prop:=∀ g cells,X.glob g = some cells→PVR s (.fptr cells) (.pointer (some ⟨g,0,none⟩))
theorem Z0W.mono {s':St} (h:Z0W X s) (hev:Ev s s'):Z0W X s':=fun g cells hg => hev.pvr (h g cells hg)
theorem ofVal_fvr {c:Value} {x:FV} (h:FV.ofVal c = some x):FVR s.w s.imm x c:=by
 unfold FV.ofVal at h
 split at h <;> simp at h <;> subst h
 ·exact .bool _
 ·exact .int _ _
 ·exact .str _
 ·exact .nilp
 ·exact .nilf
theorem ZCw {c:Value} {x:PV} (h:PV.ofCell c = some x):PVR s x c∧c.oneCell' = true:=by
 unfold PV.ofCell at h
 split at h
 ·simp at h;subst h;exact ⟨.nils,rfl⟩
 ·simp only [Y1] at h;obtain ⟨y,hy,rfl⟩:=h
  exact ⟨.v (ofVal_fvr hy),(ofVal_fvr (s:=s) hy).Z6B⟩
theorem Z6P:∀ {cs:List Value} {xs:List PV},Z8P cs = some xs→xs.length = cs.length∧∀ (i:Nat) (x:PV),xs[i]? = some x→∃ u,cs[i]? = some u∧PVR s x u∧u.oneCell' = true
 | [],xs,h => by simp [Z8P] at h;subst h;simp
 | c :: cs,xs,h => by
  simp only [Z8P,Y4,Y5] at h;obtain ⟨y,hy,ys,hys,rfl⟩:=h
  obtain ⟨h1,h2⟩:=Z6P hys
  refine ⟨by simp [h1],fun i x hi => ?_⟩
  cases i with
  | zero => simp at hi;subst hi;exact ⟨c,by simp,ZCw hy⟩
  | succ i => simp at hi;simpa using h2 i x hi
theorem ofVal_pvr {c:Value} {x:PV} (h:PV.ofVal c = some x):PVR s x c:=by
 unfold PV.ofVal at h
 split at h
 ·simp only [Y1] at h;obtain ⟨xs,hx,rfl⟩:=h
  obtain ⟨h1,h2⟩:=Z6P (s:=s) hx
  refine .agg (by simpa using h1) (fun i x hi => ?_) (fun i u hu => ?_)
  ·obtain ⟨u,hu,hp,_⟩:=h2 i x hi
   rename_i cs;simp only [Y0L] at hu
   simpa [Y7,hu] using hp
  ·rename_i cs;have hl:i < xs.length:=by
    have:=(Array.getElem?_eq_some_iff.1 hu).1
    simp only [Y0I] at h1;omega
   obtain ⟨u',hu',_,ho⟩:=h2 i xs[i] (Y2 hl)
   simp only [Y0L] at hu';rw [hu] at hu';cases hu';exact ho
 ·rename_i vs
  split at h
  ·rename_i hz;simp at h;subst h;have:vs = #[]:=Y0i hz
   subst this;exact .undef
  ·simp at h
 ·exact (ZCw h).1
theorem ZB {x:Operand} {y:PV} (hG:Z0W X s) (he:EnvR s n e a) (h:Z0 X e x = some y):PVR s y (a.eval x):=by
 cases x with
 | tmp t => simp [Z0] at h;subst h;exact he.2 t
 | const c => exact ofVal_pvr h
 | global g =>
  simp only [Z0,Y1] at h;obtain ⟨cs,hc,rfl⟩:=h
  exact hG g cs hc
 | func f => simp [Z0] at h;subst h;exact .v (.fn f)
theorem ZAP (hG:Z0W X s) (he:EnvR s n e a):∀ {xs:List Operand} {ys:List PV},ZY X e xs = some ys →
  ys.length = xs.length∧∀ (i:Nat) (y:PV),ys[i]? = some y→∃ o,xs[i]? = some o∧PVR s y (a.eval o)
 | [],ys,h => by simp [ZY] at h;subst h;simp
 | x :: xs,ys,h => by
  simp only [ZY,Y4,Y5] at h;obtain ⟨y,hy,zs,hzs,rfl⟩:=h
  obtain ⟨h1,h2⟩:=ZAP hG he hzs
  refine ⟨by simp [h1],fun i z hi => ?_⟩
  cases i with
  | zero => simp at hi;subst hi;exact ⟨x,by simp,ZB hG he hy⟩
  | succ i => simp at hi;simpa using h2 i z hi
def PVRs (s:St) (xs:List PV) (vs:Array Value):Prop:=xs.length = vs.size∧∀ (i:Nat) (x:PV),xs[i]? = some x→PVR s x (vs.getD i Go.undef)
theorem PVRs.mono {s':St} {xs:List PV} {vs:Array Value} (h:PVRs s xs vs) (hev:Ev s s'):PVRs s' xs vs:=⟨h.1,fun i x hi => hev.pvr (h.2 i x hi)⟩
theorem Z3Y (hG:Z0W X s) (he:EnvR s n e a) {xs:Array Operand} {ys:List PV} (h:ZY X e xs.toList = some ys):PVRs s ys (xs.map a.eval):=by
 obtain ⟨h1,h2⟩:=ZAP hG he h
 refine ⟨by simpa using h1,fun i y hi => ?_⟩
 obtain ⟨o,ho,hp⟩:=h2 i y hi
 simp only [Y0L] at ho
 simpa [Y7,ho] using hp
def Nx (X:Ctx) (s:St) (a:Act) (dst:Option Tmp) (x:PV) (σ':Heap) (a':Act) (w':World):Prop :=
 ∃ ι' v,a' = a.put dst v∧Inv ⟨w',s.Y,σ',ι'⟩∧Ev s ⟨w',s.Y,σ',ι'⟩∧PVR ⟨w',s.Y,σ',ι'⟩ x v
def Gives (X:Ctx) (s:St) (x:PV) (σ':Heap) (r:Result Value):Prop :=
 ∃ ι' v w',r = .ok v w'∧Inv ⟨w',s.Y,σ',ι'⟩∧Ev s ⟨w',s.Y,σ',ι'⟩∧PVR ⟨w',s.Y,σ',ι'⟩ x v
theorem Gives.same {x:PV} {v:Value} (hi:Inv s) (h:PVR s x v):Gives X s x s.σ (.ok v s.w) :=
 ⟨s.ι,v,s.w,rfl,hi,Ev.refl s,h⟩
theorem Z0m {P:Program} {t:TypeId} {d:TypeDesc} (w:World) (h:P.underlying t = some d):(underlying t).run P w = .ok d w:=by
 simp [underlying,h]
theorem info_of {P:Program} {t:TypeId} {i:TypeInfo} (w:World) (h:P.info? t = some i):(typeInfo t).run P w = .ok i w:=by
 simp [typeInfo,h]
theorem Z2H {P:Program} {t:TypeId} {k:Nat} (w:World) (h:tsize P t = some k):(sizeOf t).run P w = .ok k w:=by
 simp only [tsize,Y1] at h
 obtain ⟨i,hi,rfl⟩:=h
 simp [sizeOf,info_of w hi]
theorem ZAT {P:Program} {t:TypeId} {b:Bool} (w:World) (h:tagg P t = some b):(isAgg t).run P w = .ok b w:=by
 simp only [tagg,Y1] at h
 obtain ⟨d,hd,rfl⟩:=h
 simp only [isAgg,Sem.run_bind,Z0m w hd,Result.andThen_ok]
 cases d <;> rfl
theorem Z1M {P:Program} {t e:TypeId} (h:tslice P t = some e):P.underlying t = some (.slice e):=by
 unfold tslice at h
 split at h
 ·simp at h;subst h;assumption
 ·simp at h
theorem Z9N {P:Program} {t:TypeId} {r:Nat × TypeId} (h:tarray P t = some r):P.underlying t = some (.array r.1 r.2):=by
 unfold tarray at h
 split at h
 ·simp at h;subst h;assumption
 ·simp at h
theorem tstr_run {P:Program} {t:TypeId} (h:tstr P t = true):P.underlying t = some .string:=by
 unfold tstr at h
 split at h
 ·assumption
 ·simp at h
theorem Z3r {x:PV} {i:Nat} (h:Z49 x = some i) {v:Value} (hv:PVR s x v):∃ k,v = .int k (i:Int):=by
 unfold Z49 at h
 split at h
 ·rename_i k m
  split at h
  ·rename_i h0;simp at h;subst h;cases hv with
   | v hv => cases hv;exact ⟨k,by congr 1;omega⟩
  ·simp at h
 ·simp at h
theorem Z9v {σ:Heap} {id k:Nat} (h:σ.cur id k = true):σ.Z87 id∧σ.ver id = k:=by
 unfold Heap.cur at h
 split at h
 ·rename_i el cells lv he;simp at h;exact ⟨⟨el,cells,lv,he⟩,by simp [Heap.ver,he,h]⟩
 ·simp at h
theorem PVR.Z6B {x:PV} {v:Value} (h:PVR s x v) (hx:∀ cs,x ≠ .agg cs) (ht:∀ vs,x ≠ .tup vs) (hu:x ≠ .undef):v.oneCell' = true:=by
 cases h with
 | undef => exact absurd rfl hu
 | v h => exact h.Z6B
 | nils => rfl
 | full h => rfl
 | buf hb hv ho h => obtain ⟨_,_,rfl,_⟩:=ho;rfl
 | view hb hv ho h => obtain ⟨_,_,rfl,_⟩:=ho;rfl
 | ptr hb hv ho h => exact ho
 | fptr himm hcell => rfl
 | clo hf hc h1 h2 => rfl
 | yld h => rfl
 | mp h => rfl
 | agg hs h ho => exact absurd rfl (hx _)
 | tup hs h => exact absurd rfl (ht _)
theorem ZBF {x:PV} {ys:List PV} {v:Value} (hc:x.cells = some ys) (h:PVR s x v) :
  ys.length = v.cells.size∧∀ (i:Nat) (y:PV),ys[i]? = some y→∃ u,v.cells[i]? = some u∧PVR s y u∧u.oneCell' = true:=by
 have one:∀ {x:PV} {v:Value},PVR s x v→(∀ cs,x ≠ .agg cs)→(∀ vs,x ≠ .tup vs)→x ≠ .undef→ys = [x] →
   ys.length = v.cells.size∧∀ (i:Nat) (y:PV),ys[i]? = some y→∃ u,v.cells[i]? = some u∧PVR s y u∧u.oneCell' = true:=by
  intro x v h h1 h2 h3 hy;subst hy;have ho:=h.Z6B h1 h2 h3
  have hv:v.cells = #[v]:=by cases v <;> first | rfl | simp [Value.oneCell'] at ho
  rw [hv];refine ⟨rfl,fun i y hi => ?_⟩
  cases i with
  | zero => simp at hi;subst hi;exact ⟨v,rfl,h,ho⟩
  | succ i => simp at hi
 cases x with
 | undef => simp [PV.cells] at hc
 | tup _ => simp [PV.cells] at hc
 | agg cs =>
  simp [PV.cells] at hc;subst hc;cases h with
  | @agg _ cv hs h ho =>
   refine ⟨hs,fun i y hi => ?_⟩
   have hl:i < cv.size:=by rw [← hs];exact (List.getElem?_eq_some_iff.1 hi).1
   refine ⟨cv[i],by simp [Value.cells,hl],?_,ho i _ (Yh hl)⟩
   have:=h i y hi
   simpa [Y7,hl] using this
 | v y => simp [PV.cells] at hc;exact one h (by simp) (by simp) (by simp) hc.symm
 | nils => simp [PV.cells] at hc;exact one h (by simp) (by simp) (by simp) hc.symm
 | full y => simp [PV.cells] at hc;exact one h (by simp) (by simp) (by simp) hc.symm
 | buf _ _ _ => simp [PV.cells] at hc;exact one h (by simp) (by simp) (by simp) hc.symm
 | ptr _ _ _ => simp [PV.cells] at hc;exact one h (by simp) (by simp) (by simp) hc.symm
 | fptr _ => simp [PV.cells] at hc;exact one h (by simp) (by simp) (by simp) hc.symm
 | clo _ _ _ => simp [PV.cells] at hc;exact one h (by simp) (by simp) (by simp) hc.symm
 | yld _ => simp [PV.cells] at hc;exact one h (by simp) (by simp) (by simp) hc.symm
 | mp _ => simp [PV.cells] at hc;exact one h (by simp) (by simp) (by simp) hc.symm
 | view _ _ _ _ _ => simp [PV.cells] at hc;exact one h (by simp) (by simp) (by simp) hc.symm
end Go.Dn

namespace Go.Dn
open Go
theorem ZH {α:Type} (f:Nat→α) (i:Nat) (x:α):upd f i x i = x:=by simp [upd]
theorem ZQ {α:Type} (f:Nat→α) {i j:Nat} (x:α) (h:j ≠ i):upd f i x j = f j:=by simp [upd,h]
theorem Z0u {σ:Heap} {id:Nat} {en:Ent} {id':Nat} (h:id' ≠ id):Live (σ.put id en) id' ↔ Live σ id':=by
 simp [Live,Heap.isLoop,Heap.isMap,Heap.put,upd,h]
structure Put (s:St) (id:Nat) (el:TypeId) (cells':List PV) (g:Nat) (w':World) (cs':Array Value):Prop where
 old:s.σ.ent id = .none∨∃ cells,s.σ.ent id = .blk el cells true∧cells.length≤cells'.length∧(cells'.length = cells.length→g = s.ι id)
 place:s.w.heap.size≤g∨(g = s.ι id∧(∃ cells,s.σ.ent id = .blk el cells true)∧∀ cs e fr,s.w.heap[g]? = some (.cells cs e fr)→cs'.size = cs.size)
 size:s.w.heap.size≤w'.heap.size
 others:∀ b,b < s.w.heap.size→b ≠ g→w'.heap[b]? = s.w.heap[b]?
 here:w'.heap[g]? = some (.cells cs' el (0,0))
 len:cells'.length≤cs'.size
 cells:∀ (j:Nat) (x:PV),cells'[j]? = some x→∃ u,cs'[j]? = some u∧PVR s x u∧u.oneCell' = true
 nx:id < s.σ.nx
 os:w'.os = s.w.os
 tape:w'.tape = s.w.tape
 output:w'.output = s.w.output
def St.put (s:St) (id:Nat) (el:TypeId) (cells':List PV) (g:Nat) (w':World):St:=⟨w',s.Y,s.σ.put id (.blk el cells' true),upd s.ι id g⟩
theorem Put.old_elem {s:St} (hi:Inv s) {id:Nat} {el:TypeId} {cells:List PV} {lv:Bool} (h:s.σ.ent id = .blk el cells lv):∃ cs fr,s.w.heap[s.ι id]? = some (.cells cs el fr):=by
 have:=hi.ent id
 rw [h] at this
 obtain ⟨cs,fr,h1,_⟩:=this
 exact ⟨cs,fr,h1⟩
theorem Put.ev {s:St} {id:Nat} {el:TypeId} {cells':List PV} {g:Nat} {w':World} {cs':Array Value} (hi:Inv s) (h:Put s id el cells' g w' cs') :
  Ev s (s.put id el cells' g w') where
 Y:=rfl
 size:=h.size
 keep:=fun b hb hl => by
  refine h.others b hb fun e => ?_
  rcases h.place with hp | ⟨hp,⟨cells,hc⟩,_⟩
  ·omega
  ·exact hl id (.inl ⟨el,cells,hc⟩) (by rw [e,hp])
 live:=fun id' hid hlt => by
  by_cases e:id' = id
  ·subst e;simp only [St.put,ZH] at hlt ⊢
   rcases h.place with hp | ⟨hp,⟨cells,hc⟩,_⟩
   ·omega
   ·exact ⟨id',.inl ⟨el,cells,hc⟩,hp.symm⟩
  ·simp only [St.put,ZQ _ _ e] at hlt ⊢;exact ⟨id',(Z0u e).1 hid,rfl⟩
 blk:=fun id' el' cells lv hb => by
  by_cases e:id' = id
  ·subst e
   rcases h.old with ho | ⟨c0,ho,hle,hg⟩
   ·rw [ho] at hb;cases hb
   ·rw [ho] at hb;cases hb;refine ⟨cells',true,by simp [St.put,Heap.put,ZH],hle,fun heq => ?_⟩
    have hg':=hg heq
    subst hg';refine ⟨by simp [St.put,ZH],fun cs e fr hcs => ?_⟩
    obtain ⟨cs0,fr0,h0⟩:=Put.old_elem hi ho
    rw [h0] at hcs;cases hcs;refine ⟨cs',(0,0),by rw [← h.here];rfl,?_⟩
    rcases h.place with hp | ⟨_,_,hsz⟩
    ·have:=(Array.getElem?_eq_some_iff.1 h0).1;omega
    ·exact hsz _ _ _ h0
  ·refine ⟨cells,lv,by simp [St.put,Heap.put,ZQ _ _ e,hb],YB _,fun _ => ⟨by simp [St.put,ZQ _ _ e],fun cs e' fr hcs => ?_⟩⟩
   refine ⟨cs,fr,?_,rfl⟩;rw [← hcs];refine h.others _ (Array.getElem?_eq_some_iff.1 hcs).1 fun hg => ?_
   rcases h.place with hp | ⟨hp,⟨c,hc⟩,_⟩
   ·have:=(Array.getElem?_eq_some_iff.1 hcs).1;omega
   ·cases lv with
    | true => exact e (hi.inj id' id (.inl ⟨el',cells,hb⟩) (.inl ⟨el,c,hc⟩) (hg.trans hp))
    | false => exact (hi.fz id' el' cells hb).2.2 id (.inl ⟨el,c,hc⟩) (hp ▸ hg.symm)
 loop:=fun id' fn e n ps as_ bo st pend hl => by
  by_cases e':id' = id
  ·subst e'
   rcases h.old with ho | ⟨c0,ho,_⟩ <;> rw [ho] at hl <;> cases hl
  ·exact ⟨⟨st,pend,by simp [St.put,Heap.put,ZQ _ _ e',hl]⟩,by simp [St.put,ZQ _ _ e']⟩
 map:=fun id' kv hl => by
  by_cases e':id' = id
  ·subst e'
   rcases h.old with ho | ⟨c0,ho,_⟩ <;> rw [ho] at hl <;> cases hl
  ·exact ⟨⟨kv,by simp [St.put,Heap.put,ZQ _ _ e',hl]⟩,by simp [St.put,ZQ _ _ e']⟩
 os:=h.os
 tape:=h.tape
 output:=h.output
theorem Put.ne {s:St} {id:Nat} {el:TypeId} {cells':List PV} {g:Nat} {w':World} {cs':Array Value} (hi:Inv s) (h:Put s id el cells' g w' cs')
  {id':Nat} (hne:id' ≠ id) (hl:Live s.σ id'):s.ι id' ≠ g:=by
 intro e
 rcases h.place with hp | ⟨hp,⟨c,hc⟩,_⟩
 ·have:=hl.lt hi;omega
 ·exact hne (hi.inj id' id hl (.inl ⟨el,c,hc⟩) (e.trans hp))
theorem Put.inv {s:St} {id:Nat} {el:TypeId} {cells':List PV} {g:Nat} {w':World} {cs':Array Value} (hi:Inv s) (h:Put s id el cells' g w' cs') :
  Inv (s.put id el cells' g w'):=by
 have hev:=h.ev hi
 refine ⟨fun id' => ?_,fun id1 id2 h1 h2 he => ?_,fun id' hl => ?_,fun id' el' c hb => ?_,fun id' hn => ?_,fun b hb => YU (hi.Ylt b hb) h.size⟩
 ·by_cases e:id' = id
  ·subst e;have:(s.put id' el cells' g w').σ.ent id' = .blk el cells' true:=by simp [St.put,Heap.put,ZH]
   rw [this];refine ⟨cs',(0,0),by simp only [St.put,ZH];exact h.here,h.len,fun _ => rfl,fun j x hj => ?_⟩
   obtain ⟨u,hu,hp,ho⟩:=h.cells j x hj
   exact ⟨u,hu,hev.pvr hp,ho⟩
  ·have h1:(s.put id el cells' g w').σ.ent id' = s.σ.ent id':=by simp [St.put,Heap.put,ZQ _ _ e]
   have h2:(s.put id el cells' g w').ι id' = s.ι id':=by simp [St.put,ZQ _ _ e]
   rw [h1];have he:=hi.ent id'
   cases hent:s.σ.ent id' with
   | none => trivial
   | blk el' c lv =>
    rw [hent] at he;obtain ⟨cs,fr,q1,q2,q3,q4⟩:=he
    refine ⟨cs,fr,?_,q2,q3,fun j x hj => ?_⟩
    ·rw [h2,← q1];refine h.others _ (Array.getElem?_eq_some_iff.1 q1).1 fun hg => ?_
     cases lv with
     | true => exact h.ne hi e (.inl ⟨el',c,hent⟩) hg
     | false =>
      rcases h.place with hp | ⟨hp,⟨c',hc⟩,_⟩
      ·have:=(Array.getElem?_eq_some_iff.1 q1).1;omega
      ·exact (hi.fz id' el' c hent).2.2 id (.inl ⟨el,c',hc⟩) (hp ▸ hg.symm)
    ·obtain ⟨u,hu,hp,ho⟩:=q4 j x hj
     exact ⟨u,hu,hev.pvr hp,ho⟩
   | loop fn e' n ps as_ bo st pend =>
    rw [hent] at he;obtain ⟨fn2,tmps,defers,q1,q2,q3⟩:=he
    refine ⟨fn2,tmps,defers,?_,q2,fun t => hev.pvr (q3 t)⟩
    rw [h2,← q1];exact h.others _ (Array.getElem?_eq_some_iff.1 q1).1 (h.ne hi e (.inr (.inl ⟨_,_,_,_,_,_,_,_,hent⟩)))
   | map kv =>
    rw [hent] at he
    show w'.heap[_]? = _
    rw [h2,← he];exact h.others _ (Array.getElem?_eq_some_iff.1 he).1 (h.ne hi e (.inr (.inr ⟨_,hent⟩)))
 ·by_cases e1:id1 = id <;> by_cases e2:id2 = id
  ·rw [e1,e2]
  ·subst e1;simp only [St.put,ZH,ZQ _ _ e2] at he;exact absurd he.symm (h.ne hi e2 ((Z0u e2).1 h2))
  ·subst e2;simp only [St.put,ZH,ZQ _ _ e1] at he;exact absurd he (h.ne hi e1 ((Z0u e1).1 h1))
  ·simp only [St.put,ZQ _ _ e1,ZQ _ _ e2] at he;exact hi.inj id1 id2 ((Z0u e1).1 h1) ((Z0u e2).1 h2) he
 ·by_cases e:id' = id
  ·subst e;simp only [St.put,ZH];intro hy
   rcases h.place with hp | ⟨hp,⟨c,hc⟩,_⟩
   ·have:=hi.Ylt _ hy;omega
   ·rw [hp] at hy;exact hi.notY id' (.inl ⟨el,c,hc⟩) hy
  ·simp only [St.put,ZQ _ _ e];exact hi.notY id' ((Z0u e).1 hl)
 ·by_cases e:id' = id
  ·subst e;simp [St.put,Heap.put,ZH] at hb
  ·have hb':s.σ.ent id' = .blk el' c false:=by simpa [St.put,Heap.put,ZQ _ _ e] using hb
   have:(s.put id el cells' g w').ι id' = s.ι id':=by simp [St.put,ZQ _ _ e]
   rw [this];exact (hev.imm _ (hi.fz id' el' c hb')).1
 ·have hne:id' ≠ id:=by
   intro e;subst e;have:=h.nx
   simp only [St.put,Heap.put] at hn;omega
  simp only [St.put,Heap.put,ZQ _ _ hne];exact hi.nx id' hn
theorem Z3d {s:St} (hi:Inv s) {id:Nat} (hid:s.σ.ent id = .none) (hnx:id < s.σ.nx) (el:TypeId) (cells:List PV) (cs:Array Value) (w':World)
  (hw:w'.heap = s.w.heap.push (.cells cs el (0,0))) (hos:w'.os = s.w.os) (ht:w'.tape = s.w.tape) (ho:w'.output = s.w.output)
  (hl:cells.length≤cs.size) (hc:∀ (j:Nat) (x:PV),cells[j]? = some x→∃ u,cs[j]? = some u∧PVR s x u∧u.oneCell' = true) :
  Put s id el cells s.w.heap.size w' cs where
 old:=.inl hid
 place:=.inl (YB _)
 size:=by rw [hw];simp
 others:=fun b hb _ => by rw [hw,Array.getElem?_push];simp;omega
 here:=by rw [hw];simp
 len:=hl
 cells:=hc
 nx:=hnx
 os:=hos
 tape:=ht
 output:=ho
end Go.Dn

namespace Go.Dn
open Go
variable {X:Ctx} {s:St} {n:Nat} {e:Env} {a:Act} {P:Program}
theorem Z46 (b o j:Nat):(⟨b,o,none⟩ : Addr).add j = ⟨b,o + j,none⟩:=by
 unfold Addr.add;split <;> simp_all
theorem loadCells_pvr (b o:Nat) (xs:List PV) (h:∀ (j:Nat) (x:PV),xs[j]? = some x→∃ u,s.w.cell? ⟨b,o + j,none⟩ = some u∧PVR s x u∧u.oneCell' = true) :
  ∃ cs:Array Value,(loadCells ⟨b,o,none⟩ xs.length).run P s.w = .ok cs s.w∧PVR s (.agg xs) (.agg cs):=by
 let f:Nat→Value:=fun j => (s.w.cell? ⟨b,o + j,none⟩).getD Go.undef
 have hf:∀ j,j < xs.length→s.w.cell? ⟨b,o + j,none⟩ = some (f j):=fun j hj => by
  obtain ⟨u,hu,_⟩:=h j xs[j] (Y2 hj)
  simp [f,hu]
 have hr:=run_loadCells_list (P:=P) s.w ⟨b,o,none⟩ ((List.range xs.length).map f) (fun j v hv => by
  rw [Z46];simp only [YP,Y1] at hv;obtain ⟨k,hk,rfl⟩:=hv
  obtain ⟨hlt,rfl⟩:=List.getElem?_eq_some_iff.1 hk
  simp only [List.getElem_range] at *
  exact hf _ (by simpa using hlt))
 simp only [YY,Y0C] at hr
 refine ⟨_,hr,.agg (by simp) (fun i x hi => ?_) (fun i u hu => ?_)⟩
 ·have hl:i < xs.length:=(List.getElem?_eq_some_iff.1 hi).1
  obtain ⟨u,hu,hp,_⟩:=h i x hi
  have:f i = u:=by simp [f,hu]
  simpa [Y7,hl,this] using hp
 ·simp only [Y0M,YP,Y1] at hu;obtain ⟨k,hk,rfl⟩:=hu
  obtain ⟨hlt,rfl⟩:=List.getElem?_eq_some_iff.1 hk
  simp only [List.getElem_range] at *
  have hl:i < xs.length:=by simpa using hlt
  obtain ⟨u,hu,_,ho⟩:=h i xs[i] (Y2 hl)
  have:f i = u:=by simp [f,hu]
  rw [this];exact ho
theorem Z8X (hi:Inv s) {id:Nat} {el:TypeId} {cells:List PV} {lv:Bool} (hb:s.σ.ent id = .blk el cells lv) (j:Nat) (x:PV) (hj:cells[j]? = some x) :
  ∃ u,s.w.cell? ⟨s.ι id,j,none⟩ = some u∧PVR s x u∧u.oneCell' = true:=by
 have:=hi.ent id
 rw [hb] at this
 obtain ⟨cs,fr,h1,_,_,h4⟩:=this
 obtain ⟨u,hu,hp,ho⟩:=h4 j x hj
 exact ⟨u,by simp [World.cell?,h1,hu],hp,ho⟩
theorem ZBQ {t:TypeId} {k b o:Nat} (ha:tagg P t = some true) (hs:tsize P t = some k) (xs:List PV) (hl:xs.length = k)
  (h:∀ (j:Nat) (x:PV),xs[j]? = some x→∃ u,s.w.cell? ⟨b,o + j,none⟩ = some u∧PVR s x u∧u.oneCell' = true) :
  ∃ v,(loadVar t ⟨b,o,none⟩).run P s.w = .ok v s.w∧PVR s (.agg xs) v:=by
 obtain ⟨cs,h1,h2⟩:=loadCells_pvr (P:=P) b o xs h
 refine ⟨.agg cs,?_,h2⟩
 subst hl
 simp [loadVar,ZAT s.w ha,Z2H s.w hs,h1]
theorem ZBX {t:TypeId} {b o:Nat} {u:Value} (ha:tagg P t = some false) (h:s.w.cell? ⟨b,o,none⟩ = some u) :
  (loadVar t ⟨b,o,none⟩).run P s.w = .ok u s.w:=by
 simp [loadVar,ZAT s.w ha,h]
theorem load_ok (hi:Inv s) {t:TypeId} {p x:PV} {v:Value} (hp:PVR s p v) (h:Z4A P s.σ t p = some x) :
  ∃ ad u,v = .pointer (some ad)∧(loadVar t ad).run P s.w = .ok u s.w∧PVR s x u:=by
 unfold Z4A at h
 split at h
 ·rename_i id ver off
  split at h
  ·rename_i el cells lv hb
   split at h
   ·rename_i hver;cases hp with
    | ptr hbk hv ho hk =>
     have hvv:=hk (by simp [Heap.ver,hb,hver])
     subst hvv
     split at h
     ·rename_i k ha hs
      split at h
      ·rename_i hle;simp at h;subst h;obtain ⟨u,h1,h2⟩:=ZBQ (s:=s) (P:=P) (b:=s.ι id) (o:=off) ha hs ((cells.drop off).take k) (by simp;omega) (fun j x hj => by
        rw [YR] at hj
        split at hj
        ·rw [Ys] at hj;exact Z8X hi hb _ x hj
        ·cases hj)
       exact ⟨_,u,rfl,h1,h2⟩
      ·simp at h
     ·rename_i ha;obtain ⟨u,h1,h2,_⟩:=Z8X hi hb off x h
      exact ⟨_,u,rfl,ZBX ha h1,h2⟩
     ·simp at h
   ·simp at h
  ·simp at h
 ·rename_i cells;cases hp with
  | @fptr _ b off himm hc =>
   have hc':∀ (j:Nat) (x:PV),(vs cells)[j]? = some x→∃ u,s.w.cell? ⟨b,off + j,none⟩ = some u∧PVR s x u∧u.oneCell' = true:=fun j x hj => by
    simp only [vs,YP,Y1] at hj;obtain ⟨y,hy,rfl⟩:=hj
    obtain ⟨u,h1,h2⟩:=hc j y hy
    exact ⟨u,h1,.v h2,h2.Z6B⟩
   split at h
   ·rename_i k ha hs
    split at h
    ·rename_i hle;simp at h;subst h;obtain ⟨u,h1,h2⟩:=ZBQ (s:=s) (P:=P) (b:=b) (o:=off) ha hs (vs (cells.take k)) (by simp [vs];omega) (fun j x hj => by
      refine hc' j x ?_;simp only [vs,List.map_take,YR] at hj ⊢
      split at hj
      ·exact hj
      ·cases hj)
     exact ⟨_,u,rfl,h1,h2⟩
    ·simp at h
   ·rename_i ha;simp only [Y1] at h;obtain ⟨y,hy,rfl⟩:=h
    obtain ⟨u,h1,h2⟩:=hc 0 y hy
    exact ⟨_,u,rfl,ZBX ha (by simpa using h1),.v h2⟩
   ·simp at h
 ·simp at h
theorem load_gives (hi:Inv s) {t:TypeId} {p x:PV} {v:Value} (hp:PVR s p v) (h:Z4A P s.σ t p = some x) :
  Gives X s x s.σ ((Instr.loadAt t v).run P s.w):=by
 obtain ⟨ad,u,rfl,h1,h2⟩:=load_ok hi hp h
 simp only [Instr.loadAt,Instr.sureAddr,Sem.run_bind,Sem.run_pure,Result.andThen_ok,h1]
 exact .same hi h2
theorem ZCN (xs ys:List PV) (off:Nat) (h:off + ys.length≤xs.length) (j:Nat) :
  (splice xs off ys)[j]? = if j < off then xs[j]? else if j < off + ys.length then ys[j - off]? else xs[j]?:=by
 unfold splice
 rw [Y01,Y0x]
 simp only [YS]
 have:min off xs.length = off:=by omega
 rw [this]
 split
 ·rename_i hj;rw [YR];simp [hj]
 ·rename_i hj;rw [Y0x]
  split
  ·rename_i hk;have:j < off + ys.length:=by omega
   simp [this]
  ·rename_i hk;have:¬ j < off + ys.length:=by omega
   simp only [this,if_false,Ys]
   congr 1;omega
theorem Z4k (xs ys:List PV) (off:Nat) (h:off + ys.length≤xs.length):(splice xs off ys).length = xs.length:=by
 simp [splice];omega
theorem Z7x (cs:Array Value) (ys:List Value) (off:Nat) (h:off + ys.length≤cs.size) (j:Nat) :
  ((cs.toList.take off ++ ys ++ cs.toList.drop (off + ys.length)).toArray)[j]? = if j < off then cs[j]? else if j < off + ys.length then ys[j - off]? else cs[j]?:=by
 simp only [Y0M]
 rw [Y01,Y0x]
 simp only [YS,Y0I]
 have:min off cs.size = off:=by omega
 rw [this]
 split
 ·rename_i hj;rw [YR];simp [hj]
 ·rename_i hj;rw [Y0x]
  split
  ·rename_i hk;have:j < off + ys.length:=by omega
   simp [this]
  ·rename_i hk;have:¬ j < off + ys.length:=by omega
   simp only [this,if_false,Ys,Y0L]
   congr 1;omega
theorem Z9i (hi:Inv s) {id:Nat} {el:TypeId} {cells:List PV} (hb:s.σ.ent id = .blk el cells true) (hnx:id < s.σ.nx)
  (ys:List PV) (us:List Value) (off:Nat) (hl:ys.length = us.length) (hle:off + ys.length≤cells.length)
  (hy:∀ (j:Nat) (y:PV),ys[j]? = some y→∃ u,us[j]? = some u∧PVR s y u∧u.oneCell' = true)
  {cs:Array Value} (hcs:s.w.heap[s.ι id]? = some (.cells cs el (0,0))) :
  Put s id el (splice cells off ys) (s.ι id) (s.w.setRow (s.ι id) (cs.toList.take off ++ us ++ cs.toList.drop (off + us.length)).toArray)
   (cs.toList.take off ++ us ++ cs.toList.drop (off + us.length)).toArray:=by
 have he:=hi.ent id
 rw [hb] at he
 obtain ⟨cs0,fr,h1,h2,_,h4⟩:=he
 rw [h1] at hcs
 simp only [Y5,Obj.cells.injEq] at hcs
 obtain ⟨rfl,_,rfl⟩:=hcs
 have hsz:(cs0.toList.take off ++ us ++ cs0.toList.drop (off + us.length)).toArray.size = cs0.size:=by simp;omega
 refine ⟨.inr ⟨cells,hb,by rw [Z4k _ _ _ hle];exact YB _,fun _ => rfl⟩,.inr ⟨rfl,⟨cells,hb⟩,fun cs e fr hc => ?_⟩,by simp,fun b _ hne => setRow_other _ _ _ _ hne,
  setRow_heap _ _ _ _ _ _ h1,by rw [Z4k _ _ _ hle,hsz];exact h2,fun j x hj => ?_,hnx,rfl,rfl,rfl⟩
 ·rw [h1] at hc;cases hc;exact hsz
 ·rw [ZCN _ _ _ hle] at hj;rw [Z7x _ _ _ (by omega)]
  rw [← hl]
  split
  ·rename_i hlt;rw [if_pos hlt] at hj;exact h4 j x hj
  ·rename_i hlt;rw [if_neg hlt] at hj
   split
   ·rename_i hk;rw [if_pos hk] at hj;exact hy _ x hj
   ·rename_i hk;rw [if_neg hk] at hj;exact h4 j x hj
theorem ZAK (hi:Inv s) {id:Nat} {el:TypeId} {cells:List PV} (hb:s.σ.ent id = .blk el cells true):∃ cs,s.w.heap[s.ι id]? = some (.cells cs el (0,0))∧cells.length≤cs.size:=by
 have he:=hi.ent id
 rw [hb] at he
 obtain ⟨cs0,fr,h1,h2,h3,h4⟩:=he
 rw [h3 rfl] at h1
 exact ⟨cs0,h1,h2⟩
theorem nx_of (hi:Inv s) {id:Nat} (h:s.σ.ent id ≠ .none):id < s.σ.nx:=by
 rcases YI id s.σ.nx with h' | h'
 ·exact h'
 ·exact absurd (hi.nx id h') h
theorem store_ok (hi:Inv s) {t:TypeId} {p x:PV} {v u:Value} {σ':Heap} (hp:PVR s p v) (hx:PVR s x u) (h:Z5i P s.σ t x p = some σ') :
  ∃ ι' w',(Instr.storeAt t v u).run P s.w = .ok () w'∧Inv ⟨w',s.Y,σ',ι'⟩∧Ev s ⟨w',s.Y,σ',ι'⟩:=by
 unfold Z5i at h
 split at h
 ·rename_i id ver off
  split at h
  ·rename_i el cells hb
   split at h
   ·rename_i hver;cases hp with
    | ptr hbk hv ho hk =>
     have hvv:=hk (by simp [Heap.ver,hb,hver])
     subst hvv
     split at h
     ·rename_i k ys hs hc
      split at h
      ·rename_i hle;simp at h;subst h;obtain ⟨hl1,hle⟩:=hle
       obtain ⟨c1,c2⟩:=ZBF hc hx
       obtain ⟨cs,hcs,hcl⟩:=ZAK hi hb
       have hput:=Z9i hi hb (nx_of hi (by rw [hb];simp)) ys u.cells.toList off (by simpa using c1) (by omega)
        (fun j y hj => by obtain ⟨q,q1,q2,q3⟩:=c2 j y hj;exact ⟨q,by simpa using q1,q2,q3⟩) hcs
       have hst:=run_storeCells_at P (s.ι id) off el u.cells.toList 0 cs s.w hcs (by simp;omega) (fun q hq => by
        obtain ⟨j,hj,rfl⟩:=Yj hq
        have hj':j < ys.length:=by rw [c1];simpa using hj
        obtain ⟨q',q1,_,q3⟩:=c2 j ys[j] (Y2 hj')
        have:u.cells[j]? = some (u.cells.toList[j]):=by simp
        rw [this] at q1;cases q1;exact q3)
       simp only [Nat.add_zero] at hst;refine ⟨_,_,?_,hput.inv hi,hput.ev hi⟩;have hne:(u.cells.size ≠ k) = False:=by simp;omega
       simp [Instr.storeAt,Instr.sureAddr,storeVar,Z2H s.w hs,hst,← c1,hl1]
      ·simp at h
     ·simp at h
   ·simp at h
  ·simp at h
 ·simp at h
theorem tzero_ok {t:TypeId} {z:List PV} (h:tzero P t = some z):∃ v,(∀ w,(zeroValue t).run P w = .ok v w)∧z.length = v.cells.size ∧
  ∀ (i:Nat) (y:PV),z[i]? = some y→∃ u,v.cells[i]? = some u∧PVR s y u∧u.oneCell' = true:=by
 simp only [tzero,Y4] at h
 obtain ⟨v,⟨i,hi,hz⟩,hc⟩:=h
 obtain ⟨h1,h2⟩:=Z6P (s:=s) hc
 refine ⟨v,fun w => by simp [zeroValue,info_of w hi,hz],by simpa using h1,fun i y hy => ?_⟩
 obtain ⟨u,q1,q2,q3⟩:=h2 i y hy
 exact ⟨u,by simpa using q1,q2,q3⟩
theorem Z9u (hi:Inv s) {id0:Nat} (hid:s.σ.ent id0 = .none) (hnx:id0 < s.σ.nx) {t:TypeId} {cells:List PV} {v:Value} (hl:cells.length = v.cells.size)
  (hc:∀ (i:Nat) (y:PV),cells[i]? = some y→∃ u,v.cells[i]? = some u∧PVR s y u∧u.oneCell' = true) :
  Gives X s (newD s.σ id0 t cells).1 (newD s.σ id0 t cells).2 ((do pure (Value.pointer (some (← newVar t v))):Sem Value).run P s.w):=by
 have hput:=Z3d hi hid hnx t cells v.cells { s.w with heap:=s.w.heap.push (.cells v.cells t) } rfl rfl rfl rfl (by omega) hc
 refine ⟨_,_,_,rfl,hput.inv hi,hput.ev hi,?_⟩
 refine .ptr ⟨t,cells,true,by simp [newD,Heap.put,ZH]⟩ (by simp [newD,Heap.ver,Heap.put,ZH]) rfl fun _ => ?_
 simp [ZH]
end Go.Dn

namespace Go.Dn
open Go
variable {X:Ctx} {s:St} {n:Nat} {e:Env} {a:Act} {P:Program}
def Z4C (s:St) (xs:List PV) (cs:Array Value):Prop :=
 xs.length = cs.size∧∀ (i:Nat) (x:PV),xs[i]? = some x→∃ u,cs[i]? = some u∧PVR s x u∧u.oneCell' = true
theorem Z4C.agg {xs:List PV} {cs:Array Value} (h:Z4C s xs cs):PVR s (.agg xs) (.agg cs):=by
 refine .agg h.1 (fun i x hi => ?_) (fun i u hu => ?_)
 ·obtain ⟨u,hu,hp,_⟩:=h.2 i x hi
  simpa [Y7,hu] using hp
 ·have hl:i < xs.length:=by rw [h.1];exact (Array.getElem?_eq_some_iff.1 hu).1
  obtain ⟨u',hu',_,ho⟩:=h.2 i xs[i] (Y2 hl)
  rw [hu] at hu';cases hu';exact ho
theorem Z7X {xs:List PV} {v:Value} (h:PVR s (.agg xs) v):∃ cs,v = .agg cs∧Z4C s xs cs:=by
 cases h with
 | @agg _ cs hs h ho =>
  refine ⟨cs,rfl,hs,fun i x hi => ?_⟩
  have hl:i < cs.size:=by rw [← hs];exact (List.getElem?_eq_some_iff.1 hi).1
  refine ⟨cs[i],by simp [hl],?_,ho i _ (Yh hl)⟩
  simpa [Y7,hl] using h i x hi
theorem Z7k (off:Nat):∀ (l:List (Value × Nat)) (cells:Array Value),(l.foldl (fun cs (c,j) => cs.setIfInBounds (off + j) c) cells).size = cells.size
 | [],_ => rfl
 | (c,j) :: l,cells => by rw [List.foldl_cons,Z7k off l];simp
theorem Z8x (off:Nat):∀ (l:List Value) (b:Nat) (cells:Array Value),off + b + l.length≤cells.size→∀ k,
  ((l.zipIdx b).foldl (fun cs (c,j) => cs.setIfInBounds (off + j) c) cells)[k]? = if off + b≤k∧k < off + b + l.length then l[k - (off + b)]? else cells[k]?
 | [],b,cells,_,k => by simp;omega
 | c :: l,b,cells,h,k => by
  simp only [List.zipIdx_cons,List.foldl_cons];rw [Z8x off l (b + 1) _ (by simp at h ⊢;omega) k]
  simp only [Yv] at h ⊢
  by_cases hk:k = off + b
  ·subst hk;have h1:¬ (off + (b + 1)≤off + b∧off + b < off + (b + 1) + l.length):=by omega
   have h2:off + b≤off + b∧off + b < off + b + (l.length + 1):=by omega
   rw [if_neg h1,if_pos h2];have h3:off + b < cells.size:=by omega
   simp [h3]
  ·by_cases h3:off + (b + 1)≤k∧k < off + (b + 1) + l.length
   ·have h2:off + b≤k∧k < off + b + (l.length + 1):=by omega
    rw [if_pos h3,if_pos h2];have:k - (off + b) = (k - (off + (b + 1))) + 1:=by omega
    rw [this];simp
   ·have h2:¬ (off + b≤k∧k < off + b + (l.length + 1)):=by omega
    rw [if_neg h3,if_neg h2];rw [Array.getElem?_setIfInBounds_ne (by omega)]
def Z5C (s:St):List (Nat × PV)→List (Nat × Value)→Prop
 | [],[] => True
 | (i,x) :: xs,(j,v) :: vs => i = j∧PVR s x v∧Z5C s xs vs
 | _,_ => False
theorem fill_ok {place:Nat→Option (Nat × Nat)}:∀ {ps:List (Nat × PV)} {vs:List (Nat × Value)} {cells out:List PV} {cs:Array Value},Z5C s ps vs→Z4C s cells cs →
  Z7b place cells ps = some out→∃ cs',Instr.fill place cs vs = some cs'∧Z4C s out cs'
 | [],[],cells,out,cs,_,hc,h => by
  simp [Z7b] at h;subst h;exact ⟨cs,rfl,hc⟩
 | (i,x) :: ps,(j,v) :: vs,cells,out,cs,hp,hc,h => by
  obtain ⟨rfl,hx,hp⟩:=hp
  simp only [Z7b] at h
  split at h
  ·rename_i off k ys hpl hcl
   split at h
   ·rename_i hle;obtain ⟨hl1,hle⟩:=hle
    obtain ⟨c1,c2⟩:=ZBF hcl hx
    have hcs:Z4C s (splice cells off ys) (v.cells.zipIdx.foldl (fun cs (c,j) => cs.setIfInBounds (off + j) c) cs):=by
     have hz:v.cells.zipIdx.foldl (fun (cs:Array Value) (c,j) => cs.setIfInBounds (off + j) c) cs = (v.cells.toList.zipIdx 0).foldl (fun (cs:Array Value) (c,j) => cs.setIfInBounds (off + j) c) cs:=by
      rw [← Y15];simp
     rw [hz];refine ⟨by rw [Z4k _ _ _ (by omega),Z7k];exact hc.1,fun q y hq => ?_⟩
     rw [ZCN _ _ _ (by omega)] at hq
     rw [Z8x off v.cells.toList 0 cs (by simp;rw [← hc.1];omega) q]
     simp only [Nat.add_zero,Y0I,← c1]
     split at hq
     ·rename_i hlt;rw [if_neg (by omega)]
      exact hc.2 q y hq
     ·rename_i hlt
      split at hq
      ·rename_i hk;rw [if_pos (by omega)]
       obtain ⟨u,q1,q2,q3⟩:=c2 _ y hq
       exact ⟨u,by simpa using q1,q2,q3⟩
      ·rename_i hk;rw [if_neg (by omega)]
       exact hc.2 q y hq
    obtain ⟨cs',h1,h2⟩:=fill_ok hp hcs h
    refine ⟨cs',?_,h2⟩;simp only [Instr.fill,hpl];rw [if_neg (by simp;rw [← c1,← hc.1];omega)]
    exact h1
   ·simp at h
  ·simp at h
 | [],_ :: _,_,_,_,hp,_,_ => hp.elim
 | _ :: _,[],_,_,_,hp,_,_ => hp.elim
theorem parts_ok (hG:Z0W X s) (he:EnvR s n e a):∀ {xs:List (Nat × Operand)} {ps:List (Nat × PV)},Z3v X e xs = some ps→Z5C s ps (xs.map fun (i,x) => (i,a.eval x))
 | [],ps,h => by simp [Z3v] at h;subst h;trivial
 | (i,x) :: xs,ps,h => by
  simp only [Z3v,Y4,Y5] at h;obtain ⟨y,hy,ys,hys,rfl⟩:=h
  exact ⟨rfl,ZB hG he hy,parts_ok hG he hys⟩
theorem Z6I {t:TypeId} {z:List PV} (h:tzero P t = some z):∃ i v,P.info? t = some i∧i.zero = some v∧Z4C s z v.cells:=by
 simp only [tzero,Y4] at h
 obtain ⟨v,⟨i,hi,hz⟩,hc⟩:=h
 obtain ⟨h1,h2⟩:=Z6P (s:=s) hc
 refine ⟨i,v,hi,hz,by simpa using h1,fun i y hy => ?_⟩
 obtain ⟨u,q1,q2,q3⟩:=h2 i y hy
 exact ⟨u,by simpa using q1,q2,q3⟩
theorem build_ok (hG:Z0W X s) (he:EnvR s n e a) {t:TypeId} {parts:Array (Nat × Operand)} {x:PV} (h:ZAh X e t parts.toList = some x) :
  ∃ v,(Instr.build t (parts.map fun (i,x) => (i,a.eval x))).run X.P s.w = .ok v s.w∧PVR s x v:=by
 unfold ZAh at h
 split at h
 ·rename_i z ps hz hps;have hp:=parts_ok hG he hps
  obtain ⟨i,v,hi,hzv,hcz⟩:=Z6I (s:=s) hz
  split at h
  ·rename_i pl hpl;simp only [Y1] at h;obtain ⟨cs,hf,rfl⟩:=h
   obtain ⟨cs',h1,h2⟩:=fill_ok hp hcz hf
   refine ⟨.agg cs',run_build s.w t _ cs' ?_,h2.agg⟩;unfold tplaces at hpl
   split at hpl
   ·rename_i fs hu;unfold Program.built;simp only [hi,hu,hzv,hpl]
    simpa using h1
   ·simp at hpl
  ·split at h
   ·rename_i r len el harr;simp only [Y4,Y1] at h;obtain ⟨k,hk,cs,hf,rfl⟩:=h
    obtain ⟨cs',h1,h2⟩:=fill_ok hp hcz hf
    refine ⟨.agg cs',run_build s.w t _ cs' ?_,h2.agg⟩;have hu:=Z9N harr
    simp only [tsize,Y1] at hk;obtain ⟨ie,hie,rfl⟩:=hk
    unfold Program.built;simp only [hi,hu,hzv,hie]
    simpa using h1
   ·simp at h
 ·simp at h
theorem part_ok {t:TypeId} {xs:List PV} {off:Nat} {x:PV} {cs:Array Value} (hc:Z4C s xs cs) (h:partD P t xs off = some x) :
  ∃ v,(∀ w,(part t cs off).run P w = .ok v w)∧PVR s x v:=by
 unfold partD at h
 split at h
 ·rename_i k ha hk
  split at h
  ·rename_i hle;simp at h;subst h;refine ⟨.agg (cs.extract off (off + k)),fun w => by simp [part,ZAT w ha,Z2H w hk],Z4C.agg ⟨by simp;rw [← hc.1];omega,fun i y hi => ?_⟩⟩
   rw [YR] at hi
   split at hi
   ·rename_i hlt;rw [Ys] at hi;obtain ⟨u,h1,h2,h3⟩:=hc.2 _ y hi
    refine ⟨u,?_,h2,h3⟩;rw [Array.getElem?_extract,if_pos (by rw [← hc.1];omega)]
    exact h1
   ·cases hi
  ·simp at h
 ·rename_i ha;obtain ⟨u,h1,h2,_⟩:=hc.2 off x h
  exact ⟨u,fun w => by simp [part,ZAT w ha,h1],h2⟩
 ·simp at h
theorem ZC4 {t:TypeId} {f:Nat} {r:Nat × TypeId} (h:tfield P t f = some r):∃ fs fd,P.underlying t = some (.struct fs)∧fs[f]? = some fd∧fd.offset = r.1∧fd.type = r.2:=by
 unfold tfield at h
 split at h
 ·rename_i fs hu;simp only [Y1] at h;obtain ⟨fd,h1,rfl⟩:=h
  exact ⟨fs,fd,hu,h1,rfl,rfl⟩
 ·simp at h
theorem field_ok {t:TypeId} {p x:PV} {f:Nat} {v:Value} (hp:PVR s p v) (h:fieldD P t p f = some x):∃ u,(Instr.field t v f).run P s.w = .ok u s.w∧PVR s x u:=by
 unfold fieldD at h
 split at h
 ·rename_i off ft cs hf;obtain ⟨fs,fd,hu,hfd,e1,e2⟩:=ZC4 hf
  obtain ⟨arr,rfl,hc⟩:=Z7X hp
  obtain ⟨u,h1,h2⟩:=part_ok hc h
  refine ⟨u,?_,h2⟩;simp only at e1 e2;subst e1 e2;simp [Instr.field,Z0m s.w hu,hfd,asAgg,h1 s.w]
 ·simp at h
theorem ptr_inv {id ver off:Nat} {v:Value} (h:PVR s (.ptr id ver off) v) (hc:s.σ.cur id ver = true):v = .pointer (some ⟨s.ι id,off,none⟩):=by
 cases h with
 | ptr hb hv ho hk => exact hk (Z9v hc).2
theorem fieldAddr_ok {t:TypeId} {p x:PV} {f:Nat} {v:Value} (hp:PVR s p v) (h:Z1P P s.σ t p f = some x):∃ u,(Instr.fieldAt t v f).run P s.w = .ok u s.w∧PVR s x u:=by
 unfold Z1P at h
 split at h
 ·simp at h
 ·rename_i off ft hf;obtain ⟨fs,fd,hu,hfd,e1,e2⟩:=ZC4 hf
  simp only at e1 e2;subst e1 e2
  split at h
  ·simp at h
  ·simp at h
  ·rename_i k hk1 hk;have hk0:k ≠ 0:=hk1
   have hplace:∀ b o,(fieldPlace ⟨b,o,none⟩ fd).run P s.w = .ok ⟨b,o + fd.offset,none⟩ s.w:=fun b o => by
    simp [fieldPlace,Z2H s.w hk,hk0,Z46]
   split at h
   ·rename_i id ver o
    split at h
    ·rename_i hc;simp at h;subst h;have hv:=ptr_inv hp hc
     subst hv;refine ⟨_,by simp [Instr.fieldAt,Z0m s.w hu,hfd,Instr.sureAddr,hplace];rfl,?_⟩
     cases hp with
     | ptr hb hv ho hk => exact .ptr hb hv rfl fun _ => rfl
    ·simp at h
   ·rename_i cells;simp at h;subst h;cases hp with
    | @fptr _ b o himm hcell =>
     refine ⟨_,by simp [Instr.fieldAt,Z0m s.w hu,hfd,Instr.sureAddr,hplace];rfl,.fptr himm fun j y hj => ?_⟩
     rw [Ys] at hj;obtain ⟨u,h1,h2⟩:=hcell _ y hj
     exact ⟨u,by rw [← h1];congr 2;omega,h2⟩
   ·simp at h
end Go.Dn

namespace Go.Dn
open Go
variable {X:Ctx} {s:St} {n:Nat} {e:Env} {a:Act} {P:Program}
theorem Z2d {k:IntKind} {m:Int} {v:Value} (h:PVR s (.v (.int k m)) v):v = .int k m:=by cases h with | v h => cases h;rfl
theorem Z3F {b:Bool} {v:Value} (h:PVR s (.v (.bool b)) v):v = .bool b:=by cases h with | v h => cases h;rfl
theorem Z8b {b:ByteArray} {v:Value} (h:PVR s (.v (.str b)) v):v = .string b:=by cases h with | v h => cases h;rfl
theorem Z6d {v:Value} (h:PVR s .nils v):v = .slice none 0 0:=by cases h;rfl
theorem Z7Z {id len sz:Nat} {v:Value} (h:PVR s (.buf id len sz) v) (hc:s.σ.cur id (len * sz) = true) :
  ∃ cap cs el fr,v = .slice (some ⟨s.ι id,0,none⟩) len cap∧len≤cap∧s.w.heap[s.ι id]? = some (.cells cs el fr)∧cs.size = cap * sz∧cap≤maxLen:=by
 cases h with
 | buf hb hv ho hk => exact hk (Z9v hc).2
theorem view_inv {id tot off len sz:Nat} {v:Value} (h:PVR s (.view id tot off len sz) v) (hc:s.σ.cur id (tot * sz) = true):∃ cap,v = .slice (some ⟨s.ι id,off * sz,none⟩) len cap:=by
 cases h with
 | view hb hv ho hk => exact hk (Z9v hc).2
theorem tfields_run {t:TypeId} {l:List (String × Nat × TypeId)} (h:tfields P t = some l):∃ fs,P.underlying t = some (.struct fs)∧P.stoodInHeld t = false∧l = fs.toList.map fun f => (f.name,f.offset,f.type):=by
 unfold tfields at h
 split at h
 ·rename_i fs hu
  by_cases hs:P.stoodInHeld t = true
  ·rw [if_pos hs] at h;cases h
  ·rw [if_neg hs] at h;cases h;exact ⟨fs,hu,by simpa using hs,rfl⟩
 ·cases h
theorem eqF_ok {eq:TypeId→PV→PV→Option Bool} {d:Nat} (ih:∀ {t:TypeId} {x y:PV} {r:Bool} {v u:Value},eq t x y = some r→PVR s x v→PVR s y u→∀ k,d≤k→(Op.equalIn k t v u).run P s.w = .ok r s.w) :
  ∀ {fs:List Field} {xs ys:List PV} {cs ds:Array Value} {r:Bool},eqFields P eq xs ys (fs.map fun f => (f.name,f.offset,f.type)) = some r→Z4C s xs cs→Z4C s ys ds →
  ∀ k,d≤k→(Op.eqFields k cs ds fs).run P s.w = .ok r s.w
 | [],xs,ys,cs,ds,r,h,_,_ => by
  intro k _;simp [eqFields] at h;subst h;simp [Op.eqFields]
 | f :: fs,xs,ys,cs,ds,r,h,hx,hy => by
  intro k hk;simp only [Y0B,eqFields] at h
  split at h
  ·simp at h
  ·rename_i hn
   split at h
   ·rename_i a b ha hb;simp only [Y4,Y5] at h;obtain ⟨q,hq,z,hz,rfl⟩:=h
    obtain ⟨va,h1,h2⟩:=part_ok hx ha
    obtain ⟨vb,h3,h4⟩:=part_ok hy hb
    have h5:=ih hq h2 h4 k hk
    have h6:=eqF_ok ih hz hx hy k hk
    simp only [Op.eqFields,ne_eq,hn,not_false_eq_true,if_true,Sem.run_bind,h1,h3,h5,Result.andThen_ok];cases q
    ·simp
    ·simpa using h6
   ·simp at h
theorem eq_ok:∀ (d:Nat) {t:TypeId} {x y:PV} {r:Bool} {v u:Value},eqD P d t x y = some r→PVR s x v→PVR s y u→∀ k,d≤k→(Op.equalIn k t v u).run P s.w = .ok r s.w
 | 0,_,_,_,_,_,_,h,_,_ => by simp [eqD] at h
 | d + 1,t,x,y,r,v,u,h,hv,hu => by
  intro k hk;obtain ⟨k,rfl⟩ : ∃ m,k = m + 1:=⟨k - 1,by omega⟩
  unfold eqD at h
  split at h
  ·have:=Z3F hv;have:=Z3F hu;subst_vars
   split at h
   ·rename_i hty;simp at h;subst h;exact run_equalIn_bool' s.w k t _ _ hty
   ·simp at h
  ·have:=Z2d hv;have:=Z2d hu;subst_vars
   split at h
   ·rename_i kk hty
    split at h
    ·rename_i hkk;subst hkk;simp at h;subst h;exact run_equalIn_int s.w k t _ _ _ _ hty
    ·simp at h
   ·simp at h
  ·have:=Z8b hv;have:=Z8b hu;subst_vars
   split at h
   ·rename_i hty;simp at h;subst h;simp [Op.equalIn,Z0m s.w hty]
   ·simp at h
  ·simp only [Y4] at h;obtain ⟨l,hl,hf⟩:=h
   obtain ⟨fs,hfs,hst,rfl⟩:=tfields_run hl
   obtain ⟨xs,rfl,hx⟩:=Z7X hv
   obtain ⟨ys,rfl,hy⟩:=Z7X hu
   have hfo:P.fieldsOf t = fs:=by simp [Program.fieldsOf,hfs]
   rw [run_equalIn_struct (P:=P) s.w k t xs ys (by rw [hfo];exact hfs) hst,hfo]
   exact eqF_ok (fun h1 h2 h3 => eq_ok d h1 h2 h3) hf hx hy k (by omega)
  ·simp at h
theorem intBin_ok {op:BinOp} {k:IntKind} {x y:Int} {r:FV} (h:Z8L op k x y = some r) (t:TypeId) :
  ∃ u,(∀ w,(binOp op t (.int k x) (.int k y)).run P w = .ok u w)∧PVR s (.v r) u:=by
 unfold Z8L at h
 split at h
 case h_4 =>
  by_cases hy:y = 0
  ·rw [if_pos hy] at h;cases h
  ·rw [if_neg hy] at h;cases h;refine ⟨_,fun w => ?_,.v (.int _ _)⟩
   simp [binOp,Op.intDiv,hy]
 case h_5 =>
  by_cases hy:y = 0
  ·rw [if_pos hy] at h;cases h
  ·rw [if_neg hy] at h;cases h;refine ⟨_,fun w => ?_,.v (.int _ _)⟩
   simp [binOp,Op.intDiv,hy]
 case h_1 => cases h;refine ⟨_,fun w => ?_,.v (.int _ _)⟩;simp [binOp,Op.intArith]
 case h_2 => cases h;refine ⟨_,fun w => ?_,.v (.int _ _)⟩;simp [binOp,Op.intArith]
 case h_3 => cases h;refine ⟨_,fun w => ?_,.v (.int _ _)⟩;simp [binOp,Op.intArith]
 case h_6 => cases h;refine ⟨_,fun w => ?_,.v (.int _ _)⟩;simp [binOp,Op.intBits]
 case h_7 => cases h;refine ⟨_,fun w => ?_,.v (.int _ _)⟩;simp [binOp,Op.intBits]
 case h_8 => cases h;refine ⟨_,fun w => ?_,.v (.int _ _)⟩;simp [binOp,Op.intBits]
 case h_9 => cases h;refine ⟨_,fun w => ?_,.v (.int _ _)⟩;simp [binOp,Op.intBits]
 case h_10 => cases h;refine ⟨_,fun w => ?_,.v (.bool _)⟩;simp [binOp,Op.intCmp]
 case h_11 => cases h;refine ⟨_,fun w => ?_,.v (.bool _)⟩;simp [binOp,Op.intCmp]
 case h_12 => cases h;refine ⟨_,fun w => ?_,.v (.bool _)⟩;simp [binOp,Op.intCmp]
 case h_13 => cases h;refine ⟨_,fun w => ?_,.v (.bool _)⟩;simp [binOp,Op.intCmp]
 case h_14 => cases h;refine ⟨_,fun w => ?_,.v (.bool _)⟩;simp [binOp,Op.intCmp]
 case h_15 => cases h;refine ⟨_,fun w => ?_,.v (.bool _)⟩;simp [binOp,Op.intCmp]
 all_goals cases h
theorem eqNil (d:Nat) {t el:TypeId} (hu:P.underlying t = some (.slice el)) (o:Option Addr) (l c:Nat) (w:World) :
  (Op.equalIn (d + 1) t (.slice o l c) (.slice none 0 0)).run P w = .ok o.isNone w:=by
 cases o <;> simp [Op.equalIn,Z0m w hu]
theorem Z5d {t:TypeId} {v u:Value} {r:Bool} {w:World} (h:(Op.equalIn 10000 t v u).run P w = .ok r w)
  (hv:(∃ a b,v = .bool a∧u = .bool b)∨(∃ a b,v = .agg a∧u = .agg b)∨(∃ o l c o' l' c',v = .slice o l c∧u = .slice o' l' c')) :
  (binOp .eql t v u).run P w = .ok (.bool r) w∧(binOp .neq t v u).run P w = .ok (.bool (!r)) w:=by
 have h':(Op.equal t v u).run P w = .ok r w:=h
 rcases hv with ⟨a,b,rfl,rfl⟩ | ⟨a,b,rfl,rfl⟩ | ⟨o,l,c,o',l',c',rfl,rfl⟩ <;> simp only [binOp,Sem.run_bind,h',Result.andThen_ok,Sem.run_pure,and_self]
theorem bin_ok {op:BinOp} {t:TypeId} {x y:PV} {r:FV} {v u:Value} (hx:PVR s x v) (hy:PVR s y u) (h:binD P s.σ op t x y = some r) (o1 o2:Operand) :
  ∃ z,(do eqGuard op t o1 o2 v u;binOp op t v u:Sem Value).run P s.w = .ok z s.w∧PVR s (.v r) z:=by
 unfold binD at h
 split at h
 ·rename_i k a k' b;have:=Z2d hx;have:=Z2d hy;subst_vars
  have hg:(eqGuard op t o1 o2 (.int k a) (.int k' b)).run P s.w = .ok () s.w:=by cases op <;> simp [eqGuard]
  simp only [Sem.run_bind,hg,Result.andThen_ok]
  split at h
  ·by_cases hb:b < 0
   ·rw [if_pos hb] at h;cases h
   ·rw [if_neg hb] at h;cases h;refine ⟨_,?_,.v (.int _ _)⟩;simp [binOp,Op.shift,hb]
  ·by_cases hb:b < 0
   ·rw [if_pos hb] at h;cases h
   ·rw [if_neg hb] at h;cases h;refine ⟨_,?_,.v (.int _ _)⟩;simp [binOp,Op.shift,hb]
  ·by_cases hk:k = k'
   ·subst hk;rw [if_pos rfl] at h;obtain ⟨z,h1,h2⟩:=intBin_ok (s:=s) (P:=P) h t
    exact ⟨z,h1 s.w,h2⟩
   ·rw [if_neg hk] at h;cases h
 ·rename_i a b;have:=Z8b hx;have:=Z8b hy;subst_vars
  have hg:(eqGuard op t o1 o2 (.string a) (.string b)).run P s.w = .ok () s.w:=by cases op <;> simp [eqGuard]
  simp only [Sem.run_bind,hg,Result.andThen_ok]
  split at h
  ·cases h;refine ⟨_,?_,.v (.bool _)⟩;simp [binOp,Op.stringOp]
  ·cases h;refine ⟨_,?_,.v (.bool _)⟩;simp [binOp,Op.stringOp]
  ·cases h
 ·have:=Z6d hy;subst_vars
  have key:∀ b,Z90 s.σ x = some b→∃ o l c,v = .slice o l c∧o.isNone = b:=by
   intro b hb;unfold Z90 at hb
   split at hb
   ·cases hb;exact ⟨_,_,_,Z6d hx,rfl⟩
   ·cases hb;cases hx with
    | v hx => cases hx with | sl => exact ⟨_,_,_,rfl,rfl⟩
   ·rename_i id len sz
    by_cases hc:s.σ.cur id (len * sz) = true
    ·rw [if_pos hc] at hb;cases hb;obtain ⟨cap,_,_,_,h1,_⟩:=Z7Z hx hc
     exact ⟨_,_,_,h1,rfl⟩
    ·rw [if_neg hc] at hb;cases hb
   ·cases hb
  split at h
  ·rename_i el hel;simp only [Y1] at h;obtain ⟨b,hb,rfl⟩:=h
   obtain ⟨o,l,c,rfl,rfl⟩:=key b hb
   have hg:(eqGuard .eql t o1 o2 (.slice o l c) (.slice none 0 0)).run P s.w = .ok () s.w:=by simp [eqGuard]
   refine ⟨_,?_,.v (.bool _)⟩;simp only [Sem.run_bind,hg,Result.andThen_ok];exact (Z5d (eqNil 9999 (Z1M hel) o l c s.w) (.inr (.inr ⟨_,_,_,_,_,_,rfl,rfl⟩))).1
  ·rename_i el hel;simp only [Y1] at h;obtain ⟨b,hb,rfl⟩:=h
   obtain ⟨o,l,c,rfl,rfl⟩:=key b hb
   have hg:(eqGuard .neq t o1 o2 (.slice o l c) (.slice none 0 0)).run P s.w = .ok () s.w:=by simp [eqGuard]
   refine ⟨_,?_,.v (.bool _)⟩;simp only [Sem.run_bind,hg,Result.andThen_ok];exact (Z5d (eqNil 9999 (Z1M hel) o l c s.w) (.inr (.inr ⟨_,_,_,_,_,_,rfl,rfl⟩))).2
  ·cases h
 ·rename_i x' y' hn1 hn2 hn3
  by_cases hgf:Z6i P t x = true
  ·rw [if_pos hgf] at h;have main:∀ r0,eqD P 6 t x y = some r0→(∃ a b,x = .v (.bool a)∧y = .v (.bool b))∨(∃ a b,x = .agg a∧y = .agg b):=by
    intro r0 h0;unfold eqD at h0
    split at h0
    ·exact .inl ⟨_,_,rfl,rfl⟩
    ·first | exact (hn1 _ _ _ _ rfl rfl).elim | exact (hn2 _ _ _ _ rfl rfl).elim | exact (hn3 _ _ _ _ rfl rfl).elim | exact (x' _ _ _ _ rfl rfl).elim | exact (y' _ _ _ _ rfl rfl).elim
    ·first | exact (hn1 _ _ rfl rfl).elim | exact (hn2 _ _ rfl rfl).elim | exact (hn3 _ _ rfl rfl).elim | exact (x' _ _ rfl rfl).elim | exact (y' _ _ rfl rfl).elim
    ·exact .inr ⟨_,_,rfl,rfl⟩
    ·cases h0
   have fin:∀ r0,eqD P 6 t x y = some r0→(op = .eql∨op = .neq)→(eqGuard op t o1 o2 v u).run P s.w = .ok () s.w∧(binOp .eql t v u).run P s.w = .ok (.bool r0) s.w∧(binOp .neq t v u).run P s.w = .ok (.bool (!r0)) s.w:=by
    intro r0 h0 hop;have heq:=eq_ok 6 h0 hx hy 10000 (by omega)
    rcases main r0 h0 with ⟨a,b,rfl,rfl⟩ | ⟨a,b,rfl,rfl⟩
    ·have:=Z3F hx;have:=Z3F hy;subst_vars
     exact ⟨by rcases hop with rfl | rfl <;> simp [eqGuard],Z5d heq (.inl ⟨_,_,rfl,rfl⟩)⟩
    ·obtain ⟨xs,rfl,hx'⟩:=Z7X hx
     obtain ⟨ys,rfl,hy'⟩:=Z7X hy
     have hg:P.eqGuardType P.depth t = false:=by simpa [Z6i] using hgf
     exact ⟨run_eqGuard_agg s.w _ t o1 o2 xs ys hg,Z5d heq (.inr (.inl ⟨_,_,rfl,rfl⟩))⟩
   split at h
   ·simp only [Y1] at h;obtain ⟨b,hb,rfl⟩:=h
    obtain ⟨f1,f2,f3⟩:=fin b hb (.inl rfl)
    exact ⟨_,by simp only [Sem.run_bind,f1,Result.andThen_ok];exact f2,.v (.bool _)⟩
   ·simp only [Y1] at h;obtain ⟨b,hb,rfl⟩:=h
    obtain ⟨f1,f2,f3⟩:=fin b hb (.inr rfl)
    exact ⟨_,by simp only [Sem.run_bind,f1,Result.andThen_ok];exact f3,.v (.bool _)⟩
   ·cases h
  ·rw [if_neg hgf] at h;cases h
theorem un_ok {op:UnOp} {x:PV} {r:FV} {v:Value} (hx:PVR s x v) (h:unD op x = some r):∃ z,(Op.unary op v).run P s.w = .ok z s.w∧PVR s (.v r) z:=by
 unfold unD at h
 split at h
 ·have:=Z2d hx;subst_vars
  cases h;refine ⟨_,?_,.v (.int _ _)⟩;simp [Op.unary,Op.intArith]
 ·have:=Z3F hx;subst_vars
  cases h;refine ⟨_,?_,.v (.bool _)⟩;simp [Op.unary]
 ·cases h
theorem tint_run {t:TypeId} {k:IntKind} (h:tint P t = some k):P.underlying t = some (.int k):=by
 unfold tint at h
 split at h
 ·cases h;assumption
 ·cases h
theorem conv_ok {src dst:TypeId} {x:PV} {r:FV} {v:Value} (hx:PVR s x v) (h:convD P src dst x = some r):∃ z,(convert src dst v).run P s.w = .ok z s.w∧PVR s (.v r) z:=by
 unfold convD at h
 split at h
 ·have:=Z2d hx;subst_vars
  split at h
  ·rename_i d k hs hd;cases h;refine ⟨_,?_,.v (.int _ _)⟩;simp only [convert,Sem.run_bind,Z0m s.w hs,Z0m s.w (tint_run hd),Result.andThen_ok,Conv.intToInt,Sem.run_pure]
  ·cases h
 ·cases h
theorem len_ok {t ty:TypeId} {ts:Array TypeId} (hts:ts[0]? = some t) {x:PV} {r:FV} {v:Value} (hx:PVR s x v) (h:lenD P s.σ t x = some r) :
  ∃ z,(Builtin.len_ ts ty #[v]).run P s.w = .ok z s.w∧PVR s (.v r) z:=by
 unfold lenD at h
 split at h
 ·rename_i el hel;have hu:=Z1M hel
  have main:∀ (o:Option Addr) (l c:Nat),(Builtin.len_ ts ty #[.slice o l c]).run P s.w = .ok (.int .i64 l) s.w:=fun o l c => by
   simp [Builtin.len_,hts,Z0m s.w hu,goInt]
  split at h
  ·cases h;cases hx with
   | v hx => cases hx with
    | nil => exact ⟨_,main _ _ _,.v (.int _ _)⟩
    | empty => exact ⟨_,main _ _ _,.v (.int _ _)⟩
    | sl => exact ⟨_,main _ _ _,.v (.int _ _)⟩
  ·cases h;cases hx with
   | full => exact ⟨_,main _ _ _,.v (.int _ _)⟩
  ·cases h;have:=Z6d hx;subst_vars
   exact ⟨_,main _ _ _,.v (.int _ _)⟩
  ·rename_i id k sz
   by_cases hc:s.σ.cur id (k * sz) = true
   ·rw [if_pos hc] at h;cases h;obtain ⟨cap,_,_,_,rfl,_⟩:=Z7Z hx hc
    exact ⟨_,main _ _ _,.v (.int _ _)⟩
   ·rw [if_neg hc] at h;cases h
  ·cases h
 ·split at h
  ·rename_i b
   by_cases hc:tstr P t = true
   ·rw [if_pos hc] at h;cases h;have:=Z8b hx;subst_vars
    refine ⟨_,?_,.v (.int _ _)⟩;simp [Builtin.len_,hts,Z0m s.w (tstr_run hc),goInt]
   ·rw [if_neg hc] at h;cases h
  ·cases h
theorem Z8u {t el:TypeId} {k:IntKind} {b off len cap i sz:Nat} (hu:P.underlying t = some (.slice el)) (hs:tsize P el = some sz) (hi:i < len) (w:World) :
  (Instr.indexAt t (.slice (some ⟨b,off,none⟩) len cap) (.int k (i:Int))).run P w = .ok (.pointer (some ⟨b,off + i * sz,none⟩)) w:=by
 have h1:(0:Int)≤(i:Int)∧(i:Int) < (len:Int):=by omega
 have h2:¬ len≤i:=by omega
 simp [Instr.indexAt,asIntOf,Z0m w hu,Z2H w hs,h1,h2,Z46]
theorem indexAt_array {t el:TypeId} {k:IntKind} {b off len i sz:Nat} (hu:P.underlying t = some (.array len el)) (hs:tsize P el = some sz) (hi:i < len) (w:World) :
  (Instr.indexAt t (.pointer (some ⟨b,off,none⟩)) (.int k (i:Int))).run P w = .ok (.pointer (some ⟨b,off + i * sz,none⟩)) w:=by
 have h1:(0:Int)≤(i:Int)∧(i:Int) < (len:Int):=by omega
 have h2:¬ len≤i:=by omega
 simp [Instr.indexAt,asIntOf,Z0m w hu,Z2H w hs,h1,h2,Z46,Instr.sureAddr]
theorem sl_elem {xs:List (List FV)} {v:Value} (h:FVR s.w s.imm (.sl xs) v) {i:Nat} {e:List FV} (he:xs[i]? = some e) :
  ∃ b off cap sz,v = .slice (some ⟨b,off,none⟩) xs.length cap∧e.length = sz∧(∀ e ∈ xs,e.length = sz)∧PVR s (.fptr e) (.pointer (some ⟨b,off + i * sz,none⟩)):=by
 cases h with
 | nil => simp at he
 | empty a cap => simp at he
 | sl xs b off cap sz vals himm hcap hsz hcell hval =>
  have hlt:=(List.getElem?_eq_some_iff.1 he).1
  have hm:e ∈ xs:=Y6 he
  refine ⟨b,off,cap,sz,rfl,hsz e hm,hsz,.fptr himm fun j x hj => ?_⟩
  have hj':j < sz:=by rw [← hsz e hm];exact (List.getElem?_eq_some_iff.1 hj).1
  exact ⟨_,hcell i j hlt hj',hval i j e x he hj⟩
end Go.Dn

namespace Go.Dn
open Go
variable {X:Ctx} {s:St} {n:Nat} {e:Env} {a:Act} {P:Program}
theorem indexAddr_ok (hi:Inv s) {t:TypeId} {x i y:PV} {v u:Value} (hx:PVR s x v) (hy:PVR s i u) (h:Z1A P s.σ t x i = some y) :
  ∃ z,(Instr.indexAt t v u).run P s.w = .ok z s.w∧PVR s y z:=by
 unfold Z1A at h
 split at h
 ·cases h
 ·rename_i j hj;obtain ⟨k,rfl⟩:=Z3r hj hy
  split at h
  ·rename_i xs
   split at h
   ·rename_i sz el hel hxe
    by_cases hl:el.length = sz
    ·rw [if_pos hl] at h;cases h;simp only [Y4] at hel;obtain ⟨et,hu,hs⟩:=hel
     cases hx with
     | v hx =>
      obtain ⟨b,off,cap,sz',rfl,h1,h2,h3⟩:=sl_elem hx hxe
      have:sz' = sz:=by omega
      subst this;exact ⟨_,Z8u (Z1M hu) hs (List.getElem?_eq_some_iff.1 hxe).1 s.w,h3⟩
    ·rw [if_neg hl] at h;cases h
   ·cases h
  ·rename_i id len sz
   split at h
   ·rename_i et hu
    by_cases hc:(s.σ.cur id (len * sz) && tsize P et == some sz && decide (j < len)) = true
    ·rw [if_pos hc] at h;cases h;simp only [Y9,beq_iff_eq,decide_eq_true_eq] at hc;obtain ⟨⟨hc1,hc2⟩,hc3⟩:=hc
     obtain ⟨cap,cs,el,fr,rfl,h2,h3,h4,h5⟩:=Z7Z hx hc1
     refine ⟨_,Z8u (Z1M hu) hc2 hc3 s.w,?_⟩;obtain ⟨q1,q2⟩:=Z9v hc1
     refine .ptr q1 (by omega) rfl fun _ => by simp
    ·rw [if_neg hc] at h;cases h
   ·cases h
  ·rename_i id ver off
   split at h
   ·rename_i len et ha
    by_cases hc:(s.σ.cur id ver && decide (j < len)) = true
    ·rw [if_pos hc] at h;simp only [Y9,decide_eq_true_eq] at hc;simp only [Y1] at h;obtain ⟨sz,hs,rfl⟩:=h
     have hv:=ptr_inv hx hc.1
     subst hv;refine ⟨_,indexAt_array (Z9N ha) hs hc.2 s.w,?_⟩;obtain ⟨q1,q2⟩:=Z9v hc.1
     exact .ptr q1 (by omega) rfl fun _ => rfl
    ·rw [if_neg hc] at h;cases h
   ·cases h
  ·cases h
theorem index_ok {t:TypeId} {x i y:PV} {v u:Value} (hx:PVR s x v) (hy:PVR s i u) (h:indexD P t x i = some y) :
  ∃ z,(Instr.index t v u).run P s.w = .ok z s.w∧PVR s y z:=by
 unfold indexD at h
 split at h
 ·cases h
 ·rename_i j hj;obtain ⟨k,rfl⟩:=Z3r hj hy
  split at h
  ·rename_i cs
   split at h
   ·rename_i len et ha
    by_cases hc:j < len
    ·rw [if_pos hc] at h;simp only [Y4] at h;obtain ⟨sz,hs,hp⟩:=h
     obtain ⟨arr,rfl,hcs⟩:=Z7X hx
     obtain ⟨z,h1,h2⟩:=part_ok hcs hp
     refine ⟨z,?_,h2⟩;have h3:(0:Int)≤(j:Int)∧(j:Int) < (len:Int):=by omega
     simp only [Instr.index,asIntOf,Sem.run_bind,Sem.run_pure,Result.andThen_ok,Z0m s.w (Z9N ha),h3,and_self,if_true,Z2H s.w hs,Y0D,h1]
    ·rw [if_neg hc] at h;cases h
   ·cases h
  ·rename_i b
   by_cases hc:tstr P t = true
   ·rw [if_pos hc] at h;simp only [Y1] at h;obtain ⟨c,hc1,rfl⟩:=h
    have:=Z8b hx;subst_vars
    refine ⟨_,?_,.v (.int _ _)⟩;simp [Instr.index,asIntOf,Z0m s.w (tstr_run hc),hc1]
   ·rw [if_neg hc] at h;cases h
  ·cases h
theorem ZAy {len cap l h m:Nat} {lo hi mx:Option Value} (hlo:(lo = none∧l = 0)∨∃ k,lo = some (.int k (l:Int))) (hh:(hi = none∧h = len∧mx = none)∨∃ k,hi = some (.int k (h:Int)))
  (hm:(mx = none∧m = cap)∨∃ k,mx = some (.int k (m:Int))) (h1:l≤h) (h2:h≤m) (h3:m≤cap) (w:World) :
  (Instr.sliceBounds true len cap lo hi mx).run P w = .ok (l,h,m) w:=by
 have e1:(0:Int)≤(l:Int):=by omega
 have e2:(0:Int)≤(h:Int):=by omega
 have e3:(0:Int)≤(m:Int):=by omega
 rcases hlo with ⟨rfl,rfl⟩ | ⟨kl,rfl⟩ <;> rcases hh with ⟨rfl,rfl,rfl⟩ | ⟨kh,rfl⟩ <;> rcases hm with ⟨hmm,rfl⟩ | ⟨km,hmm⟩ <;> first | (cases hmm;done) | (try subst hmm)
 all_goals simp [Instr.sliceBounds,run_sliceBound,h1,h2,h3,e1,e2,e3]
 all_goals (try (rw [run_sliceBound _ _ _ _ _ (by omega) (by omega)]))
 all_goals (try simp)
 all_goals (try (rw [run_sliceBound _ _ _ _ _ (by omega) (by omega)]))
 all_goals (try simp)
 all_goals (try (rw [run_sliceBound _ _ _ _ _ (by omega) (by omega)]))
 all_goals (try simp)
theorem sl_slice {xs:List (List FV)} {o:Option Addr} {cap l h m sz:Nat} (hx:FVR s.w s.imm (.sl xs) (.slice o xs.length cap)) (h1:l≤h) (h2:h≤xs.length) (h3:h≤m) (h4:m≤cap)
  (h5:∀ y,xs[l]? = some y→y.length = sz):FVR s.w s.imm (.sl ((xs.take h).drop l)) (.slice (if m = l then o else o.map (·.add (l * sz))) (h - l) (m - l)):=by
 have hlen:((xs.take h).drop l).length = h - l:=by simp;omega
 generalize hv:Value.slice o xs.length cap = v at hx
 cases hx with
 | nil =>
  simp only [Value.slice.injEq,Yt] at hv;obtain ⟨rfl,_,rfl⟩:=hv
  have:m = l:=by simp at h2;omega
  subst this;simp only [Yt,Nat.le_zero_eq] at h2;subst h2;have:m = 0:=by omega
  subst this
  simpa using FVR.nil
 | empty a cap' =>
  simp only [Value.slice.injEq,Yt] at hv;obtain ⟨rfl,_,rfl⟩:=hv
  simp only [Yt,Nat.le_zero_eq] at h2;subst h2;have hl:l = 0:=by omega
  subst hl;simp only [List.take_nil,List.drop_nil]
  by_cases hml:m = 0
  ·rw [if_pos hml];exact FVR.empty _ _
  ·rw [if_neg hml];exact FVR.empty _ _
 | sl xs b off cap' sz' vals himm hcap hsz hcell hval =>
  simp only [Value.slice.injEq] at hv;obtain ⟨rfl,_,rfl⟩:=hv
  by_cases hml:m = l
  ·have hl:h = l:=by omega
   subst hl;have:(xs.take h).drop h = []:=by simp
   rw [this,if_pos hml];have:=FVR.sl (w:=s.w) (Imm:=s.imm) [] b off (m - h) sz' vals himm (by simp) (by simp) (by simp) (by simp)
   simpa using this
  ·rw [if_neg hml];simp only [Y8,Z46];rw [← hlen];refine FVR.sl _ b (off + l * sz) (m - l) sz' (fun i j => vals (l + i) j) himm (by omega) (fun e he => hsz e (Yq (List.mem_of_mem_drop he))) (fun i j hi hj => ?_) (fun i j e x he hj => ?_)
   ·have hll:l < xs.length:=by simp at hi;omega
    have hszz:sz' = sz:=by
     rw [← hsz xs[l] (YW hll)];exact h5 _ (Y2 hll)
    subst hszz;have:=hcell (l + i) j (by simp at hi;omega) hj
    rw [← this]
    congr 2
    rw [Yl];omega
   ·rw [Ys,YR] at he
    split at he
    ·exact hval _ j e x he hj
    ·cases he
theorem full_fvr {xs:List (List FV)} {v:Value} (h:PVR s (.full xs) v):PVR s (.v (.sl xs)) v:=by
 cases h with
 | full h => exact .v h
theorem sl_inv {xs:List (List FV)} {v:Value} (h:PVR s (.v (.sl xs)) v):∃ o cap,v = .slice o xs.length cap∧xs.length≤cap∧FVR s.w s.imm (.sl xs) (.slice o xs.length cap):=by
 cases h with
 | v h =>
  cases h with
  | nil => exact ⟨none,0,rfl,YB _,.nil⟩
  | empty a cap => exact ⟨_,cap,rfl,YX _,.empty a cap⟩
  | sl xs b off cap sz vals himm hcap hsz hcell hval => exact ⟨_,cap,rfl,hcap,.sl xs b off cap sz vals himm hcap hsz hcell hval⟩
def OptR (s:St):Option PV→Option Value→Prop
 | none,none => True
 | some x,some v => PVR s x v
 | _,_ => False
theorem slice_ok {t:TypeId} {x y:PV} {v:Value} {lo hi mx:Option PV} {lo' hi' mx':Option Value} (hx:PVR s x v) (h1:OptR s lo lo') (h2:OptR s hi hi') (h3:OptR s mx mx')
  (h:Z8G P t x lo hi mx = some y):∃ z,(Instr.sliceAt t v lo' hi' mx').run P s.w = .ok z s.w∧PVR s y z:=by
 unfold Z8G at h
 simp only at h
 split at h
 ·rename_i xs
  split at h
  ·cases h
  ·rename_i sz hsz;simp only [Y4] at hsz;obtain ⟨et,hu,hs⟩:=hsz
   have hu':=Z1M hu
   have hel:P.elem t = et:=by simp [Program.elem,hu']
   obtain ⟨o,cap,rfl,hcap,hf⟩:=sl_inv hx
   split at h
   ·rename_i l h' hl hh
    by_cases hc:l≤h'∧h'≤xs.length∧Z6F xs l sz = true
    ·rw [if_pos hc] at h;obtain ⟨c1,c2,c3⟩:=hc
     have c3':∀ y,xs[l]? = some y→y.length = sz:=fun y hy => by simpa [Z6F,hy] using c3
     have hlo:(lo' = none∧l = 0)∨∃ k,lo' = some (.int k (l:Int)):=by
      cases lo with
      | none => cases lo' with
       | none => simp at hl;exact .inl ⟨rfl,hl.symm⟩
       | some _ => exact h1.elim
      | some lo => cases lo' with
       | none => exact h1.elim
       | some lo' =>
        obtain ⟨k,rfl⟩:=Z3r hl h1
        exact .inr ⟨k,rfl⟩
     have hrun:∀ m,(Instr.sliceBounds true xs.length cap lo' hi' mx').run P s.w = .ok (l,h',m) s.w →
       (Instr.sliceAt t (.slice o xs.length cap) lo' hi' mx').run P s.w = .ok (.slice (if m = l then o else o.map (·.add (l * sz))) (h' - l) (m - l)) s.w:=fun m hb => by
      rw [run_sliceAt_slice s.w t _ lo' hi' mx' (by rw [hel];exact hu'),run_slice_any s.w t o xs.length cap (by rw [hel];exact hu') lo' hi' mx',hb]
      simp only [Result.andThen_ok,hel,Z2H s.w hs,sliced]
     split at h
     ·cases h;have hmx:mx' = none:=by cases mx' with
       | none => rfl
       | some _ => exact h3.elim
      subst hmx;have hhi:(hi' = none∧h' = xs.length∧(none:Option Value) = none)∨∃ k,hi' = some (.int k (h':Int)):=by
       cases hi with
       | none => cases hi' with
        | none => simp at hh;exact .inl ⟨rfl,hh.symm,rfl⟩
        | some _ => exact h2.elim
       | some hi => cases hi' with
        | none => exact h2.elim
        | some hi' =>
         obtain ⟨k,rfl⟩:=Z3r hh h2
         exact .inr ⟨k,rfl⟩
      exact ⟨_,hrun cap (ZAy hlo hhi (.inl ⟨rfl,rfl⟩) c1 (by omega) (YB _) s.w),.v (sl_slice hf c1 c2 (by omega) (YB _) c3')⟩
     ·rename_i m
      by_cases hm:Z49 m = some h'∧hi.isSome = true
      ·rw [if_pos hm] at h;cases h;cases mx' with
       | none => exact h3.elim
       | some mx' =>
        obtain ⟨k,rfl⟩:=Z3r hm.1 h3
        cases hi with
        | none => exact absurd hm.2 (by simp)
        | some hi =>
         cases hi' with
         | none => exact h2.elim
         | some hi' =>
          obtain ⟨k2,rfl⟩:=Z3r hh h2
          refine ⟨_,hrun h' (ZAy hlo (.inr ⟨k2,rfl⟩) (.inr ⟨k,rfl⟩) c1 (YB _) (by omega) s.w),?_⟩
          have hfv:=sl_slice hf c1 c2 (YB _) (by omega) c3'
          have hlen:((xs.take h').drop l).length = h' - l:=by simp;omega
          rw [← hlen] at hfv ⊢;exact .full hfv
      ·rw [if_neg hm] at h;cases h
    ·rw [if_neg hc] at h;cases h
   ·cases h
 ·cases h
theorem view_ok {t:TypeId} {id len sz:Nat} {y:PV} {v:Value} {lo hi mx:Option PV} {lo' hi' mx':Option Value} (hx:PVR s (.buf id len sz) v) (h1:OptR s lo lo') (h2:OptR s hi hi') (h3:OptR s mx mx')
  (h:viewD P t id len sz lo hi mx = some y):∃ z,(Instr.sliceAt t v lo' hi' mx').run P s.w = .ok z s.w∧PVR s y z:=by
 unfold viewD at h
 split at h
 ·cases h
 ·have hmx:mx' = none:=by cases mx' with
   | none => rfl
   | some _ => exact h3.elim
  subst hmx
  split at h
  ·rename_i sz' l h' hsz hl hh
   by_cases hc:sz' = sz∧l < h'∧h'≤len
   ·rw [if_pos hc] at h;cases h;obtain ⟨rfl,c1,c2⟩:=hc
    simp only [Y4] at hsz;obtain ⟨et,hu,hs⟩:=hsz
    have hu':=Z1M hu
    have hel:P.elem t = et:=by simp [Program.elem,hu']
    cases hx with
    | buf hb hv ho hk =>
    obtain ⟨a,cap,rfl,hcap⟩:=ho
    have hlo:(lo' = none∧l = 0)∨∃ k,lo' = some (.int k (l:Int)):=by
     cases lo with
     | none => cases lo' with
      | none => simp at hl;exact .inl ⟨rfl,hl.symm⟩
      | some _ => exact h1.elim
     | some lo => cases lo' with
      | none => exact h1.elim
      | some lo' =>
       obtain ⟨k,rfl⟩:=Z3r hl h1
       exact .inr ⟨k,rfl⟩
    have hhi:(hi' = none∧h' = len∧(none:Option Value) = none)∨∃ k,hi' = some (.int k (h':Int)):=by
     cases hi with
     | none => cases hi' with
      | none => simp at hh;exact .inl ⟨rfl,hh.symm,rfl⟩
      | some _ => exact h2.elim
     | some hi => cases hi' with
      | none => exact h2.elim
      | some hi' =>
       obtain ⟨k,rfl⟩:=Z3r hh h2
       exact .inr ⟨k,rfl⟩
    have hrun:(Instr.sliceAt t (.slice (some a) len cap) lo' hi' none).run P s.w = .ok (.slice (some (a.add (l * sz'))) (h' - l) (cap - l)) s.w:=by
     rw [run_sliceAt_slice s.w t _ lo' hi' none (by rw [hel];exact hu'),run_slice_any s.w t (some a) len cap (by rw [hel];exact hu') lo' hi' none,ZAy hlo hhi (.inl ⟨rfl,rfl⟩) (Nat.le_of_lt c1) (by omega) (YB _) s.w]
     simp only [Result.andThen_ok,hel,Z2H s.w hs,sliced];rw [if_neg (by omega)]
     rfl
    refine ⟨_,hrun,.view hb hv ⟨_,_,rfl,by omega⟩ fun e => ?_⟩
    obtain ⟨cap',cs,el,fr,q1,_⟩:=hk e
    simp only [Value.slice.injEq,Y5] at q1;rw [q1.1];exact ⟨cap - l,by rw [Z46,Y0d]⟩
   ·rw [if_neg hc] at h;cases h
  ·cases h
end Go.Dn

namespace Go.Dn
open Go
variable {X:Ctx} {s:St} {n:Nat} {e:Env} {a:Act} {P:Program}
theorem ZBn {sz:Nat}:∀ {ys:List (List FV)},(∀ e ∈ ys,e.length = sz)→ys.flatten.length = ys.length * sz
 | [],_ => by simp
 | y :: ys,h => by
  simp only [Y0E,Ym,Yv];rw [h y (by simp),ZBn (fun e he => h e (by simp [he])),Yl]
  omega
theorem ZBm {sz:Nat}:∀ {ys:List (List FV)},(∀ e ∈ ys,e.length = sz)→∀ {k:Nat} {x:FV},ys.flatten[k]? = some x →
  ∃ i j e,k = i * sz + j∧j < sz∧ys[i]? = some e∧e[j]? = some x
 | [],_,k,x,h => by simp at h
 | y :: ys,hl,k,x,h => by
  simp only [Y0E] at h
  by_cases hk:k < y.length
  ·rw [YK hk] at h;exact ⟨0,k,y,by simp,by rw [← hl y (by simp)];exact hk,by simp,h⟩
  ·rw [YN (by omega)] at h
   obtain ⟨i,j,e,h1,h2,h3,h4⟩:=ZBm (fun e he => hl e (by simp [he])) h
   refine ⟨i + 1,j,e,?_,h2,by simpa using h3,h4⟩
   rw [hl y (by simp)] at h1 hk
   rw [Yl];omega
structure Brings (s:St) (sz:Nat) (ys:List PV) (n:Nat) (u:Value) (o:Option Addr) (c:Nat) (news:List Value):Prop where
 val:u = .slice o n c
 len:ys.length = n * sz
 nlen:news.length = n * sz
 rel:∀ (j:Nat) (x:PV),ys[j]? = some x→∃ z,news[j]? = some z∧PVR s x z∧z.oneCell' = true
 cell:n = 0∨∃ ad,o = some ad∧∀ (j:Nat) (z:Value),news[j]? = some z→s.w.cell? (ad.add j) = some z
theorem ZAb {sz n:Nat} {ys:List PV} {b off cap:Nat} (hl:ys.length = n * sz)
  (h:∀ (j:Nat) (x:PV),ys[j]? = some x→∃ z,s.w.cell? ⟨b,off + j,none⟩ = some z∧PVR s x z∧z.oneCell' = true) :
  ∃ o c news,Brings s sz ys n (.slice (some ⟨b,off,none⟩) n cap) o c news:=by
 let f:Nat→Value:=fun j => (s.w.cell? ⟨b,off + j,none⟩).getD Go.undef
 have hf:∀ j,j < ys.length→s.w.cell? ⟨b,off + j,none⟩ = some (f j):=fun j hj => by
  obtain ⟨z,hz,_⟩:=h j ys[j] (Y2 hj)
  simp [f,hz]
 refine ⟨_,cap,(List.range ys.length).map f,rfl,hl,by simp [hl],fun j x hj => ?_,.inr ⟨_,rfl,fun j z hz => ?_⟩⟩
 ·obtain ⟨z,hz,hp,ho⟩:=h j x hj
  have hlt:=(List.getElem?_eq_some_iff.1 hj).1
  exact ⟨f j,by simp [hlt],by simpa [f,hz] using hp,by simpa [f,hz] using ho⟩
 ·simp only [YP,Y1] at hz;obtain ⟨k,hk,rfl⟩:=hz
  obtain ⟨hlt,rfl⟩:=List.getElem?_eq_some_iff.1 hk
  simp only [List.getElem_range,Z46] at *
  exact hf _ (by simpa using hlt)
theorem ZAR (hi:Inv s) {sz:Nat} {y:PV} {u:Value} {r:List PV × Nat} (hy:PVR s y u) (h:Z4E s.σ sz y = some r) :
  ∃ o c news,Brings s sz r.1 r.2 u o c news:=by
 unfold Z4E at h
 have slc:∀ ys:List (List FV),PVR s (.v (.sl ys)) u→(∀ e ∈ ys,e.length = sz)→∃ o c news,Brings s sz (vs ys.flatten) ys.length u o c news:=by
  intro ys hy hl;cases hy with
  | v hy =>
   cases hy with
   | nil => exact ⟨none,0,[],rfl,by simp [vs],by simp,by simp [vs],.inl rfl⟩
   | empty a cap => exact ⟨some a,cap,[],rfl,by simp [vs],by simp,by simp [vs],.inr ⟨a,rfl,by simp⟩⟩
   | sl ys b off cap sz' vals himm hcap hsz hcell hval =>
    refine ZAb (by simp only [vs,YY,ZBn hl]) (fun k x hk => ?_)
    simp only [vs,YP,Y1] at hk;obtain ⟨z,hz,rfl⟩:=hk
    obtain ⟨i,j,e,rfl,h2,h3,h4⟩:=ZBm hl hz
    have hszz:sz' = sz:=by rw [← hsz e (Y6 h3),hl e (Y6 h3)]
    subst hszz;have hv:=hval i j e z h3 h4
    exact ⟨_,by rw [← hcell i j (List.getElem?_eq_some_iff.1 h3).1 h2];congr 2;omega,.v hv,hv.Z6B⟩
 split at h
 ·rename_i ys
  by_cases hc:(ys.all fun y => y.length == sz) = true
  ·rw [if_pos hc] at h;cases h;exact slc ys hy (by simpa using hc)
  ·rw [if_neg hc] at h;cases h
 ·rename_i ys
  by_cases hc:(ys.all fun y => y.length == sz) = true
  ·rw [if_pos hc] at h;cases h;exact slc ys (full_fvr hy) (by simpa using hc)
  ·rw [if_neg hc] at h;cases h
 ·cases h;have:=Z6d hy;subst_vars
  exact ⟨none,0,[],rfl,by simp,by simp,by simp,.inl rfl⟩
 ·rename_i id len sz'
  split at h
  ·rename_i el cells lv hb
   by_cases hc:sz' = sz∧cells.length = len * sz'
   ·rw [if_pos hc] at h;cases h;obtain ⟨rfl,hc⟩:=hc
    obtain ⟨cap,cs,el,fr,rfl,h2,h3,h4,h5⟩:=Z7Z hy (by simp [Heap.cur,hb,hc])
    refine ZAb hc fun j x hj => ?_
    have:=Z8X hi hb j x hj
    simpa using this
   ·rw [if_neg hc] at h;cases h
  ·cases h
 ·rename_i id tot l n sz'
  split at h
  ·rename_i el cells lv hb
   by_cases hc:sz' = sz∧cells.length = tot * sz'∧l + n≤tot
   ·rw [if_pos hc] at h;cases h;obtain ⟨rfl,hc,hle⟩:=hc
    obtain ⟨cap,rfl⟩:=view_inv hy (by simp [Heap.cur,hb,hc])
    have hm:(l + n) * sz'≤tot * sz':=YL _ hle
    rw [Yl] at hm;refine ZAb (by simp only [YS,List.length_drop,hc];omega) fun j x hj => ?_
    rw [YR] at hj
    split at hj
    ·rw [Ys] at hj;exact Z8X hi hb _ x hj
    ·cases hj
   ·rw [if_neg hc] at h;cases h
  ·cases h
 ·cases h
theorem tinfo_run {t:TypeId} {k b:Nat} (h1:tsize P t = some k) (h2:tbytes P t = some b):∃ i,P.info? t = some i∧i.size = k∧i.bytes = b:=by
 simp only [tsize,Y1] at h1
 obtain ⟨i,hi,rfl⟩:=h1
 simp only [tbytes,hi,Y8,Y5] at h2
 exact ⟨i,hi,rfl,h2⟩
theorem Z85 {t ty el:TypeId} {i:TypeInfo} (hu:P.underlying t = some (.slice el)) (hi:P.info? el = some i) (o o':Option Addr) (l c c':Nat) (hle:l≤c) (w:World)
  (ho:o' = none∨∃ ad,o' = some ad):(Builtin.append_ #[t,t] ty #[.slice o l c,.slice o' 0 c']).run P w = .ok (.slice o l c) w:=by
 have hf:(Builtin.firstCells i.size 0 (.slice o' 0 c')).run P w = .ok #[] w:=by
  rcases ho with rfl | ⟨ad,rfl⟩
  ·simp [Builtin.firstCells]
  ·simp [Builtin.firstCells,loadCells,loadCellsFrom]
 cases o with
 | none => simp [Builtin.append_,Z0m w hu,sizeOf,typeInfo,hi,Builtin.lenOf,hle,hf]
 | some ad => simp [Builtin.append_,Z0m w hu,sizeOf,typeInfo,hi,Builtin.lenOf,hle,hf,storeCells]
theorem Z9D {el:TypeId} {sz n m:Nat} {xs ys:List PV} {olds news:List Value} (hi:Inv s) {id0:Nat} (hid:s.σ.ent id0 = .none) (hnx:id0 < s.σ.nx)
  (hx:xs.length = n * sz) (hxo:olds.length = n * sz) (hxr:∀ (j:Nat) (x:PV),xs[j]? = some x→∃ z,olds[j]? = some z∧PVR s x z∧z.oneCell' = true)
  (hy:ys.length = m * sz) (hyn:news.length = m * sz) (hyr:∀ (j:Nat) (x:PV),ys[j]? = some x→∃ z,news[j]? = some z∧PVR s x z∧z.oneCell' = true)
  (z:Array Value) (hz:z.size = sz) (cap:Nat) (hcap:n + m≤cap) (hcm:cap≤maxLen) {w':World}
  (hw:w'.heap = s.w.heap.push (.cells (olds.toArray ++ news.toArray ++ Builtin.zeroCells z (cap - (n + m))) el)) (hos:w'.os = s.w.os) (ht:w'.tape = s.w.tape) (ho:w'.output = s.w.output) :
  Gives X s (.buf id0 (n + m) sz) (s.σ.put id0 (.blk el (xs ++ ys) true)) (.ok (.slice (some ⟨s.w.heap.size,0,none⟩) (n + m) cap) w'):=by
 have hl:(xs ++ ys).length = (n + m) * sz:=by simp [hx,hy,Yl]
 have hput:=Z3d hi hid hnx el (xs ++ ys) (olds.toArray ++ news.toArray ++ Builtin.zeroCells z (cap - (n + m))) w' hw hos ht ho (by simp [hx,hy,hxo,hyn]) (fun j x hj => by
  by_cases hlt:j < xs.length
  ·rw [YK hlt] at hj;obtain ⟨q,h1,h2,h3⟩:=hxr j x hj
   refine ⟨q,?_,h2,h3⟩;have hlo:=(List.getElem?_eq_some_iff.1 h1).1
   rw [Yy (by simp;omega),Yy (by simp;omega)]
   simpa using h1
  ·rw [YN (by omega)] at hj
   obtain ⟨q,h1,h2,h3⟩:=hyr _ x hj
   refine ⟨q,?_,h2,h3⟩;have hlo:=(List.getElem?_eq_some_iff.1 h1).1
   rw [Yy (by simp;omega),Array.getElem?_append_right (by simp;omega)]
   simp only [Y02,hxo,← hx]
   simpa using h1)
 refine ⟨_,_,_,rfl,hput.inv hi,hput.ev hi,?_⟩
 refine .buf ⟨el,xs ++ ys,true,by simp [Heap.put,ZH]⟩ (by simp only [Heap.ver,Heap.put,ZH];omega) ⟨_,_,rfl,hcap⟩ fun _ => ?_
 refine ⟨cap,_,el,(0,0),by simp [ZH],hcap,by simp only [ZH];exact hput.here,?_,hcm⟩
 have e:cap * sz = (n * sz + m * sz) + (cap - (n + m)) * sz:=by
  rw [← Yl,← Yl];congr 1;omega
 simp only [Y0v,Y02,size_zeroCells,hz,hxo,hyn,e]
theorem Z6E {k b:Nat} (h:k * b≤room) (hb:0 < b):k≤maxLen:=by
 have:=Y0j k hb
 simp only [room,maxLen] at *
 omega
theorem append_ok (hi:Inv s) {id0:Nat} (hid:s.σ.ent id0 = .none) (hnx:id0 < s.σ.nx) {t ty:TypeId} {x y z:PV} {v u:Value} {σ':Heap} (hx:PVR s x v) (hy:PVR s y u)
  (h:Z2E P s.σ id0 t x y = some (z,σ')):Gives X s z σ' ((Builtin.append_ #[t,t] ty #[v,u]).run P s.w):=by
 unfold Z2E at h
 split at h
 ·cases h
 ·rename_i el hel;have hu:=Z1M hel
  split at h
  ·rename_i sz by_ hsz hby;obtain ⟨i,hinfo,hisz,hiby⟩:=tinfo_run hsz hby
   split at h
   ·cases h
   ·rename_i ys m hbr;obtain ⟨o,c,news,B⟩:=ZAR hi hy hbr
    have hval:=B.val
    simp only at hval;subst hval;have ho':o = none∨∃ ad,o = some ad:=by cases o <;> simp
    by_cases hz0:(sz = 0∨by_ = 0∨(tzero P el).map List.length ≠ some sz)
    ·rw [if_pos hz0] at h;cases h
    ·rw [if_neg hz0] at h;simp only [not_or] at hz0;obtain ⟨hz1,hz2,hz3⟩:=hz0
     simp only [ne_eq,Decidable.not_not,Y1] at hz3;obtain ⟨zl,hzl,hzlen⟩:=hz3
     obtain ⟨i',zv,hi1,hi2,hi3⟩:=Z6I (s:=s) hzl
     rw [hinfo] at hi1;cases hi1
     split at h
     ·have:=Z6d hx;subst_vars
      by_cases hm:m = 0
      ·rw [if_pos hm] at h;cases h;subst hm;rw [Z85 hu hinfo none o 0 0 c (YB _) s.w ho'];exact .same hi .nils
      ·rw [if_neg hm] at h
       by_cases hr:m * i.bytes≤room
       ·rw [if_pos hr] at h;cases h
        rcases B.cell with h0 | ⟨ad,rfl,hcell⟩
        ·exact absurd h0 hm
        have hml:=Z6E hr (by omega)
        have hrun:=run_append_nil (P:=P) s.w t ty el i zv hu hinfo hi2 ad m c news B.nlen hcell (by omega) (by simp only [maxLen] at hml;omega) (by simp only [room] at hr;omega)
        rw [hrun];have:=Z9D (X:=X) (el:=el) (sz:=i.size) (n:=0) (m:=m) (xs:=[]) (ys:=ys) (olds:=[]) (news:=news) hi hid hnx (by simp) (by simp) (by simp) B.len B.nlen B.rel
         zv.cells (by have:=hi3.1;omega) (grownCap s.w m 0 el) (by have:=grownCap_ge s.w m 0 el;omega) (grownCap_le_maxLen _ _ _ _ hml) (w':=s.w.drew.alloc (.cells (news.toArray ++ Builtin.zeroCells zv.cells (grownCap s.w m 0 el - m)) el)) (by simp only [Y16,Y0d];rfl) rfl rfl rfl
        simpa using this
       ·rw [if_neg hr] at h;cases h
     ·rename_i xs
      by_cases hm:m = 0
      ·rw [if_pos hm] at h;cases h
      ·rw [if_neg hm] at h
       by_cases hr:(xs.length + m) * by_≤room∧(xs.all fun y => y.length == sz) = true
       ·rw [if_pos hr] at h;cases h;obtain ⟨hr,hall⟩:=hr
        have hall:∀ e ∈ xs,e.length = sz:=by simpa using hall
        rcases B.cell with h0 | ⟨ad,rfl,hcell⟩
        ·exact absurd h0 hm
        have hml:=Z6E hr (by omega)
        have hxb:=ZAR (sz:=sz) (r:=(vs xs.flatten,xs.length)) hi (full_fvr hx) (by simp only [Z4E];rw [if_pos (by simpa using hall)])
        obtain ⟨o2,c2,olds,B2⟩:=hxb
        cases hx with
        | @full _ o hfv =>
         have hv2:=B2.val
         simp only [Value.slice.injEq] at hv2;obtain ⟨ho2,_,hc2⟩:=hv2
         subst ho2 hc2;subst hisz hiby;cases o with
         | none =>
          have hxs:xs = []:=by
           generalize hv:Value.slice none xs.length xs.length = v at hfv;cases hfv with
           | nil => rfl
           | empty => simp at hv
           | sl => simp at hv
          subst hxs;have hrun:=run_append_nil (P:=P) s.w t ty el i zv hu hinfo hi2 ad m c news B.nlen hcell (by omega) (by simp only [maxLen] at hml;simp at hml;omega) (by simp only [room] at hr;simp at hr;omega)
          simp only [Yt];rw [hrun];have:=Z9D (X:=X) (el:=el) (sz:=i.size) (n:=0) (m:=m) (xs:=[]) (ys:=ys) (olds:=[]) (news:=news) hi hid hnx (by simp) (by simp) (by simp) B.len B.nlen B.rel
           zv.cells (by have:=hi3.1;omega) (grownCap s.w m 0 el) (by have:=grownCap_ge s.w m 0 el;omega) (grownCap_le_maxLen _ _ _ _ (by simpa using hml)) (w':=s.w.drew.alloc (.cells (news.toArray ++ Builtin.zeroCells zv.cells (grownCap s.w m 0 el - m)) el)) (by simp only [Y16,Y0d];rfl) rfl rfl rfl
          simpa [vs] using this
         | some ax =>
          have hcell2:∀ (j:Nat) (z:Value),olds[j]? = some z→s.w.cell? (ax.add j) = some z:=by
           rcases B2.cell with h0 | ⟨ad2,had,hc⟩
           ·intro j z hz;have:=B2.nlen
            simp only at h0;rw [h0] at this;simp at this;subst this;simp at hz
           ·cases had;exact hc
          have hrun:=run_append_grow (P:=P) s.w t ty el i zv hu hinfo hi2 ax xs.length xs.length olds B2.nlen hcell2 ad m c news B.nlen hcell (by omega) (by simp only [maxLen] at hml;omega)
           (growslice_fits (by omega) (by simp only [room] at hr;omega))
          rw [hrun];exact Z9D (X:=X) (el:=el) (sz:=i.size) (n:=xs.length) (m:=m) (olds:=olds) (news:=news) hi hid hnx B2.len B2.nlen B2.rel B.len B.nlen B.rel
           zv.cells (by have:=hi3.1;omega) (grownCap s.w (xs.length + m) xs.length el) (grownCap_ge _ _ _ _) (grownCap_le_maxLen _ _ _ _ hml) rfl rfl rfl rfl
       ·rw [if_neg hr] at h;cases h
     ·rename_i id len sz'
      split at h
      ·rename_i el' cells hb
       by_cases hr:sz' = sz∧el' = el∧cells.length = len * sz∧(len + m) * by_≤room
       ·rw [if_pos hr] at h;cases h;obtain ⟨rfl,rfl,hcl,hr⟩:=hr
        have hml:=Z6E hr (by omega)
        obtain ⟨cap,cs,el2,fr,hv,h2,h3,h4,h5⟩:=Z7Z hx (by simp [Heap.cur,hb,hcl])
        subst hv;obtain ⟨cs',hcs',hcl'⟩:=ZAK hi hb
        rw [hcs'] at h3;simp only [Y5,Obj.cells.injEq] at h3;obtain ⟨rfl,rfl,rfl⟩:=h3
        have hrel:∀ (j:Nat) (x:PV),cells[j]? = some x→∃ z,(cs'.toList.take (len * sz'))[j]? = some z∧PVR s x z∧z.oneCell' = true:=fun j x hj => by
         have he:=hi.ent id
         rw [hb] at he;obtain ⟨cs0,fr0,q1,q2,_,q4⟩:=he
         rw [hcs'] at q1;simp only [Y5,Obj.cells.injEq] at q1;obtain ⟨rfl,_,_⟩:=q1
         obtain ⟨z,z1,z2,z3⟩:=q4 j x hj
         have hlt:=(List.getElem?_eq_some_iff.1 hj).1
         exact ⟨z,by rw [YR,if_pos (by omega)];simpa using z1,z2,z3⟩
        by_cases hroom:len + m≤cap
        ·by_cases hm:m = 0
         ·subst hm;rw [Z85 hu hinfo (some _) o len cap c (by omega) s.w ho']
          have hy0:ys = []:=Y0R (by have:=B.len;simpa using this)
          subst hy0;have hsame:s.σ.put id (.blk el' (cells ++ []) true) = s.σ:=by
           have:upd s.σ.ent id (.blk el' (cells ++ []) true) = s.σ.ent:=by
            funext k
            by_cases hk:k = id
            ·subst hk;simp [ZH,hb]
            ·simp [ZQ _ _ hk]
           simp only [Heap.put,this]
          rw [hsame];exact .same hi (by simpa using hx)
         ·rcases B.cell with h0 | ⟨ad,rfl,hcell⟩
          ·exact absurd h0 hm
          subst hisz hiby;have hone:∀ z ∈ news,z.oneCell' = true:=fun z hz => by
           obtain ⟨j,hj,rfl⟩:=Yj hz
           have hj':j < ys.length:=by rw [B.len];have:=B.nlen;omega
           obtain ⟨q,q1,_,q3⟩:=B.rel j ys[j] (Y2 hj')
           rw [Y2 hj] at q1;cases q1;exact q3
          have hfit:len * i.size + news.length≤cs'.size:=by rw [B.nlen,h4,← Yl];exact YL _ hroom
          rw [run_append_room (P:=P) s.w t ty el' i hu hinfo (s.ι id) len cap cs' hcs' ad m c news B.nlen hcell hone hroom hfit]
          have hsz:(cs'.toList.take (len * i.size) ++ news ++ cs'.toList.drop (len * i.size + news.length)).toArray.size = cs'.size:=by simp;omega
          have hyl:ys.length = m * i.size:=B.len
          have hnl:news.length = m * i.size:=B.nlen
          have hput:Put s id el' (cells ++ ys) (s.ι id) (s.w.setRow (s.ι id) (cs'.toList.take (len * i.size) ++ news ++ cs'.toList.drop (len * i.size + news.length)).toArray)
            (cs'.toList.take (len * i.size) ++ news ++ cs'.toList.drop (len * i.size + news.length)).toArray:=by
           refine ⟨.inr ⟨cells,hb,by simp,fun _ => rfl⟩,.inr ⟨rfl,⟨cells,hb⟩,fun cs e fr hc => ?_⟩,by simp,fun b _ hne => setRow_other _ _ _ _ hne,
            setRow_heap _ _ _ _ _ _ hcs',by rw [hsz];simp;omega,fun j x hj => ?_,nx_of hi (by rw [hb];simp),rfl,rfl,rfl⟩
           ·rw [hcs'] at hc;cases hc;exact hsz
           ·rw [Z7x _ _ _ hfit]
            by_cases hlt:j < cells.length
            ·rw [YK hlt] at hj;rw [if_pos (by omega)]
             obtain ⟨z,z1,z2,z3⟩:=hrel j x hj
             rw [YR,if_pos (by omega)] at z1
             exact ⟨z,by simpa using z1,z2,z3⟩
            ·rw [YN (by omega)] at hj
             have:=(List.getElem?_eq_some_iff.1 hj).1
             rw [if_neg (by omega),if_pos (by omega),← hcl]
             exact B.rel _ x hj
          refine ⟨_,_,_,rfl,hput.inv hi,hput.ev hi,?_⟩;refine .buf ⟨el',cells ++ ys,true,by simp [Heap.put,ZH]⟩ (by simp only [Heap.ver,Heap.put,ZH,Ym,hcl,B.len,← Yl];exact YB _) ⟨_,_,rfl,hroom⟩ fun _ => ?_
          exact ⟨cap,_,el',(0,0),by simp [ZH],hroom,by simp only [ZH];exact hput.here,by rw [hsz];exact h4,h5⟩
        ·rcases B.cell with h0 | ⟨ad,rfl,hcell⟩
         ·simp only at h0;omega
         subst hisz hiby;have holds:∀ (j:Nat) (z:Value),(cs'.toList.take (len * i.size))[j]? = some z→s.w.cell? ((⟨s.ι id,0,none⟩ : Addr).add j) = some z:=fun j z hz => by
          rw [Z46];rw [YR] at hz
          split at hz
          ·simp only [World.cell?,Y0d,hcs']
           simpa using hz
          ·cases hz
         have hol:(cs'.toList.take (len * i.size)).length = len * i.size:=by
          have:len * i.size≤cap * i.size:=YL _ h2
          simp;omega
         have hrun:=run_append_grow (P:=P) s.w t ty el' i zv hu hinfo hi2 ⟨s.ι id,0,none⟩ len cap (cs'.toList.take (len * i.size)) hol holds ad m c news B.nlen hcell (by omega) (by simp only [maxLen] at hml;omega)
          (growslice_fits (by omega) (by simp only [room] at hr;omega))
         rw [hrun];have hyl:ys.length = m * i.size:=B.len
         have hnl:news.length = m * i.size:=B.nlen
         have hcm:=grownCap_le_maxLen s.w (len + m) cap el' hml
         have hge:=grownCap_ge s.w (len + m) cap el'
         have hm0:0 < m:=by omega
         have hput:Put s id el' (cells ++ ys) s.w.heap.size (s.w.drew.alloc (.cells ((cs'.toList.take (len * i.size)).toArray ++ news.toArray ++ Builtin.zeroCells zv.cells (grownCap s.w (len + m) cap el' - (len + m))) el'))
           ((cs'.toList.take (len * i.size)).toArray ++ news.toArray ++ Builtin.zeroCells zv.cells (grownCap s.w (len + m) cap el' - (len + m))):=by
          refine ⟨.inr ⟨cells,hb,by simp,fun heq => ?_⟩,.inl (YB _),by simp,fun b hb' _ => heap_alloc_old s.w.drew _ b hb',heap_alloc_new s.w.drew _,?_,fun j x hj => ?_,nx_of hi (by rw [hb];simp),rfl,rfl,rfl⟩
          ·simp only [Ym] at heq;have:m * i.size ≠ 0:=by
            intro h0
            rcases Nat.mul_eq_zero.1 h0 with h | h <;> omega
           omega
          ·simp only [Y0v,Y02,Ym];omega
          ·by_cases hlt:j < cells.length
           ·rw [YK hlt] at hj;obtain ⟨z,z1,z2,z3⟩:=hrel j x hj
            refine ⟨z,?_,z2,z3⟩;rw [Yy (by simp only [Y0v,Y02];omega),Yy (by simp only [Y02];omega)]
            simpa using z1
           ·rw [YN (by omega)] at hj
            obtain ⟨z,z1,z2,z3⟩:=B.rel _ x hj
            refine ⟨z,?_,z2,z3⟩;have:=(List.getElem?_eq_some_iff.1 z1).1
            rw [Yy (by simp only [Y0v,Y02];omega),Array.getElem?_append_right (by simp only [Y02];omega)]
            rw [Y02,hol,← hcl]
            simpa using z1
         refine ⟨_,_,_,rfl,hput.inv hi,hput.ev hi,?_⟩;refine .buf ⟨el',cells ++ ys,true,by simp [Heap.put,ZH]⟩ (by simp only [Heap.ver,Heap.put,ZH,Ym,hcl,B.len,← Yl];exact YB _) ⟨_,_,rfl,hge⟩ fun _ => ?_
         refine ⟨grownCap s.w (len + m) cap el',_,el',(0,0),by simp [ZH],hge,by simp only [ZH];exact hput.here,?_,hcm⟩
         have e:grownCap s.w (len + m) cap el' * i.size = (len * i.size + m * i.size) + (grownCap s.w (len + m) cap el' - (len + m)) * i.size:=by
          rw [← Yl,← Yl];congr 1;omega
         have hzc:zv.cells.size = i.size:=by have:=hi3.1;omega
         simp only [Y0v,Y02,size_zeroCells,hzc,hol,hnl,e]
       ·rw [if_neg hr] at h;cases h
      ·cases h
     ·cases h
  ·cases h
end Go.Dn

namespace Go.Dn
open Go Go.MapKept
structure MPut (s:St) (id:Nat) (kv:List (Int × Int)) (g:Nat) (w':World):Prop where
 old:(s.σ.ent id = .none∧s.w.heap.size≤g)∨((∃ kv0,s.σ.ent id = .map kv0)∧g = s.ι id)
 size:s.w.heap.size≤w'.heap.size
 others:∀ b,b < s.w.heap.size→b ≠ g→w'.heap[b]? = s.w.heap[b]?
 here:w'.heap[g]? = some (mobj kv)
 nx:id < s.σ.nx
 os:w'.os = s.w.os
 tape:w'.tape = s.w.tape
 output:w'.output = s.w.output
def St.mput (s:St) (id:Nat) (kv:List (Int × Int)) (g:Nat) (w':World):St:=⟨w',s.Y,s.σ.put id (.map kv),upd s.ι id g⟩
section
variable {s:St} {id:Nat} {kv:List (Int × Int)} {g:Nat} {w':World}
theorem MPut.ne (hi:Inv s) (h:MPut s id kv g w') {id':Nat} (hne:id' ≠ id) (hl:Live s.σ id'):s.ι id' ≠ g:=by
 intro e
 rcases h.old with ⟨_,hp⟩ | ⟨⟨k0,ho⟩,hp⟩
 ·have:=hl.lt hi;omega
 ·exact hne (hi.inj id' id hl (.inr (.inr ⟨_,ho⟩)) (e.trans hp))
theorem MPut.blk_ne (hi:Inv s) (h:MPut s id kv g w') {b:Nat} {cs:Array Value} {el:TypeId} {fr:Nat × Nat} (hb:s.w.heap[b]? = some (.cells cs el fr)):b ≠ g:=by
 intro hg
 subst hg
 rcases h.old with ⟨_,hp⟩ | ⟨⟨k0,ho⟩,hp⟩
 ·have:=(Array.getElem?_eq_some_iff.1 hb).1;omega
 ·have q:=hi.ent id
  rw [ho] at q;have q:s.w.heap[s.ι id]? = some (mobj k0):=q
  rw [← hp,hb] at q;cases q
theorem MPut.ev (hi:Inv s) (h:MPut s id kv g w'):Ev s (s.mput id kv g w') where
 Y:=rfl
 size:=h.size
 keep:=fun b hb hl => by
  refine h.others b hb fun e => ?_
  rcases h.old with ⟨_,hp⟩ | ⟨⟨k0,ho⟩,hp⟩
  ·omega
  ·exact hl id (.inr (.inr ⟨_,ho⟩)) (by rw [e,hp])
 live:=fun id' hid hlt => by
  by_cases e:id' = id
  ·subst e;simp only [St.mput,ZH] at hlt ⊢
   rcases h.old with ⟨_,hp⟩ | ⟨⟨k0,ho⟩,hp⟩
   ·omega
   ·exact ⟨id',.inr (.inr ⟨_,ho⟩),hp.symm⟩
  ·simp only [St.mput,ZQ _ _ e] at hlt ⊢;exact ⟨id',(Z0u e).1 hid,rfl⟩
 blk:=fun id' el' cells lv hb => by
  have e:id' ≠ id:=by
   rintro rfl
   rcases h.old with ⟨ho,_⟩ | ⟨⟨k0,ho⟩,_⟩ <;> rw [ho] at hb <;> cases hb
  refine ⟨cells,lv,by simp [St.mput,Heap.put,ZQ _ _ e,hb],YB _,fun _ => ⟨by simp [St.mput,ZQ _ _ e],fun cs e' fr hcs => ?_⟩⟩
  refine ⟨cs,fr,?_,rfl⟩;rw [← hcs];exact h.others _ (Array.getElem?_eq_some_iff.1 hcs).1 (h.blk_ne hi hcs)
 loop:=fun id' fn' e1 n' ps' as' bo' st' pend' hl => by
  have e':id' ≠ id:=by
   rintro rfl
   rcases h.old with ⟨ho,_⟩ | ⟨⟨k0,ho⟩,hp⟩ <;> rw [ho] at hl <;> cases hl
  exact ⟨⟨st',pend',by simp [St.mput,Heap.put,ZQ _ _ e',hl]⟩,by simp [St.mput,ZQ _ _ e']⟩
 map:=fun id' kv' hl => by
  by_cases e':id' = id
  ·subst e'
   rcases h.old with ⟨ho,_⟩ | ⟨⟨k0,ho⟩,hp⟩
   ·rw [ho] at hl;cases hl
   ·exact ⟨⟨kv,by simp [St.mput,Heap.put,ZH]⟩,by simp [St.mput,ZH,hp]⟩
  ·exact ⟨⟨kv',by simp [St.mput,Heap.put,ZQ _ _ e',hl]⟩,by simp [St.mput,ZQ _ _ e']⟩
 os:=h.os
 tape:=h.tape
 output:=h.output
theorem MPut.inv (hi:Inv s) (h:MPut s id kv g w'):Inv (s.mput id kv g w'):=by
 have hev:=h.ev hi
 have hsame:(s.mput id kv g w').σ.ent id = .map kv:=by simp [St.mput,Heap.put,ZH]
 refine ⟨fun id' => ?_,fun id1 id2 h1 h2 he => ?_,fun id' hl => ?_,fun id' el' c hb => ?_,fun id' hn => ?_,fun b hb => YU (hi.Ylt b hb) h.size⟩
 ·by_cases e1:id' = id
  ·subst e1;rw [hsame]
   show w'.heap[_]? = _
   simp only [St.mput,ZH];exact h.here
  ·have h1:(s.mput id kv g w').σ.ent id' = s.σ.ent id':=by simp [St.mput,Heap.put,ZQ _ _ e1]
   have h2:(s.mput id kv g w').ι id' = s.ι id':=by simp [St.mput,ZQ _ _ e1]
   rw [h1];have he:=hi.ent id'
   cases hent:s.σ.ent id' with
   | none => trivial
   | blk el' c lv =>
    rw [hent] at he;obtain ⟨cs,fr,q1,q2,q3,q4⟩:=he
    refine ⟨cs,fr,?_,q2,q3,fun j x hj => ?_⟩
    ·rw [h2,← q1];exact h.others _ (Array.getElem?_eq_some_iff.1 q1).1 (h.blk_ne hi q1)
    ·obtain ⟨u,hu,hp,ho⟩:=q4 j x hj
     exact ⟨u,hu,hev.pvr hp,ho⟩
   | loop fn' e' n' ps' as' bo' st' pend' =>
    rw [hent] at he;obtain ⟨fn2,tmps,defers,q1,q2,q3⟩:=he
    refine ⟨fn2,tmps,defers,?_,q2,fun t => hev.pvr (q3 t)⟩
    rw [h2,← q1];exact h.others _ (Array.getElem?_eq_some_iff.1 q1).1 (h.ne hi e1 (.inr (.inl ⟨_,_,_,_,_,_,_,_,hent⟩)))
   | map kv' =>
    rw [hent] at he
    show w'.heap[_]? = _
    rw [h2,← he];exact h.others _ (Array.getElem?_eq_some_iff.1 he).1 (h.ne hi e1 (.inr (.inr ⟨_,hent⟩)))
 ·by_cases e1:id1 = id <;> by_cases e2:id2 = id
  ·rw [e1,e2]
  ·subst e1;simp only [St.mput,ZH,ZQ _ _ e2] at he;exact absurd he.symm (h.ne hi e2 ((Z0u e2).1 h2))
  ·subst e2;simp only [St.mput,ZH,ZQ _ _ e1] at he;exact absurd he (h.ne hi e1 ((Z0u e1).1 h1))
  ·simp only [St.mput,ZQ _ _ e1,ZQ _ _ e2] at he;exact hi.inj id1 id2 ((Z0u e1).1 h1) ((Z0u e2).1 h2) he
 ·by_cases e1:id' = id
  ·subst e1;simp only [St.mput,ZH];intro hy
   rcases h.old with ⟨_,hp⟩ | ⟨⟨k0,ho⟩,hp⟩
   ·have:=hi.Ylt _ hy;omega
   ·rw [hp] at hy;exact hi.notY id' (.inr (.inr ⟨_,ho⟩)) hy
  ·simp only [St.mput,ZQ _ _ e1];exact hi.notY id' ((Z0u e1).1 hl)
 ·by_cases e1:id' = id
  ·subst e1;rw [hsame] at hb;cases hb
  ·have hb':s.σ.ent id' = .blk el' c false:=by simpa [St.mput,Heap.put,ZQ _ _ e1] using hb
   have:(s.mput id kv g w').ι id' = s.ι id':=by simp [St.mput,ZQ _ _ e1]
   rw [this];exact (hev.imm _ (hi.fz id' el' c hb')).1
 ·have hne:id' ≠ id:=by
   intro e;subst e;have:=h.nx
   simp only [St.mput,Heap.put] at hn;omega
  simp only [St.mput,Heap.put,ZQ _ _ hne];exact hi.nx id' hn
end
theorem ZBC {P:Program} {t:TypeId} (h:tmap P t = true):∃ k e i,P.underlying t = some (.map k e)∧P.underlying k = some (.int .i64)∧P.info? e = some i∧i.zero = some (.int .i64 0):=by
 unfold tmap at h
 split at h
 ·rename_i k e hu
  split at h
  ·rename_i hk hz;rw [Y4] at hz;obtain ⟨i,hi,hz⟩:=hz
   exact ⟨k,e,i,hu,hk,hi,hz⟩
  ·cases h
 ·cases h
theorem Z8a (a:Int):∀ (kv:List (Int × Int)) (i j:Nat),Instr.findNow (.int .i64) (.int .i64 a) (mlist kv j) i = some ((mfind a kv i).map fun r => (r.1,Value.int .i64 r.2))
 | [],_,_ => rfl
 | p :: l,i,j => by
  have e:mlist (p :: l) j = { key:=.int .i64 p.1,val:=.int .i64 p.2,born:=j } :: mlist l (j + 1):=rfl
  rw [e];simp only [Instr.findNow,Instr.sameNow,if_true,mfind];cases h:a == p.1 with
  | true => simp
  | false => simpa using Z8a a l (i + 1) (j + 1)
theorem Z9h (a:Int):∀ (kv:List (Int × Int)) (i:Nat) (r:Nat × Int),mfind a kv i = some r→i≤r.1∧kv[r.1 - i]? = some (a,r.2)
 | [],_,_,h => by cases h
 | p :: l,i,r,h => by
  simp only [mfind] at h
  split at h
  ·rename_i he;cases h;have:=eq_of_beq he
   subst this
   simp
  ·obtain ⟨h1,h2⟩:=Z9h a l (i + 1) r h
   refine ⟨by omega,?_⟩
   have:r.1 - i = (r.1 - (i + 1)) + 1:=by omega
   rw [this]
   simpa using h2
theorem Z5S (kv:List (Int × Int)) (j i:Nat):(mlist kv j)[i]? = (kv[i]?).map fun p => { key:=.int .i64 p.1,val:=.int .i64 p.2,born:=j + i }:=by
 simp only [mlist,YP,List.getElem?_zipIdx,Option.map_map]
 rfl
theorem Z3t (a:Int):IsKey (.int .i64) (.int .i64 a):=by simp [IsKey]
section
variable {X:Ctx} {P:Program} {s:St} {t:TypeId}
theorem mp_inv {id:Nat} {v:Value} (h:PVR s (.mp id) v):v = .map (some (s.ι id)):=by cases h with | mp _ => rfl
theorem Z8c {a:Int} {v:Value} (h:PVR s (.v (.int .i64 a)) v):v = .int .i64 a:=by cases h with | v h => cases h with | int _ _ => rfl
theorem ZA2 (hi:Inv s) {id:Nat} {kv:List (Int × Int)} (h:s.σ.ent id = .map kv):s.w.heap[s.ι id]? = some (.map (mlist kv 0).toArray kv.length):=by
 have:=hi.ent id
 rw [h] at this
 exact this
theorem makeMap_gives (hi:Inv s) {id0:Nat} (hid:s.σ.ent id0 = .none) (hnx:id0 < s.σ.nx):Gives X s (.mp id0) (s.σ.put id0 (.map [])) ((Instr.makeMap t none).run P s.w):=by
 have hp:MPut s id0 [] s.w.heap.size (s.w.alloc (.map #[] 0)) :=
  ⟨.inl ⟨hid,YB _⟩,by show s.w.heap.size≤(s.w.heap.push _).size;simp,fun b hb _ => (heap_alloc s.w _).2 b hb,(heap_alloc s.w _).1,hnx,rfl,rfl,rfl⟩
 refine ⟨_,.map (some s.w.heap.size),s.w.alloc (.map #[] 0),?_,hp.inv hi,hp.ev hi,?_⟩
 ·simp [Instr.makeMap,Result.andThen]
 ·have:PVR (s.mput id0 [] s.w.heap.size (s.w.alloc (.map #[] 0))) (.mp id0) (.map (some ((s.mput id0 [] s.w.heap.size (s.w.alloc (.map #[] 0))).ι id0))):=.mp ⟨[],by simp [St.mput,Heap.put,ZH]⟩
  simpa [St.mput,ZH] using this
theorem lookup_ok (hi:Inv s) {x k y:PV} {vx vk:Value} (hx:PVR s x vx) (hk:PVR s k vk) (h:mgetD P s.σ t x k = some y):∃ v,(Instr.lookup t vx vk false).run P s.w = .ok v s.w∧PVR s y v:=by
 unfold mgetD at h
 split at h
 ·rename_i id a
  split at h
  ·rename_i ht;obtain ⟨kt,et,i,u1,u2,u3,u4⟩:=ZBC ht
   split at h
   ·rename_i kv hen;cases h;rw [mp_inv hx,Z8c hk];have hb:=ZA2 hi hen
    have hf:=Z8a a kv 0 0
    refine ⟨.int .i64 (mget kv a),?_,.v (.int _ _)⟩;cases hm:mfind a kv 0 with
    | none =>
     rw [hm] at hf;simp [Instr.lookup,run_underlying u1,run_getObj_map hb,run_checkKey u2 (Z3t a),run_findKey u2 hf,Result.andThen,zeroValue,info_of s.w u3,u4,mget,hm]
    | some r =>
     rw [hm] at hf;simp [Instr.lookup,run_underlying u1,run_getObj_map hb,run_checkKey u2 (Z3t a),run_findKey u2 hf,Result.andThen,mget,hm]
   ·cases h
  ·cases h
 ·cases h
theorem ZAZ (hi:Inv s) {id:Nat} {kv kv':List (Int × Int)} (hen:s.σ.ent id = .map kv):MPut s id kv' (s.ι id) { s.w with heap:=s.w.heap.setIfInBounds (s.ι id) (mobj kv') }:=by
 have hb:=ZA2 hi hen
 refine ⟨.inr ⟨⟨kv,hen⟩,rfl⟩,by simp,fun b hb' hne => (heap_set hb).2 b hne,(heap_set hb).1,?_,rfl,rfl,rfl⟩
 rcases YI id s.σ.nx with h | h
 ·exact h
 ·have:=hi.nx id h;rw [hen] at this;cases this
theorem ZC6 (hi:Inv s) {x k y:PV} {σ':Heap} {vx vk:Value} (hx:PVR s x vx) (hk:PVR s k vk) (h:ZA7 P s.σ t x k = some (y,σ')):Gives X s y σ' ((Instr.mapEntry t vx vk).run P s.w):=by
 unfold ZA7 at h
 split at h
 ·rename_i id a
  split at h
  ·rename_i ht;obtain ⟨kt,et,i,u1,u2,u3,u4⟩:=ZBC ht
   split at h
   ·rename_i kv hen;rw [mp_inv hx,Z8c hk];have hb:=ZA2 hi hen
    have hf:=Z8a a kv 0 0
    split at h
    ·rename_i r hm;cases h;rw [hm] at hf;obtain ⟨_,h2⟩:=Z9h a kv 0 r hm
     rw [Nat.sub_zero] at h2;have hj:(mlist kv 0).toArray[r.1]? = some { key:=.int .i64 a,val:=.int .i64 r.2,born:=r.1 }:=by
      rw [Y0M,Z5S,h2];simp
     have hp:=ZAZ (kv':=kv) hi hen
     have hmod:(mlist kv 0).toArray.modify r.1 (fun e => { e with key:=Value.int .i64 a }) = (mlist kv 0).toArray:=by
      apply Array.ext';rw [Array.toList_modify];apply Y0e;intro q;rw [List.getElem?_modify]
      by_cases hq:r.1 = q
      ·subst hq;have hj':(mlist kv 0)[r.1]? = some { key:=.int .i64 a,val:=.int .i64 r.2,born:=r.1 }:=by simpa using hj
       simp [hj']
      ·simp [hq]
     refine ⟨_,.tuple #[.int .i64 r.2,goInt r.1],_,?_,hp.inv hi,hp.ev hi,?_⟩
     ·have hf:Instr.findNow (.int .i64) (.int .i64 a) (mlist kv 0).toArray.toList 0 = some (some (r.1,.int .i64 r.2)):=hf
      have hm2:mobj kv = .map (mlist kv 0).toArray kv.length:=rfl
      rw [hm2];generalize (mlist kv 0).toArray = es at hb hj hmod hf;simp [Instr.mapEntry,run_underlying u1,run_getObj_map hb,run_checkKey u2 (Z3t a),run_findKey u2 hf,hj,run_keyThatStays (Z3t a),run_setObj_map _ hb,Result.andThen,hmod]
     ·refine .tup rfl fun q z hq => ?_
      match q,hq with
      | 0,hq => cases hq;exact .v (.int _ _)
      | 1,hq => cases hq;exact .v (.int _ _)
    ·rename_i hm;cases h;rw [hm] at hf;have hp:=ZAZ (kv':=kv ++ [(a,0)]) hi hen
     have hpush:Obj.map ((mlist kv 0).toArray.push { key:=.int .i64 a,val:=.int .i64 0,born:=kv.length }) (kv.length + 1) = mobj (kv ++ [(a,0)]):=by
      have e1:mlist (kv ++ [(a,0)]) 0 = mlist kv 0 ++ [{ key:=.int .i64 a,val:=.int .i64 0,born:=kv.length }]:=by
       simp [mlist,List.zipIdx_append]
      unfold mobj;rw [e1]
      simp
     refine ⟨_,.tuple #[.int .i64 0,goInt kv.length],_,?_,hp.inv hi,hp.ev hi,?_⟩
     ·simp [Instr.mapEntry,run_underlying u1,run_getObj_map hb,run_checkKey u2 (Z3t a),run_findKey u2 hf,zeroValue,info_of s.w u3,u4,run_setObj_map _ hb,Result.andThen,← hpush]
     ·refine .tup rfl fun q z hq => ?_
      match q,hq with
      | 0,hq => cases hq;exact .v (.int _ _)
      | 1,hq => cases hq;exact .v (.int _ _)
   ·cases h
  ·cases h
 ·cases h
theorem mapUpdate_ok (hi:Inv s) {x k b:PV} {σ':Heap} {vx vk vb:Value} (hx:PVR s x vx) (hk:PVR s k vk) (hb':PVR s b vb) (h:mupdD P s.σ t x k b = some σ') :
  ∃ ι' w',(Instr.mapUpdate t vx vk vb).run P s.w = .ok () w'∧Inv ⟨w',s.Y,σ',ι'⟩∧Ev s ⟨w',s.Y,σ',ι'⟩:=by
 unfold mupdD at h
 split at h
 ·rename_i id a b
  split at h
  ·rename_i ht;obtain ⟨kt,et,i,u1,u2,u3,u4⟩:=ZBC ht
   split at h
   ·rename_i kv hen;cases h;rw [mp_inv hx,Z8c hk,Z8c hb'];have hb:=ZA2 hi hen
    have hf:=Z8a a kv 0 0
    have hp:=ZAZ (kv':=mput kv a b) hi hen
    refine ⟨_,_,?_,hp.inv hi,hp.ev hi⟩;cases hm:mfind a kv 0 with
    | some r =>
     rw [hm] at hf;obtain ⟨_,h2⟩:=Z9h a kv 0 r hm
     rw [Nat.sub_zero] at h2;have hj:(mlist kv 0).toArray[r.1]? = some { key:=.int .i64 a,val:=.int .i64 r.2,born:=r.1 }:=by
      rw [Y0M,Z5S,h2];simp
     have hmod:Obj.map ((mlist kv 0).toArray.modify r.1 (fun e => { e with key:=Value.int .i64 a,val:=Value.int .i64 b })) kv.length = mobj (mput kv a b):=by
      unfold mobj mput;rw [hm];simp only [mset,List.length_set]
      congr 1
      apply Array.ext';rw [Array.toList_modify];apply Y0e;intro q;rw [List.getElem?_modify,Z5S,Z5S,Y0w]
      by_cases hq:r.1 = q
      ·subst hq;have hlt:r.1 < kv.length:=(List.getElem?_eq_some_iff.1 h2).1
       have h3:kv.getD r.1 (0,0) = (a,r.2):=by rw [YE,h2];rfl
       have h4:kv[r.1] = (a,r.2):=by rw [Y2 hlt] at h2;exact Option.some.inj h2
       simp [hlt,h3,h4]
      ·simp [hq]
     have hf:Instr.findNow (.int .i64) (.int .i64 a) (mlist kv 0).toArray.toList 0 = some (some (r.1,.int .i64 r.2)):=hf
     generalize (mlist kv 0).toArray = es at hb hj hmod hf;simp [Instr.mapUpdate,run_underlying u1,run_getObj_map hb,run_checkKey u2 (Z3t a),run_findKey u2 hf,hj,run_keyThatStays (Z3t a),run_setObj_map _ hb,Result.andThen,hmod]
    | none =>
     rw [hm] at hf;have hpush:Obj.map ((mlist kv 0).toArray.push { key:=.int .i64 a,val:=.int .i64 b,born:=kv.length }) (kv.length + 1) = mobj (mput kv a b):=by
      have e1:mlist (kv ++ [(a,b)]) 0 = mlist kv 0 ++ [{ key:=.int .i64 a,val:=.int .i64 b,born:=kv.length }]:=by
       simp [mlist,List.zipIdx_append]
      unfold mobj mput;rw [hm];simp only [e1]
      simp
     have hf:Instr.findNow (.int .i64) (.int .i64 a) (mlist kv 0).toArray.toList 0 = some none:=hf
     generalize (mlist kv 0).toArray = es at hb hpush hf;simp [Instr.mapUpdate,run_underlying u1,run_getObj_map hb,run_checkKey u2 (Z3t a),run_findKey u2 hf,run_setObj_map _ hb,Result.andThen,hpush]
   ·cases h
  ·cases h
 ·cases h
theorem Z9q:∀ (kv:List (Int × Int)) (j i:Nat),i < kv.length→(mlist kv j).findIdx? (fun e => (e.born:Int) == ((j + i:Nat):Int)) = some i
 | [],_,_,h => by simp at h
 | p :: l,j,i,h => by
  have e:mlist (p :: l) j = { key:=.int .i64 p.1,val:=.int .i64 p.2,born:=j } :: mlist l (j + 1):=rfl
  rw [e,List.findIdx?_cons];cases i with
  | zero => simp
  | succ i =>
   have h1:((j:Int) == ((j + (i + 1):Nat):Int)) = false:=by
    rw [beq_eq_false_iff_ne];omega
   have:=Z9q l (j + 1) i (by simpa using h)
   have h2:((j + 1 + i:Nat):Int) = ((j + (i + 1):Nat):Int):=by omega
   rw [h2] at this;simp only [h1,this]
   simp
theorem entryStore_ok (hi:Inv s) {x i b:PV} {σ':Heap} {vx vi vb:Value} (hx:PVR s x vx) (hv:PVR s i vi) (hb':PVR s b vb) (h:ZA4 s.σ x i b = some σ') :
  ∃ ι' w',(Instr.entryStore t vx vi vb).run P s.w = .ok () w'∧Inv ⟨w',s.Y,σ',ι'⟩∧Ev s ⟨w',s.Y,σ',ι'⟩:=by
 unfold ZA4 at h
 split at h
 ·rename_i id k b
  split at h
  ·rename_i kv hen
   split at h
   ·rename_i hk;cases h;rw [mp_inv hx,Z8c hv,Z8c hb'];have hb:=ZA2 hi hen
    have hp:=ZAZ (kv':=mset kv k.toNat b) hi hen
    have hfi:(mlist kv 0).findIdx? (fun e => (e.born:Int) == k) = some k.toNat:=by
     have:=Z9q kv 0 k.toNat hk.2
     rw [Y0d,Yo hk.1] at this;exact this
    have hmod:Obj.map ((mlist kv 0).toArray.modify k.toNat (fun e => { e with val:=Value.int .i64 b })) kv.length = mobj (mset kv k.toNat b):=by
     unfold mobj mset;rw [List.length_set]
     congr 1
     apply Array.ext';rw [Array.toList_modify];apply Y0e;intro q;rw [List.getElem?_modify,Z5S,Z5S,Y0w]
     by_cases hq:k.toNat = q
     ·subst hq;have hlt:k.toNat < kv.length:=hk.2
      simp [hlt,YE]
     ·simp [hq]
    refine ⟨_,_,?_,hp.inv hi,hp.ev hi⟩;have hfi:(mlist kv 0).toArray.findIdx? (fun e => (e.born:Int) == k) = some k.toNat:=by rw [List.findIdx?_toArray];exact hfi
    generalize (mlist kv 0).toArray = es at hb hfi hmod;simp [Instr.entryStore,run_getObj_map hb,asInt,asIntOf,Result.andThen,hfi,run_setObj_map _ hb,hmod]
   ·cases h
  ·cases h
 ·cases h
end
end Go.Dn

namespace Go.Dn
open Go
variable {X:Ctx} {s:St} {n:Nat} {e:Env} {a:Act} {P:Program}
theorem rep_get {α:Type} {z:List α}:∀ (k j:Nat),0 < z.length→j < k * z.length→(List.replicate k z).flatten[j]? = z[j % z.length]?
 | 0,j,_,h => by simp at h
 | k + 1,j,hz,h => by
  simp only [List.replicate_succ,Y0E]
  by_cases hj:j < z.length
  ·rw [YK hj,Nat.mod_eq_of_lt hj]
  ·rw [YN (by omega),rep_get k (j - z.length) hz (by rw [Yl] at h;omega)]
   rw [Nat.mod_eq_sub_mod (by omega:j ≥ z.length)]
theorem rep_len {α:Type} (z:List α) (k:Nat):(List.replicate k z).flatten.length = k * z.length:=by simp
theorem ZCV {z:List PV} {zc:Array Value} {k sz:Nat} (h:Z4C s z zc) (hz:z.length = sz) (hs:sz ≠ 0):Z4C s (List.replicate k z).flatten (madeCells zc (k * sz)):=by
 refine ⟨by rw [rep_len,size_madeCells,hz],fun j x hj => ?_⟩
 have hlt:j < k * z.length:=by have:=(List.getElem?_eq_some_iff.1 hj).1;rwa [rep_len] at this
 rw [rep_get k j (by omega) hlt] at hj
 obtain ⟨u,h1,h2,h3⟩:=h.2 _ x hj
 refine ⟨u,?_,h2,h3⟩
 have hzs:zc.size = z.length:=h.1.symm
 have hlt':j < k * sz:=by rw [← hz];exact hlt
 simp only [madeCells,Array.getElem?_map,Array.getElem?_range,hlt',if_true,Y8,hzs]
 rw [Y5]
 rw [getElem!_def,h1]
theorem make_ok (hi:Inv s) {id0:Nat} (hid:s.σ.ent id0 = .none) (hnx:id0 < s.σ.nx) {t:TypeId} {x y z:PV} {v u:Value} {σ':Heap} (hx:PVR s x v) (hy:PVR s y u)
  (h:makeD P s.σ id0 t x y = some (z,σ')):Gives X s z σ' ((Instr.makeSlice t v u).run P s.w):=by
 unfold makeD at h
 split at h
 ·rename_i el l c hel;have:=Z2d hx;have:=Z2d hy;subst_vars
  have hu:=Z1M hel
  split at h
  ·rename_i sz by_ zl hsz hby hzl;obtain ⟨i,hinfo,hisz,hiby⟩:=tinfo_run hsz hby
   obtain ⟨i',zv,hi1,hi2,hi3⟩:=Z6I (s:=s) hzl
   rw [hinfo] at hi1;cases hi1
   by_cases hc:l = c∧0≤l∧l.toNat * by_≤room∧zl.length = sz∧sz ≠ 0∧by_ ≠ 0
   ·rw [if_pos hc] at h;cases h;obtain ⟨rfl,h0,hr,hz1,hz2,hz3⟩:=hc
    subst hisz hiby;have hml:=Z6E hr (by omega)
    have hb':(i.bytes:Int) * l≤281474976710656:=by
     have h1:((l.toNat * i.bytes:Nat):Int)≤140737488355328:=by simp only [room] at hr;omega
     rw [Int.natCast_mul,Yo h0,Yp] at h1;omega
    have hrun:=run_make (P:=P) s.w t el i zv hu hinfo hi2 .i64 .i64 l l h0 (Y0K _) hb' (by simp only [maxLen] at hml;omega)
    rw [hrun];have hmc:=ZCV (k:=l.toNat) hi3 hz1 hz2
    have hput:=Z3d hi hid hnx el _ _ (s.w.alloc (.cells (madeCells zv.cells (l.toNat * i.size)) el)) rfl rfl rfl rfl (by have:=hmc.1;omega) hmc.2
    refine ⟨_,_,_,rfl,hput.inv hi,hput.ev hi,?_⟩;have hlen:(List.replicate l.toNat zl).flatten.length = l.toNat * i.size:=by rw [rep_len,hz1]
    refine .buf ⟨el,_,true,ZH _ _ _⟩ (by simp only [Heap.ver,Heap.put,ZH,hlen];exact YB _) ⟨_,_,rfl,YB _⟩ fun _ => ?_
    exact ⟨l.toNat,_,el,(0,0),by simp [ZH],YB _,by simp only [ZH];exact hput.here,size_madeCells _ _,hml⟩
   ·rw [if_neg hc] at h;cases h
  ·cases h
 ·cases h
theorem ZA1 {t el:TypeId} {i:TypeInfo} {zv:Value} {len:Nat} {parts:Array (Nat × Value)} {cs':Array Value} {w:World} (hu:P.underlying t = some (.slice el)) (hi1:P.info? el = some i) (hi2:i.zero = some zv)
  (hle:len * i.size≤16777216) (h1:Instr.fill (fun j => some (j * i.size,i.size)) (madeCells zv.cells (len * i.size)) parts.toList = some cs') :
  (Instr.buildSlice t len parts).run P w = .ok (.slice (some ⟨w.heap.size,0,none⟩) len len) { w with heap:=w.heap.push (.cells cs' el) }:=by
 have hle':¬ (16777216 < len * i.size):=by omega
 by_cases h0:len * i.size = 0
 ·have e:madeCells zv.cells (len * i.size) = (Array.range (len * i.size)).map ((#[] : Array Value)[· % (#[] : Array Value).size]!):=by rw [h0];simp [madeCells]
  rw [e] at h1;simp [Instr.buildSlice,Z0m w hu,sizeOf,typeInfo,hi1,newRow,hle',h0] at h1 ⊢;simp [h1]
 ·simp only [madeCells] at h1;simp [Instr.buildSlice,Z0m w hu,sizeOf,typeInfo,hi1,newRow,hle',h0,zeroValue,hi2] at h1 ⊢;simp [h1]
theorem ZCp (hi:Inv s) {id0:Nat} (hid:s.σ.ent id0 = .none) (hnx:id0 < s.σ.nx) {t:TypeId} {len:Nat} {ps:List (Nat × PV)} {vals:Array (Nat × Value)} (hp:Z5C s ps vals.toList) {z:PV} {σ':Heap}
  (h:Z2W X s.σ id0 t len ps = some (z,σ')):∃ len' sz el cs,z = (litR X.lit len' sz id0 el cs).1∧σ' = s.σ.put id0 (litR X.lit len' sz id0 el cs).2∧cs.length = len' * sz∧Gives X s (.buf id0 len' sz) (s.σ.put id0 (.blk el cs true)) ((Instr.buildSlice t len vals).run X.P s.w):=by
 unfold Z2W at h
 split at h
 ·rename_i el hel;have hu:=Z1M hel
  split at h
  ·rename_i sz zl hsz hzl;obtain ⟨i,zv,hi1,hi2,hi3⟩:=Z6I (s:=s) hzl
   by_cases hc:zl.length = sz∧sz ≠ 0∧len * sz≤1000000
   ·rw [if_pos hc] at h;obtain ⟨hz1,hz2,hz3⟩:=hc
    simp only [Y1,Y3] at h;obtain ⟨cs,hf,rfl,rfl⟩:=h
    have hmc:=ZCV (k:=len) hi3 hz1 hz2
    obtain ⟨cs',h1,h2⟩:=fill_ok hp hmc hf
    have hcs':cs'.size = len * sz:=by
     have:∀ {place:Nat→Option (Nat × Nat)} {ps:List (Nat × PV)} {cells out:List PV},Z7b place cells ps = some out→out.length = cells.length:=by
      intro place ps
      induction ps with
      | nil => intro cells out h;simp [Z7b] at h;rw [h]
      | cons p ps ih =>
       intro cells out h;obtain ⟨j,x⟩:=p
       simp only [Z7b] at h
       split at h
       ·split at h
        ·rename_i hle;rw [ih h,Z4k _ _ _ (by omega)]
        ·cases h
       ·cases h
     rw [← h2.1,this hf,rep_len,hz1]
    have hrun:(Instr.buildSlice t len vals).run X.P s.w = .ok (.slice (some ⟨s.w.heap.size,0,none⟩) len len) { s.w with heap:=s.w.heap.push (.cells cs' el) }:=by
     simp only [tsize,Y1] at hsz;obtain ⟨i2,hi4,hi5⟩:=hsz
     rw [hi1] at hi4;cases hi4;subst hi5;exact ZA1 hu hi1 hi2 (by omega) h1
    rw [hrun];have hput:=Z3d hi hid hnx el _ _ { s.w with heap:=s.w.heap.push (.cells cs' el) } rfl rfl rfl rfl (by have:=h2.1;omega) h2.2
    have hcl:cs.length = len * sz:=by rw [h2.1,hcs']
    refine ⟨len,sz,el,cs,rfl,rfl,hcl,?_⟩;refine ⟨_,_,_,rfl,hput.inv hi,hput.ev hi,?_⟩;refine .buf ⟨el,_,true,ZH _ _ _⟩ (by simp only [Heap.ver,Heap.put,ZH,hcl];exact YB _) ⟨_,_,rfl,YB _⟩ fun _ => ?_
    exact ⟨len,_,el,(0,0),by simp [ZH],YB _,by simp only [ZH];exact hput.here,hcs',by
     have:=Y0j len (Nat.pos_of_ne_zero hz2)
     simp only [maxLen];omega⟩
   ·rw [if_neg hc] at h;cases h
  ·cases h
 ·cases h
theorem copy_ok (hi:Inv s) {t t2 ty:TypeId} {x y z:PV} {v u:Value} {σ':Heap} (hx:PVR s x v) (hy:PVR s y u)
  (h:Z99 P s.σ t x y = some (z,σ')):Gives X s z σ' ((Builtin.copy_ #[t,t2] ty #[v,u]).run P s.w):=by
 unfold Z99 at h
 split at h
 ·cases h
 ·rename_i el hel;have hu:=Z1M hel
  split at h
  ·cases h
  ·rename_i sz hsz
   split at h
   ·rename_i ys m id len sz' hbr
    split at h
    ·rename_i el' cells hb
     by_cases hc:sz' = sz∧el' = el∧cells.length = len * sz
     ·rw [if_pos hc] at h;cases h;obtain ⟨rfl,rfl,hcl⟩:=hc
      obtain ⟨o,c,news,B⟩:=ZAR hi hy hbr
      have hval:=B.val
      simp only at hval;subst hval;obtain ⟨cap,cs,el2,fr,rfl,h2,h3,h4,h5⟩:=Z7Z hx (by simp [Heap.cur,hb,hcl])
      obtain ⟨cs',hcs',hcl'⟩:=ZAK hi hb
      have hyl:ys.length = m * sz':=B.len
      have hnl:news.length = m * sz':=B.nlen
      have hk1:min m len * sz'≤m * sz':=YL _ (Nat.min_le_left _ _)
      have hk2:min m len * sz'≤len * sz':=YL _ (Nat.min_le_right _ _)
      have hput:=Z9i hi hb (nx_of hi (by rw [hb];simp)) (ys.take (min m len * sz')) (news.take (min m len * sz')) 0 (by simp;omega) (by simp;omega)
       (fun j y hj => by
        rw [YR] at hj ⊢
        split at hj
        ·rename_i hlt;rw [if_pos hlt];exact B.rel j y hj
        ·cases hj) hcs'
      have hone:∀ z ∈ news.take (min m len * sz'),z.oneCell' = true:=fun z hz => by
       have hz:=Yq hz
       obtain ⟨j,hj,rfl⟩:=Yj hz
       have hj':j < ys.length:=by omega
       obtain ⟨q,q1,_,q3⟩:=B.rel j ys[j] (Y2 hj')
       rw [Y2 hj] at q1;cases q1;exact q3
      have hf:(Builtin.firstCells sz' (min m len) (.slice o m c)).run P s.w = .ok (news.take (min m len * sz')).toArray s.w:=by
       rcases B.cell with h0 | ⟨ad,rfl,hcell⟩
       ·simp only at h0;subst h0;have hn0:news = []:=Y0R (by simpa using hnl)
        subst hn0;cases o <;> simp [Builtin.firstCells,loadCells,loadCellsFrom]
       ·exact run_firstCells_some (P:=P) s.w sz' (min m len) ad m c _ (by simp;omega) (fun j z hz => by
         rw [YR] at hz
         split at hz
         ·exact hcell j z hz
         ·cases hz)
      have hst:=run_storeCells_at P (s.ι id) 0 el' (news.take (min m len * sz')) 0 cs' s.w hcs' (by simp;omega) hone
      simp only [Nat.add_zero] at hst;have hrun:(Builtin.copy_ #[t,t2] ty #[.slice (some ⟨s.ι id,0,none⟩) len cap,.slice o m c]).run P s.w = .ok (.int .i64 (min m len:Nat))
        (s.w.setRow (s.ι id) (cs'.toList.take 0 ++ news.take (min m len * sz') ++ cs'.toList.drop (0 + (news.take (min m len * sz')).length)).toArray):=by
       have hmin:Nat.min m len = min m len:=rfl
       simp only [Builtin.copy_,Y0M,List.getElem?_cons_zero,List.getElem?_cons_succ,Sem.run_bind,Z0m s.w hu,Result.andThen_ok,Builtin.lenOf,Sem.run_pure,Z2H s.w hsz,hmin,hf,hst,goInt,Y0d]
      rw [hrun];exact ⟨_,_,_,rfl,hput.inv hi,hput.ev hi,.v (.int _ _)⟩
     ·rw [if_neg hc] at h;cases h
    ·cases h
   ·rename_i ys m id tot l len sz' hbr
    split at h
    ·rename_i el' cells hb
     by_cases hc:sz' = sz∧el' = el∧cells.length = tot * sz∧l + len≤tot
     ·rw [if_pos hc] at h;cases h;obtain ⟨rfl,rfl,hcl,hlt⟩:=hc
      have hmm:(l + len) * sz'≤tot * sz':=YL _ hlt
      rw [Yl] at hmm;obtain ⟨o,c,news,B⟩:=ZAR hi hy hbr
      have hval:=B.val
      simp only at hval;subst hval;obtain ⟨cap,rfl⟩:=view_inv hx (by simp [Heap.cur,hb,hcl])
      obtain ⟨cs',hcs',hcl'⟩:=ZAK hi hb
      have hyl:ys.length = m * sz':=B.len
      have hnl:news.length = m * sz':=B.nlen
      have hk1:min m len * sz'≤m * sz':=YL _ (Nat.min_le_left _ _)
      have hk2:min m len * sz'≤len * sz':=YL _ (Nat.min_le_right _ _)
      have hput:=Z9i hi hb (nx_of hi (by rw [hb];simp)) (ys.take (min m len * sz')) (news.take (min m len * sz')) (l * sz') (by simp;omega) (by simp;omega)
       (fun j y hj => by
        rw [YR] at hj ⊢
        split at hj
        ·rename_i hlt;rw [if_pos hlt];exact B.rel j y hj
        ·cases hj) hcs'
      have hone:∀ z ∈ news.take (min m len * sz'),z.oneCell' = true:=fun z hz => by
       have hz:=Yq hz
       obtain ⟨j,hj,rfl⟩:=Yj hz
       have hj':j < ys.length:=by omega
       obtain ⟨q,q1,_,q3⟩:=B.rel j ys[j] (Y2 hj')
       rw [Y2 hj] at q1;cases q1;exact q3
      have hf:(Builtin.firstCells sz' (min m len) (.slice o m c)).run P s.w = .ok (news.take (min m len * sz')).toArray s.w:=by
       rcases B.cell with h0 | ⟨ad,rfl,hcell⟩
       ·simp only at h0;subst h0;have hn0:news = []:=Y0R (by simpa using hnl)
        subst hn0;cases o <;> simp [Builtin.firstCells,loadCells,loadCellsFrom]
       ·exact run_firstCells_some (P:=P) s.w sz' (min m len) ad m c _ (by simp;omega) (fun j z hz => by
         rw [YR] at hz
         split at hz
         ·exact hcell j z hz
         ·cases hz)
      have hst:=run_storeCells_at P (s.ι id) (l * sz') el' (news.take (min m len * sz')) 0 cs' s.w hcs' (by simp;omega) hone
      simp only [Nat.add_zero] at hst;have hrun:(Builtin.copy_ #[t,t2] ty #[.slice (some ⟨s.ι id,l * sz',none⟩) len cap,.slice o m c]).run P s.w = .ok (.int .i64 (min m len:Nat))
        (s.w.setRow (s.ι id) (cs'.toList.take (l * sz') ++ news.take (min m len * sz') ++ cs'.toList.drop (l * sz' + (news.take (min m len * sz')).length)).toArray):=by
       have hmin:Nat.min m len = min m len:=rfl
       simp only [Builtin.copy_,Y0M,List.getElem?_cons_zero,List.getElem?_cons_succ,Sem.run_bind,Z0m s.w hu,Result.andThen_ok,Builtin.lenOf,Sem.run_pure,Z2H s.w hsz,hmin,hf,hst,goInt]
      rw [hrun];exact ⟨_,_,_,rfl,hput.inv hi,hput.ev hi,.v (.int _ _)⟩
     ·rw [if_neg hc] at h;cases h
    ·cases h
   ·cases h
end Go.Dn

namespace Go.Dn
open Go
variable {X:Ctx} {s:St} {n:Nat} {e:Env} {a:Act} {P:Program}
def St.frz (s:St) (id:Nat) (el:TypeId) (cells:List PV):St:=⟨s.w,s.Y,s.σ.put id (.blk el cells false),s.ι⟩
theorem Z5s {id id':Nat} {el:TypeId} {cells:List PV} (h:Live (s.frz id el cells).σ id'):Live s.σ id'∧id' ≠ id:=by
 by_cases e:id' = id
 ·subst e
  rcases h with ⟨el',c',h⟩ | ⟨fn,e',n,ps,as_,bo,st,pend,h⟩ | ⟨kv,h⟩
  ·simp [St.frz,Heap.put,ZH] at h
  ·simp [St.frz,Heap.put,ZH] at h
  ·simp [St.frz,Heap.put,ZH] at h
 ·exact ⟨(Z0u e).1 h,e⟩
theorem frz_ev {id:Nat} {el:TypeId} {cells:List PV} {lv:Bool} (hb:s.σ.ent id = .blk el cells lv):Ev s (s.frz id el cells) where
 Y:=rfl
 size:=YB _
 keep:=fun _ _ _ => rfl
 live:=fun id' h _ => ⟨id',(Z5s h).1,rfl⟩
 blk:=fun id' el' c lv' h => by
  by_cases e:id' = id
  ·subst e;rw [hb] at h;cases h;exact ⟨cells,false,by simp [St.frz,Heap.put,ZH],YB _,fun _ => ⟨rfl,fun cs e fr h => ⟨cs,fr,h,rfl⟩⟩⟩
  ·exact ⟨c,lv',by simp [St.frz,Heap.put,ZQ _ _ e,h],YB _,fun _ => ⟨rfl,fun cs e fr h => ⟨cs,fr,h,rfl⟩⟩⟩
 loop:=fun id' fn e n ps as_ bo st pend h => by
  by_cases e':id' = id
  ·subst e';rw [hb] at h;cases h
  ·exact ⟨⟨st,pend,by simp [St.frz,Heap.put,ZQ _ _ e',h]⟩,rfl⟩
 map:=fun id' kv h => by
  by_cases e':id' = id
  ·subst e';rw [hb] at h;cases h
  ·exact ⟨⟨kv,by simp [St.frz,Heap.put,ZQ _ _ e',h]⟩,rfl⟩
 os:=rfl
 tape:=rfl
 output:=rfl
theorem frz_imm (hi:Inv s) {id:Nat} {el:TypeId} {cells:List PV} {lv:Bool} (hb:s.σ.ent id = .blk el cells lv):(s.frz id el cells).imm (s.ι id):=by
 have hlt:s.ι id < s.w.heap.size:=by
  obtain ⟨cs,fr,h⟩:=Put.old_elem hi hb
  exact (Array.getElem?_eq_some_iff.1 h).1
 cases lv with
 | true =>
  have hl:Live s.σ id:=.inl ⟨el,cells,hb⟩
  exact ⟨hlt,hi.notY id hl,fun id' h e => (Z5s h).2 (hi.inj id' id (Z5s h).1 hl e)⟩
 | false =>
  obtain ⟨h1,h2,h3⟩:=hi.fz id el cells hb
  exact ⟨h1,h2,fun id' h => h3 id' (Z5s h).1⟩
theorem frz_inv (hi:Inv s) {id:Nat} {el:TypeId} {cells:List PV} {lv:Bool} (hb:s.σ.ent id = .blk el cells lv):Inv (s.frz id el cells):=by
 have hev:=frz_ev hb
 refine ⟨fun id' => ?_,fun id1 id2 h1 h2 he => hi.inj id1 id2 (Z5s h1).1 (Z5s h2).1 he,fun id' h => hi.notY id' (Z5s h).1,fun id' el' c h => ?_,fun id' hn => ?_,hi.Ylt⟩
 ·by_cases e:id' = id
  ·subst e;have h1:(s.frz id' el cells).σ.ent id' = .blk el cells false:=by simp [St.frz,Heap.put,ZH]
   rw [h1];have he:=hi.ent id'
   rw [hb] at he;obtain ⟨cs,fr,q1,q2,q3,q4⟩:=he
   exact ⟨cs,fr,q1,q2,fun h => (by cases h),fun j x hj => by obtain ⟨u,u1,u2,u3⟩:=q4 j x hj;exact ⟨u,u1,hev.pvr u2,u3⟩⟩
  ·have h1:(s.frz id el cells).σ.ent id' = s.σ.ent id':=by simp [St.frz,Heap.put,ZQ _ _ e]
   rw [h1];have he:=hi.ent id'
   cases hent:s.σ.ent id' with
   | none => trivial
   | blk el' c lv' =>
    rw [hent] at he;obtain ⟨cs,fr,q1,q2,q3,q4⟩:=he
    exact ⟨cs,fr,q1,q2,q3,fun j x hj => by obtain ⟨u,u1,u2,u3⟩:=q4 j x hj;exact ⟨u,u1,hev.pvr u2,u3⟩⟩
   | loop fn e' n ps as_ bo st pend =>
    rw [hent] at he;obtain ⟨fn2,tmps,defers,q1,q2,q3⟩:=he
    exact ⟨fn2,tmps,defers,q1,q2,fun t => hev.pvr (q3 t)⟩
   | map kv => rw [hent] at he;exact he
 ·by_cases e:id' = id
  ·subst e;exact frz_imm hi hb
  ·have h1:s.σ.ent id' = .blk el' c false:=by simpa [St.frz,Heap.put,ZQ _ _ e] using h
   exact (hev.imm _ (hi.fz id' el' c h1)).1
 ·have hne:id' ≠ id:=by
   intro e;subst e;have:=hi.nx id' hn
   rw [hb] at this;cases this
  have:(s.frz id el cells).σ.ent id' = s.σ.ent id':=by simp [St.frz,Heap.put,ZQ _ _ hne]
  rw [this];exact hi.nx id' hn
theorem Z6u (sz:Nat):∀ (n:Nat) (xs:List FV),(chunk sz n xs).length = n
 | 0,_ => rfl
 | n + 1,xs => by simp [chunk,Z6u sz n]
theorem ZBH (sz:Nat):∀ (n:Nat) (xs:List FV),n * sz≤xs.length→∀ i e,(chunk sz n xs)[i]? = some e→e.length = sz∧∀ j x,e[j]? = some x→j < sz∧xs[i * sz + j]? = some x
 | 0,_,_,i,e,h => by simp [chunk] at h
 | n + 1,xs,hl,i,e,h => by
  rw [Yl] at hl;cases i with
  | zero =>
   simp [chunk] at h;subst h;refine ⟨by simp;omega,fun j x hj => ?_⟩
   rw [YR] at hj
   split at hj
   ·rename_i hlt;exact ⟨hlt,by simpa using hj⟩
   ·cases hj
  | succ i =>
   simp [chunk] at h;obtain ⟨h1,h2⟩:=ZBH sz n (xs.drop sz) (by simp;omega) i e h
   refine ⟨h1,fun j x hj => ?_⟩
   obtain ⟨h3,h4⟩:=h2 j x hj
   refine ⟨h3,?_⟩;rw [Ys] at h4;rw [← h4];congr 1;rw [Yl];omega
def Exp (s:St) (σ':Heap):Prop:=Inv ⟨s.w,s.Y,σ',s.ι⟩∧Ev s ⟨s.w,s.Y,σ',s.ι⟩
theorem Exp.refl (hi:Inv s):Exp s s.σ:=⟨hi,Ev.refl s⟩
theorem Exp.trans {σ1 σ2:Heap} (h1:Exp s σ1) (h2:Exp ⟨s.w,s.Y,σ1,s.ι⟩ σ2):Exp s σ2:=⟨h2.1,h1.2.trans h2.2⟩
theorem Z7t {f:Heap→PV→Option (FV × Heap)} (hf:∀ (s:St) (x:PV) (y:FV) (σ':Heap) (v:Value),f s.σ x = some (y,σ')→Inv s→PVR s x v→Exp s σ'∧FVR s.w (Imm s.w s.Y σ' s.ι) y v) :
  ∀ (xs:List PV) (s:St) (us:Nat→Value) (ys:List FV) (σ':Heap),Z0I f s.σ xs = some (ys,σ')→Inv s→(∀ (j:Nat) (x:PV),xs[j]? = some x→PVR s x (us j)) →
   Exp s σ'∧ys.length = xs.length∧∀ (j:Nat) (y:FV),ys[j]? = some y→FVR s.w (Imm s.w s.Y σ' s.ι) y (us j)
 | [],s,us,ys,σ',h,hi,hx => by
  simp [Z0I] at h;obtain ⟨rfl,rfl⟩:=h
  exact ⟨Exp.refl hi,rfl,by simp⟩
 | x :: xs,s,us,ys,σ',h,hi,hx => by
  simp only [Z0I,Y4,Y5,Y3] at h;obtain ⟨⟨y,σ1⟩,h1,⟨zs,σ2⟩,h2,rfl,rfl⟩:=h
  obtain ⟨e1,f1⟩:=hf s x y σ1 (us 0) h1 hi (hx 0 x (by simp))
  obtain ⟨e2,l2,f2⟩:=Z7t hf xs ⟨s.w,s.Y,σ1,s.ι⟩ (fun j => us (j + 1)) zs σ2 h2 e1.1 (fun j x hj => e1.2.pvr (hx (j + 1) x (by simpa using hj)))
  refine ⟨e1.trans e2,by simp [l2],fun j y' hj => ?_⟩
  cases j with
  | zero =>
   simp at hj;subst hj;exact e2.2.fvr f1
  | succ j => exact f2 j y' (by simpa using hj)
theorem Z9E:∀ (d:Nat) (s:St) (x:PV) (y:FV) (σ':Heap) (v:Value),Z02 d s.σ x = some (y,σ')→Inv s→PVR s x v→Exp s σ'∧FVR s.w (Imm s.w s.Y σ' s.ι) y v
 | 0,_,_,_,_,_,h,_,_ => by simp [Z02] at h
 | d + 1,s,x,y,σ',v,h,hi,hx => by
  unfold Z02 at h
  split at h
  ·cases h;cases hx with
   | v hx => exact ⟨Exp.refl hi,hx⟩
  ·cases h;have:=Z6d hx;subst this
   exact ⟨Exp.refl hi,.nil⟩
  ·cases h;cases hx with
   | full hx => exact ⟨Exp.refl hi,hx⟩
  ·rename_i id len sz
   split at h
   ·rename_i el cells lv hb
    by_cases hc:cells.length = len * sz
    ·rw [if_pos hc] at h;simp only [Y4,Y5,Y3] at h;obtain ⟨⟨ys,σ2⟩,h1,rfl,rfl⟩:=h
     obtain ⟨cap,cs,el2,fr,rfl,q2,q3,q4,q5⟩:=Z7Z hx (by simp [Heap.cur,hb,hc])
     have he:=hi.ent id
     rw [hb] at he;obtain ⟨cs0,fr0,r1,r2,_,r4⟩:=he
     have hE1:Exp s (s.frz id el cells).σ:=⟨frz_inv hi hb,frz_ev hb⟩
     let us:Nat→Value:=fun j => (cs0[j]?).getD Go.undef
     obtain ⟨e2,l2,f2⟩:=Z7t (f:=Z02 d) (fun s x y σ' v => Z9E d s x y σ' v) cells (s.frz id el cells) us ys σ2 h1 hE1.1 (fun j x hj => by
      obtain ⟨u,u1,u2,_⟩:=r4 j x hj
      have:us j = u:=by simp [us,u1]
      rw [this];exact hE1.2.pvr u2)
     refine ⟨hE1.trans e2,?_⟩;have hlen:len = (chunk sz len ys).length:=(Z6u _ _ _).symm
     have hcl:len * sz≤ys.length:=by omega
     have hmain:=FVR.sl (w:=s.w) (Imm:=Imm s.w s.Y σ2 s.ι) (chunk sz len ys) (s.ι id) 0 cap sz (fun i j => us (i * sz + j)) (e2.2.imm _ (frz_imm hi hb)).1 (by rw [Z6u];exact q2)
      (fun e he => by
       obtain ⟨i,hlt,rfl⟩:=Yj he
       exact (ZBH sz len ys hcl i _ (Y2 hlt)).1)
      (fun i j hi' hj => by
       rw [Z6u] at hi';have hlt:i * sz + j < cells.length:=by
        rw [hc];have:(i + 1) * sz≤len * sz:=YL _ hi'
        rw [Yl] at this;omega
       obtain ⟨u,u1,_,_⟩:=r4 (i * sz + j) cells[i * sz + j] (Y2 hlt)
       simp only [World.cell?,r1,Y0d];simp [us,u1])
      (fun i j e x he hj => by
       obtain ⟨_,c2⟩:=ZBH sz len ys hcl i e he
       exact f2 _ x (c2 j x hj).2)
     rw [Z6u] at hmain;exact hmain
    ·rw [if_neg hc] at h;cases h
   ·cases h
  ·cases h
theorem exp6 {x:PV} {y:FV} {σ':Heap} {v:Value} (h:Z02 6 s.σ x = some (y,σ')) (hi:Inv s) (hx:PVR s x v):Exp s σ'∧FVR s.w (Imm s.w s.Y σ' s.ι) y v :=
 Z9E 6 s x y σ' v h hi hx
theorem Z6j {x y:PV} {σ':Heap} {v:Value} (h:Z1Q s.σ x = some (y,σ')) (hi:Inv s) (hx:PVR s x v):Exp s σ'∧PVR ⟨s.w,s.Y,σ',s.ι⟩ y v:=by
 have one:∀ {x:PV},PVR s x v→(Z02 6 s.σ x).bind (fun r => some (PV.v r.1,r.2)) = some (y,σ')→Exp s σ'∧PVR ⟨s.w,s.Y,σ',s.ι⟩ y v:=by
  intro x hx h;simp only [Y4,Y5,Y3] at h;obtain ⟨⟨z,σ1⟩,h1,rfl,rfl⟩:=h
  obtain ⟨e1,f1⟩:=exp6 h1 hi hx
  exact ⟨e1,.v f1⟩
 unfold Z1Q at h
 split at h
 ·rename_i cs;simp only [Y4,Y5,Y3] at h;obtain ⟨⟨ys,σ1⟩,h1,rfl,rfl⟩:=h
  obtain ⟨arr,rfl,hc⟩:=Z7X hx
  let us:Nat→Value:=fun j => (arr[j]?).getD Go.undef
  obtain ⟨e1,l1,f1⟩:=Z7t (f:=Z02 6) (fun s x y σ' v => Z9E 6 s x y σ' v) cs s us ys σ1 h1 hi (fun j x hj => by
   obtain ⟨u,u1,u2,_⟩:=hc.2 j x hj
   have:us j = u:=by simp [us,u1]
   rw [this];exact u2)
  refine ⟨e1,Z4C.agg ⟨by simp [vs,l1,hc.1],fun i x hi' => ?_⟩⟩
  simp only [vs,YP,Y1] at hi';obtain ⟨q,hq,rfl⟩:=hi'
  have hlt:i < arr.size:=by rw [← hc.1,← l1];exact (List.getElem?_eq_some_iff.1 hq).1
  have:=f1 i q hq
  simp only [us,Yh hlt,Y0X] at this;exact ⟨arr[i],by simp [hlt],.v this,this.Z6B⟩
 ·cases h;exact ⟨Exp.refl hi,hx⟩
 ·cases h;exact ⟨Exp.refl hi,hx⟩
 ·cases h
 ·exact one hx h
theorem ZCb:∀ (xs:List PV) (s:St) (us:Nat→Value) (ys:List PV) (σ':Heap),Z2g s.σ xs = some (ys,σ')→Inv s→(∀ (j:Nat) (x:PV),xs[j]? = some x→PVR s x (us j)) →
   Exp s σ'∧ys.length = xs.length∧∀ (j:Nat) (y:PV),ys[j]? = some y→PVR ⟨s.w,s.Y,σ',s.ι⟩ y (us j)
 | [],s,us,ys,σ',h,hi,hx => by
  simp [Z2g] at h;obtain ⟨rfl,rfl⟩:=h
  exact ⟨Exp.refl hi,rfl,by simp⟩
 | x :: xs,s,us,ys,σ',h,hi,hx => by
  simp only [Z2g,Y4,Y5,Y3] at h;obtain ⟨⟨y,σ1⟩,h1,⟨zs,σ2⟩,h2,rfl,rfl⟩:=h
  obtain ⟨e1,f1⟩:=Z6j h1 hi (hx 0 x (by simp))
  obtain ⟨e2,l2,f2⟩:=ZCb xs ⟨s.w,s.Y,σ1,s.ι⟩ (fun j => us (j + 1)) zs σ2 h2 e1.1 (fun j x hj => e1.2.pvr (hx (j + 1) x (by simpa using hj)))
  refine ⟨e1.trans e2,by simp [l2],fun j y' hj => ?_⟩
  cases j with
  | zero =>
   simp at hj;subst hj;exact e2.2.pvr f1
  | succ j => exact f2 j y' (by simpa using hj)
theorem Z8R {x y:PV} {σ':Heap} {v:Value} (h:Z1C s.σ x = some (y,σ')) (hi:Inv s) (hx:PVR s x v):Exp s σ'∧PVR ⟨s.w,s.Y,σ',s.ι⟩ y v:=by
 unfold Z1C at h
 split at h
 ·rename_i xs;simp only [Y4,Y5,Y3] at h;obtain ⟨⟨ys,σ1⟩,h1,rfl,rfl⟩:=h
  cases hx with
  | @tup _ vs hs hh =>
   obtain ⟨e1,l1,f1⟩:=ZCb xs s (fun j => vs.getD j Go.undef) ys σ1 h1 hi hh
   exact ⟨e1,.tup (by rw [l1];exact hs) f1⟩
 ·exact Z6j h hi hx
theorem expArg_ok {x y:PV} {σ':Heap} {v:Value} (h:Z4S s.σ x = some (y,σ')) (hi:Inv s) (hx:PVR s x v):Exp s σ'∧PVR ⟨s.w,s.Y,σ',s.ι⟩ y v:=by
 unfold Z4S at h
 split at h
 ·cases h;exact ⟨Exp.refl hi,hx⟩
 ·cases h;exact ⟨Exp.refl hi,hx⟩
 ·cases h;exact ⟨Exp.refl hi,hx⟩
 ·exact Z6j h hi hx
theorem Z9A:∀ (xs:List PV) (s:St) (us:Nat→Value) (ys:List PV) (σ':Heap),Z13 s.σ xs = some (ys,σ')→Inv s→(∀ (j:Nat) (x:PV),xs[j]? = some x→PVR s x (us j)) →
   Exp s σ'∧ys.length = xs.length∧∀ (j:Nat) (y:PV),ys[j]? = some y→PVR ⟨s.w,s.Y,σ',s.ι⟩ y (us j)
 | [],s,us,ys,σ',h,hi,hx => by
  simp [Z13] at h;obtain ⟨rfl,rfl⟩:=h
  exact ⟨Exp.refl hi,rfl,by simp⟩
 | x :: xs,s,us,ys,σ',h,hi,hx => by
  simp only [Z13,Y4,Y5,Y3] at h;obtain ⟨⟨y,σ1⟩,h1,⟨zs,σ2⟩,h2,rfl,rfl⟩:=h
  obtain ⟨e1,f1⟩:=expArg_ok h1 hi (hx 0 x (by simp))
  obtain ⟨e2,l2,f2⟩:=Z9A xs ⟨s.w,s.Y,σ1,s.ι⟩ (fun j => us (j + 1)) zs σ2 h2 e1.1 (fun j x hj => e1.2.pvr (hx (j + 1) x (by simpa using hj)))
  refine ⟨e1.trans e2,by simp [l2],fun j y' hj => ?_⟩
  cases j with
  | zero =>
   simp at hj;subst hj;exact e2.2.pvr f1
  | succ j => exact f2 j y' (by simpa using hj)
theorem ZAm {d:Nat} {σ:Heap}:∀ {cs:List PV} {fs:List FV},fvsOf cs = some fs→Z0I (Z02 (d + 1)) σ cs = some (fs,σ)
 | [],fs,h => by simp [fvsOf] at h;subst h;rfl
 | x :: xs,fs,h => by
  cases x <;> simp only [fvsOf,reduceCtorEq] at h
  rw [Y1] at h;obtain ⟨gs,hg,rfl⟩:=h
  have h1:∀ (y:FV),Z02 (d + 1) σ (.v y) = some (y,σ):=fun y => rfl
  simp only [Z0I,h1,Y0,ZAm hg]
theorem put_put (σ:Heap) (id:Nat) (a b:Ent):(σ.put id a).put id b = σ.put id b:=by
 simp only [Heap.put,Heap.mk.injEq,true_and]
 funext j
 by_cases h:j = id
 ·subst h;rw [ZH,ZH]
 ·rw [ZQ _ _ h,ZQ _ _ h,ZQ _ _ h]
theorem ZBl {d id len sz:Nat} {σ:Heap} {el:TypeId} {cells:List PV} {lv:Bool} {r:List FV × Heap} (hb:σ.ent id = .blk el cells lv) (hc:cells.length = len * sz)
  (he:Z0I (Z02 d) (σ.put id (.blk el cells false)) cells = some r):Z02 (d + 1) σ (.buf id len sz) = some (.sl (chunk sz len r.1),r.2):=by
 unfold Z02
 simp only [hb,if_pos hc,he,Y0]
theorem Z5C.ev {s s':St} (hv:Ev s s'):∀ {ps:List (Nat × PV)} {vs:List (Nat × Value)},Z5C s ps vs→Z5C s' ps vs
 | [],[],_ => trivial
 | (i,x) :: ps,(j,v) :: vs,h => ⟨h.1,hv.pvr h.2.1,Z5C.ev hv h.2.2⟩
 | [],_ :: _,h => h.elim
 | _ :: _,[],h => h.elim
theorem ZBk {d:Nat} {σ σ':Heap} {x y:PV} (h:Z4K σ x = some (y,σ')):∃ f,y = .v f∧Z02 (d + 2) σ x = some (f,σ'):=by
 cases x <;> simp only [Z4K] at h <;> (try (cases h;done))
 ·cases h;exact ⟨_,rfl,rfl⟩
 ·cases h;exact ⟨_,rfl,rfl⟩
 ·cases h;exact ⟨_,rfl,rfl⟩
 ·rename_i id len sz
  split at h
  ·rename_i el cells lv hb
   split at h
   ·rename_i hc;rw [Y1] at h;obtain ⟨fs,hfs,h⟩:=h
    cases h;exact ⟨_,rfl,ZBl (d:=d + 1) hb hc (ZAm (d:=d) hfs)⟩
   ·cases h
  ·cases h
theorem Z9s {d:Nat}:∀ {xs ys:List PV} {σ σ':Heap},Z3H σ xs = some (ys,σ')→∃ fs,ys = vs fs∧Z0I (Z02 (d + 2)) σ xs = some (fs,σ')
 | [],ys,σ,σ',h => by
  simp only [Z3H,Y5,Y3] at h;obtain ⟨rfl,rfl⟩:=h
  exact ⟨[],rfl,rfl⟩
 | x :: xs,ys,σ,σ',h => by
  simp only [Z3H,Y4,Y5,Y3] at h;obtain ⟨⟨y,σ1⟩,h1,⟨zs,σ2⟩,h2,rfl,rfl⟩:=h
  obtain ⟨f,rfl,e1⟩:=ZBk (d:=d) h1
  obtain ⟨fs,rfl,e2⟩:=Z9s (d:=d) h2
  exact ⟨f :: fs,rfl,by simp only [Z0I,e1,e2,Y0]⟩
theorem ZCn {σ σ':Heap} {x y:PV} (h:Z3E σ x = some (y,σ')):Z1Q σ x = some (y,σ'):=by
 cases x with
 | agg cs =>
  simp only [Z3E,Y4,Y5,Y3] at h;obtain ⟨⟨ys,σ1⟩,h1,rfl,rfl⟩:=h
  obtain ⟨fs,rfl,e⟩:=Z9s (d:=4) h1
  simp only [Z1Q,Z8T,e,Y0]
 | _ =>
  first
   | (simp [Z3E,Z4K] at h;done)
   | (simp only [Z3E] at h;obtain ⟨f,rfl,e⟩:=ZBk (d:=4) h;simp only [Z1Q,e,Y0])
theorem Z8M:∀ {ps qs:List (Nat × PV)} {s:St} {σ':Heap} {vs:List (Nat × Value)},Z0f s.σ ps = some (qs,σ')→Inv s→Z5C s ps vs→Exp s σ'∧Z5C ⟨s.w,s.Y,σ',s.ι⟩ qs vs
 | [],qs,s,σ',vs,h,hi,hp => by
  simp only [Z0f,Y5,Y3] at h;obtain ⟨rfl,rfl⟩:=h
  exact ⟨Exp.refl hi,hp⟩
 | (i,x) :: ps,qs,s,σ',[],h,hi,hp => hp.elim
 | (i,x) :: ps,qs,s,σ',(j,v) :: vs,h,hi,hp => by
  obtain ⟨h1,h2,h3⟩:=hp
  simp only [Z0f] at h
  split at h
  ·simp only [Y4,Y5,Y3] at h;obtain ⟨⟨y,σ1⟩,e1,⟨q,σ2⟩,e2,rfl,rfl⟩:=h
   obtain ⟨⟨a1,a2⟩,a3⟩:=Z6j (ZCn e1) hi h2
   obtain ⟨⟨b1,b2⟩,b3⟩:=Z8M (s:=⟨s.w,s.Y,σ1,s.ι⟩) e2 a1 (h3.ev a2)
   exact ⟨⟨b1,a2.trans b2⟩,h1,b2.pvr a3,b3⟩
  ·simp only [Y4,Y5,Y3] at h;obtain ⟨⟨q,σ2⟩,e2,rfl,rfl⟩:=h
   obtain ⟨⟨b1,b2⟩,b3⟩:=Z8M e2 hi h3
   exact ⟨⟨b1,b2⟩,h1,b2.pvr h2,b3⟩
theorem frzPs_ok {b:Bool} {ps qs:List (Nat × PV)} {s:St} {σ':Heap} {vs:List (Nat × Value)} (h:Z95 b s.σ ps = some (qs,σ')) (hi:Inv s) (hp:Z5C s ps vs):Exp s σ'∧Z5C ⟨s.w,s.Y,σ',s.ι⟩ qs vs:=by
 cases b with
 | false => exact Z8M h hi hp
 | true =>
  simp only [Z95,Y5,Y3] at h;obtain ⟨rfl,rfl⟩:=h
  exact ⟨Exp.refl hi,hp⟩
def Tame (σ:Heap) (id0:Option Nat) (σ':Heap):Prop:=σ.nx≤σ'.nx∧∀ k,k < σ.nx→some k ≠ id0→σ.ent k = .none→σ'.ent k = .none
theorem Tame.refl (σ:Heap) (id0:Option Nat):Tame σ id0 σ:=⟨YB _,fun _ _ _ h => h⟩
theorem Tame.trans {σ σ1 σ2:Heap} {id0:Option Nat} (h1:Tame σ id0 σ1) (h2:Tame σ1 id0 σ2):Tame σ id0 σ2 :=
 ⟨Yd h1.1 h2.1,fun k hk hne h => h2.2 k (YU hk h1.1) hne (h1.2 k hk hne h)⟩
theorem Tame.Z3d (σ:Heap) (id:Nat) (en:Ent):Tame σ (some id) (σ.put id en) :=
 ⟨YB _,fun k _ hne h => by
  have:k ≠ id:=fun e => hne (by rw [e])
  simp [Heap.put,ZQ _ _ this,h]⟩
theorem Tame.Z6C {σ:Heap} {id:Nat} {en:Ent} (id0:Option Nat) (h0:σ.ent id ≠ .none):Tame σ id0 (σ.put id en) :=
 ⟨YB _,fun k _ _ h => by
  have:k ≠ id:=fun e => h0 (e ▸ h)
  simp [Heap.put,ZQ _ _ this,h]⟩
def Z1l (call:Z05):Prop:=∀ c args σ r σ',call c args σ = some (r,σ')→Tame σ none σ'
theorem Tame.weak {σ σ':Heap} {id0:Option Nat} (h:Tame σ none σ'):Tame σ id0 σ':=⟨h.1,fun k hk _ hn => h.2 k hk (by simp) hn⟩
theorem Z6T {f:Heap→PV→Option (FV × Heap)} (hf:∀ σ x y σ',f σ x = some (y,σ')→Tame σ none σ'):∀ (xs:List PV) (σ:Heap) (ys:List FV) (σ':Heap),Z0I f σ xs = some (ys,σ')→Tame σ none σ'
 | [],σ,ys,σ',h => by simp [Z0I] at h;rw [← h.2];exact Tame.refl _ _
 | x :: xs,σ,ys,σ',h => by
  simp only [Z0I,Y4,Y5,Y3] at h;obtain ⟨⟨y,σ1⟩,h1,⟨zs,σ2⟩,h2,_,rfl⟩:=h
  exact (hf _ _ _ _ h1).trans (Z6T hf xs _ _ _ h2)
theorem Z5Q:∀ (d:Nat) (σ:Heap) (x:PV) (y:FV) (σ':Heap),Z02 d σ x = some (y,σ')→Tame σ none σ'
 | 0,_,_,_,_,h => by simp [Z02] at h
 | d + 1,σ,x,y,σ',h => by
  unfold Z02 at h
  split at h
  ·cases h;exact Tame.refl _ _
  ·cases h;exact Tame.refl _ _
  ·cases h;exact Tame.refl _ _
  ·rename_i id len sz
   split at h
   ·rename_i el cells lv hb
    by_cases hc:cells.length = len * sz
    ·rw [if_pos hc] at h;simp only [Y4,Y5,Y3] at h;obtain ⟨⟨ys,σ2⟩,h1,_,rfl⟩:=h
     exact (Tame.Z6C none (by rw [hb];simp)).trans (Z6T (Z5Q d) _ _ _ _ h1)
    ·rw [if_neg hc] at h;cases h
   ·cases h
  ·cases h
theorem Z6L {σ:Heap} {x y:PV} {σ':Heap} (h:Z1Q σ x = some (y,σ')):Tame σ none σ':=by
 unfold Z1Q at h
 split at h
 ·simp only [Y4,Y5,Y3] at h;obtain ⟨⟨ys,σ1⟩,h1,_,rfl⟩:=h
  exact Z6T (Z5Q 6) _ _ _ _ h1
 ·cases h;exact Tame.refl _ _
 ·cases h;exact Tame.refl _ _
 ·cases h
 ·simp only [Y4,Y5,Y3] at h;obtain ⟨⟨ys,σ1⟩,h1,_,rfl⟩:=h
  exact Z5Q 6 _ _ _ _ h1
theorem Z6U:∀ {ps qs:List (Nat × PV)} {σ σ':Heap},Z0f σ ps = some (qs,σ')→Tame σ none σ'
 | [],qs,σ,σ',h => by
  simp only [Z0f,Y5,Y3] at h;obtain ⟨_,rfl⟩:=h
  exact Tame.refl _ _
 | p :: ps,qs,σ,σ',h => by
  simp only [Z0f] at h
  split at h
  ·simp only [Y4,Y5,Y3] at h;obtain ⟨⟨y,σ1⟩,e1,⟨q,σ2⟩,e2,_,rfl⟩:=h
   exact (Z6L (ZCn e1)).trans (Z6U e2)
  ·simp only [Y4,Y5,Y3] at h;obtain ⟨⟨q,σ2⟩,e2,_,rfl⟩:=h
   exact Z6U e2
theorem ZCu {b:Bool} {ps qs:List (Nat × PV)} {σ σ':Heap} (h:Z95 b σ ps = some (qs,σ')):Tame σ none σ':=by
 cases b with
 | false => exact Z6U h
 | true =>
  simp only [Z95,Y5,Y3] at h;obtain ⟨_,rfl⟩:=h
  exact Tame.refl _ _
theorem buildSlice_ok (hG:Z0W X s) (he:EnvR s n e a) (hi:Inv s) {id0:Nat} (hid:s.σ.ent id0 = .none) (hnx:id0 < s.σ.nx) {t:TypeId} {len:Nat} {parts:Array (Nat × Operand)} {z:PV} {σ':Heap}
  (h:Z1e X e s.σ id0 t len parts.toList = some (z,σ')):Gives X s z σ' ((Instr.buildSlice t len (parts.map fun (i,x) => (i,a.eval x))).run X.P s.w):=by
 unfold Z1e at h
 simp only [Y4] at h
 obtain ⟨ps,hps,⟨qs,σ1⟩,hq,h⟩:=h
 obtain ⟨⟨i0,e0⟩,hp⟩:=frzPs_ok (vs:=(parts.map fun (i,x) => (i,a.eval x)).toList) hq hi (by rw [Array.toList_map];exact parts_ok hG he hps)
 have tm:=ZCu hq
 obtain ⟨len',sz,el,cs,rfl,rfl,hcl,ι',v,w',hr,i1,e1,p1⟩:=ZCp (s:=⟨s.w,s.Y,σ1,s.ι⟩) i0 (tm.2 _ hnx (by simp) hid) (YU hnx tm.1) hp h
 have e1:=e0.trans e1
 unfold litR
 split
 ·rename_i fs _ hfs;have hx:Z1Q (σ1.put id0 (.blk el cs true)) (.buf id0 len' sz) = some (.v (.sl (chunk sz len' fs)),σ1.put id0 (.blk el cs false)):=by
   have h1:Z02 6 (σ1.put id0 (.blk el cs true)) (.buf id0 len' sz) = some (.sl (chunk sz len' fs),σ1.put id0 (.blk el cs false)):=by
    have:=ZBl (d:=5) (σ:=σ1.put id0 (.blk el cs true)) (id:=id0) (len:=len') (sz:=sz) (el:=el) (cells:=cs) (lv:=true) (by simp [Heap.put,ZH]) hcl (ZAm (d:=4) hfs)
    rw [put_put] at this;exact this
   show (Z02 6 _ _).bind _ = _
   rw [h1];rfl
  obtain ⟨⟨i2,e2⟩,p2⟩:=Z6j (s:=⟨w',s.Y,σ1.put id0 (.blk el cs true),ι'⟩) hx i1 p1
  exact ⟨ι',v,w',hr,i2,e1.trans e2,p2⟩
 ·exact ⟨ι',v,w',hr,i1,e1,p1⟩
end Go.Dn

namespace Go.Dn
open Go
variable {X:Ctx} {s:St} {n:Nat} {e:Env} {a:Act}
def Fw (rd:Option Nat):Fence:={ Fence.wide with round:=rd }
structure ProgOK (P:Program):Prop where
 names : ∀ (f : FuncId) (fn : Func), P.funcs[f]? = some fn → (fn.name == "runtime.NumGoroutine") = false
 mixed:P.follows .mixedOrders = true
def Post (s:St) (x:PV) (σ':Heap) (v:Value) (w':World):Prop :=
 ∃ ι',Inv ⟨w',s.Y,σ',ι'⟩∧Ev s ⟨w',s.Y,σ',ι'⟩∧PVR ⟨w',s.Y,σ',ι'⟩ x v
def Z59 (X:Ctx) (call:Z05):Prop :=
 ∀ (c:Callee) (args:List PV) (r:PV) (σ':Heap) (s:St),call c args s.σ = some (r,σ')→Inv s→Z0W X s→∀ vs,PVRs s args vs →
  match c with
  | .fn f => (callFunc f vs).run X.P s.w = .ok (.enter f vs) s.w∧Calls X.P f vs s.w fun en w' => ∃ v,en = .returned v∧Post s r σ' v w'
  | .yld id => ∃ l fn tmps assign body,(Instr.yield (s.ι id) vs).run X.P s.w = .ok (.round l fn tmps assign body) s.w ∧
    ∀ m,RoundIn Fence.wide m X.P l fn tmps assign body s.w fun en w' => ∃ v,en = .returned v∧Post s r σ' v w'
def Z88 (s:St) (a:Act) (dst:Option Tmp) (x:PV) (σ':Heap) (a':Act) (w':World):Prop:=∃ v,a' = a.put dst v∧Post s x σ' v w'
variable {F:Fence} {m:Nat} {P:Program} {o:Oper} {Q:Exit→Act→World→Prop}
theorem Z2A {x:PV} {σ':Heap} {q:Sem Value} (h:Gives X s x σ' (q.run P s.w)) :
  o.uponIn F m P a (Z88 s a o.dst x σ') Q ((do pure (Next.value (← q)):Sem Next).run P s.w):=by
 obtain ⟨ι',v,w',hr,h1,h2,h3⟩:=h
 simp only [Sem.run_bind,hr,Result.andThen_ok,Sem.run_pure,Oper.uponIn_value]
 exact ⟨v,rfl,ι',h1,h2,h3⟩
theorem Z1z (hi:Inv s) {x:PV} {q:Sem Value} (h:∃ v,q.run P s.w = .ok v s.w∧PVR s x v) :
  o.uponIn F m P a (Z88 s a o.dst x s.σ) Q ((do pure (Next.value (← q)):Sem Next).run P s.w):=by
 obtain ⟨v,hr,hv⟩:=h
 exact Z2A (X:=⟨P,fun _ => none,fun _ _ => none,fun _ => false,fun _ => false,false,fun _ => false,fun _ => false,fun _ => false,fun _ _ => false⟩) (by rw [hr];exact Gives.same hi hv)
theorem Calls.wide {P:Program} {f:FuncId} {args:Array Value} {w:World} {R:Ending→World→Prop} (rd:Option Nat) (h:Calls P f args w R) (m:Nat):CallsIn (Fw rd) m P f args w R :=
 (callsIn_wide (n:=m)).2 h
theorem ZAd (rd:Option Nat) (m:Nat):((Fw rd).depth.isSome = true→1≤m):=fun h => by simp [Fw,Fence.wide] at h
theorem fold_min {k:IntKind}:∀ {xs:List PV} {vs:List Value} {x r:Int},(∀ (i:Nat) (y:PV),xs[i]? = some y→∃ u,vs[i]? = some u∧PVR s y u)→xs.length = vs.length →
  Z40 (fun x y => if y < x then y else x) k x xs = some r→(vs.foldlM Builtin.min2 (.int k x)).run P s.w = .ok (.int k r) s.w
 | [],[],x,r,_,_,h => by simp [Z40] at h;subst h;simp
 | y :: xs,v :: vs,x,r,hr,hl,h => by
  obtain ⟨u,hu,hp⟩:=hr 0 y (by simp)
  simp at hu;subst hu;unfold Z40 at h
  split at h
  ·rename_i heq;cases heq
  ·rename_i a' k' b xs' heq;simp only [List.cons.injEq] at heq;obtain ⟨rfl,rfl⟩:=heq
   have:=Z2d hp;subst this
   by_cases hk:k = k'
   ·rw [if_pos hk] at h;subst hk;simp only [List.foldlM_cons,Builtin.min2,pure_bind];exact fold_min (fun i y hy => by simpa using hr (i + 1) y (by simpa using hy)) (by simpa using hl) h
   ·rw [if_neg hk] at h;cases h
  ·cases h
 | [],_ :: _,_,_,_,hl,_ => by simp at hl
 | _ :: _,[],_,_,_,hl,_ => by simp at hl
theorem fold_max {k:IntKind}:∀ {xs:List PV} {vs:List Value} {x r:Int},(∀ (i:Nat) (y:PV),xs[i]? = some y→∃ u,vs[i]? = some u∧PVR s y u)→xs.length = vs.length →
  Z40 (fun x y => if y > x then y else x) k x xs = some r→(vs.foldlM Builtin.max2 (.int k x)).run P s.w = .ok (.int k r) s.w
 | [],[],x,r,_,_,h => by simp [Z40] at h;subst h;simp
 | y :: xs,v :: vs,x,r,hr,hl,h => by
  obtain ⟨u,hu,hp⟩:=hr 0 y (by simp)
  simp at hu;subst hu;unfold Z40 at h
  split at h
  ·rename_i heq;cases heq
  ·rename_i a' k' b xs' heq;simp only [List.cons.injEq] at heq;obtain ⟨rfl,rfl⟩:=heq
   have:=Z2d hp;subst this
   by_cases hk:k = k'
   ·rw [if_pos hk] at h;subst hk;simp only [List.foldlM_cons,Builtin.max2,pure_bind];exact fold_max (fun i y hy => by simpa using hr (i + 1) y (by simpa using hy)) (by simpa using hl) h
   ·rw [if_neg hk] at h;cases h
  ·cases h
 | [],_ :: _,_,_,_,hl,_ => by simp at hl
 | _ :: _,[],_,_,_,hl,_ => by simp at hl
theorem pvrs_one {x:PV} {vs:Array Value} (h:PVRs s [x] vs):∃ v,vs = #[v]∧PVR s x v:=by
 obtain ⟨h1,h2⟩:=h
 have hs:vs.size = 1:=h1.symm
 refine ⟨vs[0],?_,?_⟩
 ·apply Array.ext
  ·simp [hs]
  ·intro i q1 q2;have:i = 0:=by omega
   subst this;rfl
 ·have:=h2 0 x (by simp)
  simpa [Y7,hs] using this
theorem pvrs_two {x y:PV} {vs:Array Value} (h:PVRs s [x,y] vs):∃ v u,vs = #[v,u]∧PVR s x v∧PVR s y u:=by
 obtain ⟨h1,h2⟩:=h
 have hs:vs.size = 2:=h1.symm
 refine ⟨vs[0],vs[1],?_,?_,?_⟩
 ·apply Array.ext
  ·simp [hs]
  ·intro i q1 q2;have:i = 0∨i = 1:=by omega
   rcases this with rfl | rfl <;> rfl
 ·have:=h2 0 x (by simp)
  simpa [Y7,hs] using this
 ·have:=h2 1 y (by simp)
  simpa [Y7,hs] using this
theorem builtin_ok (hi:Inv s) {id0:Nat} (hid:s.σ.ent id0 = .none) (hnx:id0 < s.σ.nx) {b:Builtin} {ts:Array TypeId} {ty:TypeId} {args:List PV} {vs:Array Value} {x:PV} {σ':Heap}
  (hv:PVRs s args vs) (h:Z0X P s.σ id0 b ts.toList args = some (x,σ')):∃ q:Sem Value,(∀ cs,builtin b ts ty cs vs = (do pure (Next.value (← q))))∧Gives X s x σ' (q.run P s.w):=by
 unfold Z0X at h
 split at h
 ·rename_i t y hts;obtain ⟨v,rfl,hx⟩:=pvrs_one hv
  simp only [Y1,Y3] at h;obtain ⟨r,hr,rfl,rfl⟩:=h
  obtain ⟨z,h1,h2⟩:=len_ok (P:=P) (ty:=ty) (ts:=ts) (by rw [← Y0L,hts];rfl) hx hr
  exact ⟨_,fun _ => rfl,by rw [h1];exact .same hi h2⟩
 ·rename_i t t' y z hts;obtain ⟨v,u,rfl,hx,hy⟩:=pvrs_two hv
  by_cases ht:t = t'
  ·rw [if_pos ht] at h;subst ht;have hts':ts = #[t,t]:=by rw [← Array.toArray_toList (xs:=ts),hts]
   subst hts';exact ⟨_,fun _ => rfl,append_ok hi hid hnx hx hy h⟩
  ·rw [if_neg ht] at h;cases h
 ·rename_i t t' y z hts;obtain ⟨v,u,rfl,hx,hy⟩:=pvrs_two hv
  have hts':ts = #[t,t']:=by rw [← Array.toArray_toList (xs:=ts),hts]
  subst hts';exact ⟨_,fun _ => rfl,copy_ok hi hx hy h⟩
 ·rename_i k x0 xs;simp only [Y1,Y3] at h;obtain ⟨r,hr,rfl,rfl⟩:=h
  obtain ⟨h1,h2⟩:=hv
  have hlt:0 < vs.size:=by rw [← h1];simp
  have h0:=h2 0 (.v (.int k x0)) (by simp)
  simp only [Y7,Yh hlt,Y0X] at h0;have e0:=Z2d h0
  obtain ⟨tl,htl⟩ : ∃ tl,vs.toList = .int k x0 :: tl:=by
   cases hl:vs.toList with
   | nil => simp [← Y0I,hl] at hlt
   | cons q tl =>
    refine ⟨tl,?_⟩;have:vs[0] = q:=by simp [← Array.getElem_toList,hl]
    rw [← this,e0]
  refine ⟨_,fun _ => rfl,?_⟩
  have hf:=fold_min (s:=s) (P:=P) (k:=k) (xs:=xs) (vs:=tl) (x:=x0) (r:=r) (fun i y hy => by
   have:=h2 (i + 1) y (by simpa using hy)
   have hlt2:i + 1 < vs.size:=by rw [← h1];have:=(List.getElem?_eq_some_iff.1 hy).1;simp;omega
   refine ⟨vs[i + 1],?_,by simpa [Y7,hlt2] using this⟩
   have e:vs.toList[i + 1]? = some vs[i + 1]:=by simp [hlt2]
   rw [htl] at e;simpa using e) (by
   have:vs.toList.length = tl.length + 1:=by rw [htl];simp
   simp at h1 this;omega) hr
  simp only [Builtin.min_,htl,hf];exact .same hi (.v (.int _ _))
 ·rename_i k x0 xs;simp only [Y1,Y3] at h;obtain ⟨r,hr,rfl,rfl⟩:=h
  obtain ⟨h1,h2⟩:=hv
  have hlt:0 < vs.size:=by rw [← h1];simp
  have h0:=h2 0 (.v (.int k x0)) (by simp)
  simp only [Y7,Yh hlt,Y0X] at h0;have e0:=Z2d h0
  obtain ⟨tl,htl⟩ : ∃ tl,vs.toList = .int k x0 :: tl:=by
   cases hl:vs.toList with
   | nil => simp [← Y0I,hl] at hlt
   | cons q tl =>
    refine ⟨tl,?_⟩;have:vs[0] = q:=by simp [← Array.getElem_toList,hl]
    rw [← this,e0]
  refine ⟨_,fun _ => rfl,?_⟩
  have hf:=fold_max (s:=s) (P:=P) (k:=k) (xs:=xs) (vs:=tl) (x:=x0) (r:=r) (fun i y hy => by
   have:=h2 (i + 1) y (by simpa using hy)
   have hlt2:i + 1 < vs.size:=by rw [← h1];have:=(List.getElem?_eq_some_iff.1 hy).1;simp;omega
   refine ⟨vs[i + 1],?_,by simpa [Y7,hlt2] using this⟩
   have e:vs.toList[i + 1]? = some vs[i + 1]:=by simp [hlt2]
   rw [htl] at e;simpa using e) (by
   have:vs.toList.length = tl.length + 1:=by rw [htl];simp
   simp at h1 this;omega) hr
  simp only [Builtin.max_,htl,hf];exact .same hi (.v (.int _ _))
 ·cases h
end Go.Dn

namespace Go.Dn
open Go
variable {X:Ctx} {s:St} {n:Nat} {e:Env} {a:Act} {o:Oper} {Q:Exit→Act→World→Prop} {m:Nat}
theorem Z69 {xs ys:List PV} {us vs:Array Value} (h1:PVRs s xs us) (h2:PVRs s ys vs):PVRs s (xs ++ ys) (us ++ vs):=by
 refine ⟨by simp [h1.1,h2.1],fun i x hi => ?_⟩
 by_cases hlt:i < xs.length
 ·rw [YK hlt] at hi;have:=h1.2 i x hi
  have hlt':i < us.size:=by rw [← h1.1];exact hlt
  simpa [Y7,Array.getElem?_append,hlt'] using this
 ·rw [YN (by omega)] at hi
  have:=h2.2 _ x hi
  have hlt':¬ i < us.size:=by rw [← h1.1];exact hlt
  simpa [Y7,Array.getElem?_append,hlt',h1.1] using this
theorem clo_inv {f:FuncId} {first caps:List PV} {v:Value} (h:PVR s (.clo f first caps) v):∃ fv cv,v = .func (.func f) fv cv∧PVRs s first fv∧PVRs s caps cv:=by
 cases h with
 | clo hf hc h1 h2 => exact ⟨_,_,rfl,⟨hf,h1⟩,⟨hc,h2⟩⟩
theorem fn_inv {f:FuncId} {v:Value} (h:PVR s (.v (.fn f)) v):v = .func (.func f) #[] #[]:=by cases h with | v h => cases h;rfl
theorem ZCE {f:FuncId} {vs:Array Value} {x:PV} {σ':Heap} {rd:Option Nat} (h1:(callFunc f vs).run X.P s.w = .ok (.enter f vs) s.w)
  (h2:Calls X.P f vs s.w fun en w' => ∃ v,en = .returned v∧Post s x σ' v w') :
  o.uponIn (Fw rd) m X.P a (Z88 s a o.dst x σ') Q ((callFunc f vs).run X.P s.w):=by
 rw [h1,Oper.uponIn_enter]
 refine ⟨ZAd rd m,(Calls.wide rd h2 (m - 1)).mono fun en w' hh => ?_⟩
 obtain ⟨v,rfl,hp⟩:=hh
 exact ⟨v,rfl,hp⟩
theorem Z5M (hG:Z0W X s) (he:EnvR s n e a) {x:Option Operand} {y:Option PV} (h:optD X e x = some y):OptR s y (x.map a.eval):=by
 cases x with
 | none => simp [optD] at h;subst h;trivial
 | some x =>
  simp only [optD,Y1] at h;obtain ⟨z,hz,rfl⟩:=h
  exact ZB hG he hz
theorem callop_ok {call:Z05} (hcall:Z59 X call) (hG:Z0W X s) (he:EnvR s n e a) (hi:Inv s) {id0:Nat} (hid:s.σ.ent id0 = .none) (hnx:id0 < s.σ.nx) {c:Call} (ho:o.op = .call c) {x:PV} {σ':Heap}
  {rd:Option Nat} (h:Zx X call e s.σ id0 c = some (x,σ')):o.uponIn (Fw rd) m X.P a (Z88 s a o.dst x σ') Q ((execOp a.eval o).run X.P s.w):=by
 unfold Zx at h
 split at h
 ·cases h
 ·rename_i args hargs;have hv:=Z3Y hG he hargs
  have hex:∀ d,resolve a.eval c o.type = pure d→(execOp a.eval o).run X.P s.w = (invoke d.target d.args).run X.P s.w:=fun d hd => by
   simp [execOp,ho,hd]
  split at h
  ·rename_i b hc;obtain ⟨q,hq,hg⟩:=builtin_ok (X:=X) (ty:=o.type) hi hid hnx hv h
   rw [hex _ (by simp only [resolve,hc];rfl)]
   simp only [invoke];rw [hq];exact Z2A hg
  ·cases h
  ·rename_i f hc
   split at h
   ·rename_i fid hf;have hfv:=fn_inv (ZB hG he hf)
    rw [hex { target:=.fn (.func fid) #[],args:=#[] ++ c.args.map a.eval } (by simp only [resolve,hc,hfv,Deferred.ofValue])]
    obtain ⟨h1,h2⟩:=hcall (.fn fid) args x σ' s h hi hG (c.args.map a.eval) hv
    simp only [invoke,Array.append_empty,Y16];exact ZCE h1 h2
   ·rename_i fid first caps hf;obtain ⟨fv,cv,hfv,hf1,hf2⟩:=clo_inv (ZB hG he hf)
    rw [hex { target:=.fn (.func fid) cv,args:=fv ++ c.args.map a.eval } (by simp only [resolve,hc,hfv,Deferred.ofValue])]
    obtain ⟨h1,h2⟩:=hcall (.fn fid) (first ++ args ++ caps) x σ' s h hi hG (fv ++ c.args.map a.eval ++ cv) (Z69 (Z69 hf1 hv) hf2)
    simp only [invoke];exact ZCE h1 h2
   ·rename_i id hf;have hyl:a.eval f = .func (.yield (s.ι id)) #[] #[]:=by
     have:=ZB hG he hf
     cases hv2:a.eval f <;> rw [hv2] at this <;> cases this
     rfl
    rw [hex { target:=.fn (.yield (s.ι id)) #[],args:=#[] ++ c.args.map a.eval } (by simp only [resolve,hc,hyl,Deferred.ofValue])]
    obtain ⟨l,fn,tmps,assign,body,h1,h2⟩:=hcall (.yld id) args x σ' s h hi hG (c.args.map a.eval) hv
    simp only [invoke,Y16];rw [h1,Oper.uponIn_round];refine ⟨ZAd rd m,?_⟩;have h3:=h2 (m - 1)
    refine RoundIn.mono (F:=Fw rd) h3 fun en w' hh => ?_
    obtain ⟨v,rfl,hp⟩:=hh
    exact ⟨v,rfl,hp⟩
   ·cases h
theorem step_ok {call:Z05} (hcall:Z59 X call) (hG:Z0W X s) (he:EnvR s n e a) (hi:Inv s) {id0:Nat} (hid:s.σ.ent id0 = .none) (hnx:id0 < s.σ.nx) {x:PV} {σ':Heap}
  {rd:Option Nat} (h:Z5 X call e s.σ id0 o.op = some (x,σ')):o.uponIn (Fw rd) m X.P a (Z88 s a o.dst x σ') Q ((o.semAt (Fw rd).round a.eval).run X.P s.w):=by
 have hnd:∀ c,o.op ≠ .defer c:=by
  intro c hc;rw [hc] at h;simp [Z5] at h
 rw [Oper.semAt_eq _ _ _ hnd]
 cases ho:o.op <;> rw [ho] at h <;> simp only [Z5] at h <;> (try (cases h;done))
 case move y =>
  simp only [Y1,Y3] at h;obtain ⟨z,hz,rfl,rfl⟩:=h
  simp only [execOp,ho,Sem.run_pure,Oper.uponIn_value];exact ⟨_,rfl,s.ι,hi,Ev.refl s,ZB hG he hz⟩
 case assign y =>
  simp only [Y1,Y3] at h;obtain ⟨z,hz,rfl,rfl⟩:=h
  simp only [execOp,ho,Sem.run_pure,Oper.uponIn_value];exact ⟨_,rfl,s.ι,hi,Ev.refl s,ZB hG he hz⟩
 case pick c y z =>
  split at h
  ·rename_i hc;have hcv:=Z3F (ZB hG he hc)
   simp only [Y1,Y3] at h;obtain ⟨q,hq,rfl,rfl⟩:=h
   simp only [execOp,ho,hcv,asBool,Sem.run_bind,Sem.run_pure,Result.andThen_ok,Oper.uponIn_value,if_true];exact ⟨_,rfl,s.ι,hi,Ev.refl s,ZB hG he hq⟩
  ·rename_i hc;have hcv:=Z3F (ZB hG he hc)
   simp only [Y1,Y3] at h;obtain ⟨q,hq,rfl,rfl⟩:=h
   simp only [execOp,ho,hcv,asBool,Sem.run_bind,Sem.run_pure,Result.andThen_ok,Oper.uponIn_value,YA,if_false];exact ⟨_,rfl,s.ι,hi,Ev.refl s,ZB hG he hq⟩
  ·cases h
 case alloc t =>
  simp only [Y1] at h;obtain ⟨z,hz,hzz⟩:=h
  obtain ⟨v,h1,h2,h3⟩:=tzero_ok (s:=s) hz
  have hg:=Z9u (X:=X) (P:=X.P) hi hid hnx (t:=t) h2 h3
  rw [hzz] at hg;simp only [execOp,ho];refine Z2A (X:=X) ?_
  simp only [Instr.alloc,Sem.run_bind,h1,Result.andThen_ok]
  simpa using hg
 case box t y =>
  simp only [Y1,Y4] at h;obtain ⟨cs,⟨z,hz,hcs⟩,hzz⟩:=h
  obtain ⟨c1,c2⟩:=ZBF hcs (ZB hG he hz)
  have hg:=Z9u (X:=X) (P:=X.P) hi hid hnx (t:=t) c1 c2
  rw [hzz] at hg;simp only [execOp,ho];exact Z2A (X:=X) hg
 case build t parts =>
  simp only [Y1,Y3] at h;obtain ⟨z,hz,rfl,rfl⟩:=h
  simp only [execOp,ho];exact Z1z hi (build_ok hG he hz)
 case buildSlice t len parts =>
  simp only [execOp,ho];exact Z2A (X:=X) (buildSlice_ok hG he hi hid hnx h)
 case load t y =>
  simp only [Y1,Y4,Y3] at h;obtain ⟨z,⟨p,hp,hz⟩,rfl,rfl⟩:=h
  simp only [execOp,ho];exact Z2A (X:=X) (load_gives hi (ZB hG he hp) hz)
 case store t y z =>
  split at h
  ·rename_i p q hp hq;simp only [Y1,Y3] at h;obtain ⟨σ1,hs,rfl,rfl⟩:=h
   obtain ⟨ι',w',h1,h2,h3⟩:=store_ok hi (ZB hG he hp) (ZB hG he hq) hs
   simp only [execOp,ho,Sem.run_bind,h1,Result.andThen_ok,Sem.run_pure,Oper.uponIn_skip];exact ⟨_,rfl,ι',h2,h3,.undef⟩
  ·cases h
 case nilCheck y =>
  have same:∀ z,Z0 X e y = some z→(∀ b,a.eval y ≠ .pointer none∨b)→True:=fun _ _ _ => trivial
  split at h
  ·rename_i id ver off hy
   by_cases hc:s.σ.cur id ver = true
   ·rw [if_pos hc] at h;cases h;have hp:=ZB hG he hy
    have hv:=ptr_inv hp hc
    simp only [execOp,ho];rw [hv];simp only [Sem.run_pure,Oper.uponIn_value];exact ⟨_,rfl,s.ι,hi,Ev.refl s,by rw [← hv];exact hp⟩
   ·rw [if_neg hc] at h;cases h
  ·rename_i cs hy;cases h;have hp:=ZB hG he hy
   simp only [execOp,ho];generalize a.eval y = v at hp;cases hp with
   | fptr himm hcell =>
    simp only [Sem.run_pure,Oper.uponIn_value];exact ⟨_,rfl,s.ι,hi,Ev.refl s,.fptr himm hcell⟩
  ·rename_i f fi ca hy;cases h;have hp:=ZB hG he hy
   obtain ⟨fv,cv,hv,_,_⟩:=clo_inv hp
   simp only [execOp,ho];rw [hv];simp only [Sem.run_pure,Oper.uponIn_value];exact ⟨_,rfl,s.ι,hi,Ev.refl s,by rw [← hv];exact hp⟩
  ·rename_i f hy;cases h;have hp:=ZB hG he hy
   have hv:=fn_inv hp
   simp only [execOp,ho];rw [hv];simp only [Sem.run_pure,Oper.uponIn_value];exact ⟨_,rfl,s.ι,hi,Ev.refl s,by rw [← hv];exact hp⟩
  ·rename_i id hy;cases h;have hp:=ZB hG he hy
   simp only [execOp,ho];generalize a.eval y = v at hp;cases hp with
   | yld hl =>
    simp only [Sem.run_pure,Oper.uponIn_value];exact ⟨_,rfl,s.ι,hi,Ev.refl s,.yld hl⟩
  ·cases h
 case binOp op t y z ty =>
  split at h
  ·rename_i p q hp hq;simp only [Y1,Y3] at h;obtain ⟨r,hr,rfl,rfl⟩:=h
   simp only [execOp,ho];exact Z1z hi (bin_ok (ZB hG he hp) (ZB hG he hq) hr y z)
  ·cases h
 case unOp op t y =>
  simp only [Y1,Y4,Y3] at h;obtain ⟨r,⟨p,hp,hr⟩,rfl,rfl⟩:=h
  simp only [execOp,ho];exact Z1z hi (un_ok (ZB hG he hp) hr)
 case convert src dst y =>
  simp only [Y1,Y4,Y3] at h;obtain ⟨r,⟨p,hp,hr⟩,rfl,rfl⟩:=h
  simp only [execOp,ho];exact Z1z hi (conv_ok (ZB hG he hp) hr)
 case makeFunc fn first caps =>
  cases fn with
  | func f =>
   simp only at h;have hx:σ' = s.σ∧∃ z,PVR s x (.func (.func f) (first.map a.eval) (caps.map a.eval))∧z = x:=by
    split at h
    ·rename_i h1 h2;cases h;have e1:=Z3Y hG he h1
     have e2:=Z3Y hG he h2
     have f1:first.map a.eval = #[]:=Y0i e1.1.symm
     have f2:caps.map a.eval = #[]:=Y0i e2.1.symm
     rw [f1,f2];exact ⟨rfl,_,.v (.fn f),rfl⟩
    ·rename_i h1 h2;cases h;have e1:=Z3Y hG he h1
     have e2:=Z3Y hG he h2
     exact ⟨rfl,_,.clo e1.1 e2.1 e1.2 e2.2,rfl⟩
    ·cases h
   obtain ⟨rfl,_,hx,_⟩:=hx
   simp only [execOp,ho];exact Z1z hi ⟨_,by simp only [Instr.makeFunc,Sem.run_pure],hx⟩
  | _ => simp at h
 case makeSlice t y z =>
  split at h
  ·rename_i p q hp hq;simp only [execOp,ho];exact Z2A (X:=X) (make_ok hi hid hnx (ZB hG he hp) (ZB hG he hq) h)
  ·cases h
 case slice t y lo hi' mx =>
  have hrun:(execOp a.eval o).run X.P s.w = ((do pure (Next.value (← Instr.sliceAt t (a.eval y) (lo.map a.eval) (hi'.map a.eval) (mx.map a.eval))):Sem Next)).run X.P s.w:=by
   simp only [execOp,ho]
  rw [hrun]
  split at h
  ·rename_i id len sz q1 q2 q3 h1 h2 h3 h4
   split at h
   ·simp only [Y1,Y3] at h;obtain ⟨r,hr,rfl,rfl⟩:=h
    exact Z1z hi (view_ok (ZB hG he h1) (Z5M hG he h2) (Z5M hG he h3) (Z5M hG he h4) hr)
   simp only [Y4,Y1,Y3] at h;obtain ⟨⟨z,σ1⟩,hz,w1,hw1,rfl,rfl⟩:=h
   obtain ⟨e1,f1⟩:=exp6 hz hi (ZB hG he h1)
   have hev:=e1.2
   have up:∀ {p:Option PV} {q:Option Value},OptR s p q→OptR ⟨s.w,s.Y,σ1,s.ι⟩ p q:=by
    intro p q hpq;cases p <;> cases q <;> first | exact hpq | exact hev.pvr hpq
   obtain ⟨u,u1,u2⟩:=slice_ok (s:=⟨s.w,s.Y,σ1,s.ι⟩) (P:=X.P) (.v f1) (up (Z5M hG he h2)) (up (Z5M hG he h3)) (up (Z5M hG he h4)) hw1
   refine Z2A (X:=X) ⟨s.ι,u,s.w,u1,e1.1,e1.2,u2⟩
  ·rename_i p q1 q2 q3 hnb h1 h2 h3 h4;simp only [Y1,Y3] at h;obtain ⟨r,hr,rfl,rfl⟩:=h
   exact Z1z hi (slice_ok (ZB hG he h1) (Z5M hG he h2) (Z5M hG he h3) (Z5M hG he h4) hr)
  ·cases h
 case fieldAddr t y f =>
  simp only [Y1,Y4,Y3] at h;obtain ⟨r,⟨p,hp,hr⟩,rfl,rfl⟩:=h
  simp only [execOp,ho];exact Z1z hi (fieldAddr_ok (ZB hG he hp) hr)
 case field t y f =>
  simp only [Y1,Y4,Y3] at h;obtain ⟨r,⟨p,hp,hr⟩,rfl,rfl⟩:=h
  simp only [execOp,ho];exact Z1z hi (field_ok (ZB hG he hp) hr)
 case indexAddr t y z =>
  split at h
  ·rename_i p q hp hq;simp only [Y1,Y3] at h;obtain ⟨r,hr,rfl,rfl⟩:=h
   simp only [execOp,ho];exact Z1z hi (indexAddr_ok hi (ZB hG he hp) (ZB hG he hq) hr)
  ·cases h
 case index t y z =>
  split at h
  ·rename_i p q hp hq;simp only [Y1,Y3] at h;obtain ⟨r,hr,rfl,rfl⟩:=h
   simp only [execOp,ho];exact Z1z hi (index_ok (ZB hG he hp) (ZB hG he hq) hr)
  ·cases h
 case extract y k =>
  split at h
  ·rename_i xs hy;simp only [Y1,Y3] at h;obtain ⟨r,hr,rfl,rfl⟩:=h
   have hp:=ZB hG he hy
   simp only [execOp,ho];generalize a.eval y = v at hp;cases hp with
   | @tup _ vs hs hh =>
    have hlt:k < vs.size:=by rw [← hs];exact (List.getElem?_eq_some_iff.1 hr).1
    have:=hh k r hr
    refine Z1z hi ⟨vs[k],by simp [Instr.extract,hlt],?_⟩
    simpa [Y7,hlt] using this
  ·cases h
 case makeMap t r =>
  cases r with
  | some r => simp at h
  | none =>
   simp only at h
   split at h
   ·cases h;simp only [execOp,ho];exact Z2A (X:=X) (makeMap_gives hi hid hnx)
   ·cases h
 case lookup t y k c =>
  cases c with
  | true => simp at h
  | false =>
   simp only at h
   split at h
   ·rename_i p q hp hq;simp only [Y1,Y3] at h;obtain ⟨r,hr,rfl,rfl⟩:=h
    simp only [execOp,ho];exact Z1z hi (lookup_ok hi (ZB hG he hp) (ZB hG he hq) hr)
   ·cases h
 case mapEntry t y k =>
  split at h
  ·rename_i p q hp hq;simp only [execOp,ho];exact Z2A (X:=X) (ZC6 hi (ZB hG he hp) (ZB hG he hq) h)
  ·cases h
 case mapUpdate t y i z =>
  split at h
  ·rename_i p q r hp hq hr;simp only [Y1,Y3] at h;obtain ⟨σ1,hs,rfl,rfl⟩:=h
   obtain ⟨ι',w',h1,h2,h3⟩:=mapUpdate_ok (t:=t) (P:=X.P) hi (ZB hG he hp) (ZB hG he hq) (ZB hG he hr) hs
   simp only [execOp,ho,Sem.run_bind,h1,Result.andThen_ok,Sem.run_pure,Oper.uponIn_skip];exact ⟨_,rfl,ι',h2,h3,.undef⟩
  ·cases h
 case entryStore t y i z =>
  split at h
  ·rename_i p q r hp hq hr;simp only [Y1,Y3] at h;obtain ⟨σ1,hs,rfl,rfl⟩:=h
   obtain ⟨ι',w',h1,h2,h3⟩:=entryStore_ok (t:=t) (P:=X.P) hi (ZB hG he hp) (ZB hG he hq) (ZB hG he hr) hs
   simp only [execOp,ho,Sem.run_bind,h1,Result.andThen_ok,Sem.run_pure,Oper.uponIn_skip];exact ⟨_,rfl,ι',h2,h3,.undef⟩
  ·cases h
 case call c =>
  exact callop_ok hcall hG he hi hid hnx ho h
end Go.Dn

namespace Go.Dn
open Go
variable {X:Ctx} {s:St} {n:Nat} {e:Env} {a:Act} {Q:Exit→Act→World→Prop} {m:Nat}
theorem ZAH:∀ {xs ys:List PV} {σ σ':Heap},Z2g σ xs = some (ys,σ')→Tame σ none σ'
 | [],ys,σ,σ',h => by simp [Z2g] at h;rw [← h.2];exact Tame.refl _ _
 | x :: xs,ys,σ,σ',h => by
  simp only [Z2g,Y4,Y5,Y3] at h;obtain ⟨⟨y,σ1⟩,h1,⟨zs,σ2⟩,h2,_,rfl⟩:=h
  exact (Z6L h1).trans (ZAH h2)
theorem expRes_tame {σ:Heap} {x y:PV} {σ':Heap} (h:Z1C σ x = some (y,σ')):Tame σ none σ':=by
 unfold Z1C at h
 split at h
 ·simp only [Y4,Y5,Y3] at h;obtain ⟨⟨ys,σ1⟩,h1,_,rfl⟩:=h
  exact ZAH h1
 ·exact Z6L h
theorem expArg_tame {σ:Heap} {x y:PV} {σ':Heap} (h:Z4S σ x = some (y,σ')):Tame σ none σ':=by
 unfold Z4S at h
 split at h
 ·cases h;exact Tame.refl _ _
 ·cases h;exact Tame.refl _ _
 ·cases h;exact Tame.refl _ _
 ·exact Z6L h
theorem Z7F:∀ {xs ys:List PV} {σ σ':Heap},Z13 σ xs = some (ys,σ')→Tame σ none σ'
 | [],ys,σ,σ',h => by simp [Z13] at h;rw [← h.2];exact Tame.refl _ _
 | x :: xs,ys,σ,σ',h => by
  simp only [Z13,Y4,Y5,Y3] at h;obtain ⟨⟨y,σ1⟩,h1,⟨zs,σ2⟩,h2,_,rfl⟩:=h
  exact (expArg_tame h1).trans (Z7F h2)
theorem storeD_tame {P:Program} {σ:Heap} {t:TypeId} {x p:PV} {σ':Heap} {id0:Option Nat} (h:Z5i P σ t x p = some σ'):Tame σ id0 σ':=by
 unfold Z5i at h
 split at h
 ·split at h
  ·rename_i hb
   split at h
   ·split at h
    ·split at h
     ·cases h;exact Tame.Z6C id0 (by rw [hb];simp)
     ·cases h
    ·cases h
   ·cases h
  ·cases h
 ·cases h
theorem appendD_tame {P:Program} {σ:Heap} {id0:Nat} {t:TypeId} {x y z:PV} {σ':Heap} (h:Z2E P σ id0 t x y = some (z,σ')):Tame σ (some id0) σ':=by
 unfold Z2E at h
 split at h
 ·cases h
 ·split at h
  ·split at h
   ·cases h
   ·split at h
    ·cases h
    ·split at h
     ·split at h
      ·cases h;exact Tame.refl _ _
      ·split at h
       ·cases h;exact Tame.Z3d _ _ _
       ·cases h
     ·split at h
      ·cases h
      ·split at h
       ·cases h;exact Tame.Z3d _ _ _
       ·cases h
     ·split at h
      ·rename_i hb
       split at h
       ·cases h;exact Tame.Z6C _ (by rw [hb];simp)
       ·cases h
      ·cases h
     ·cases h
  ·cases h
theorem copyD_tame {P:Program} {σ:Heap} {id0:Option Nat} {t:TypeId} {x y z:PV} {σ':Heap} (h:Z99 P σ t x y = some (z,σ')):Tame σ id0 σ':=by
 unfold Z99 at h
 split at h
 ·cases h
 ·split at h
  ·cases h
  ·split at h
   ·split at h
    ·rename_i hb
     split at h
     ·cases h;exact Tame.Z6C _ (by rw [hb];simp)
     ·cases h
    ·cases h
   ·split at h
    ·rename_i hb
     split at h
     ·cases h;exact Tame.Z6C _ (by rw [hb];simp)
     ·cases h
    ·cases h
   ·cases h
theorem makeD_tame {P:Program} {σ:Heap} {id0:Nat} {t:TypeId} {x y z:PV} {σ':Heap} (h:makeD P σ id0 t x y = some (z,σ')):Tame σ (some id0) σ':=by
 unfold makeD at h
 split at h
 ·split at h
  ·split at h
   ·cases h;exact Tame.Z3d _ _ _
   ·cases h
  ·cases h
 ·cases h
theorem builtinD_tame {P:Program} {σ:Heap} {id0:Nat} {b:Builtin} {ts:List TypeId} {args:List PV} {z:PV} {σ':Heap} (h:Z0X P σ id0 b ts args = some (z,σ')):Tame σ (some id0) σ':=by
 unfold Z0X at h
 split at h
 ·simp only [Y1,Y3] at h;obtain ⟨_,_,_,rfl⟩:=h;exact Tame.refl _ _
 ·split at h
  ·exact appendD_tame h
  ·cases h
 ·exact copyD_tame h
 ·simp only [Y1,Y3] at h;obtain ⟨_,_,_,rfl⟩:=h;exact Tame.refl _ _
 ·simp only [Y1,Y3] at h;obtain ⟨_,_,_,rfl⟩:=h;exact Tame.refl _ _
 ·cases h
theorem ZB3 {X:Ctx} {σ:Heap} {id0:Nat} {t:TypeId} {len:Nat} {parts:List (Nat × Operand)} {z:PV} {σ':Heap} (h:Z1e X e σ id0 t len parts = some (z,σ')):Tame σ (some id0) σ':=by
 unfold Z1e at h
 simp only [Y4] at h
 obtain ⟨ps,_,⟨qs,σ1⟩,hq,h⟩:=h
 refine (ZCu hq).weak.trans ?_
 unfold Z2W at h
 split at h
 ·split at h
  ·split at h
   ·simp only [Y1,Y3] at h;obtain ⟨_,_,_,rfl⟩:=h;exact Tame.Z3d _ _ _
   ·cases h
  ·cases h
 ·cases h
theorem callOpD_tame {call:Z05} (hc:Z1l call) {σ:Heap} {id0:Nat} {c:Call} {z:PV} {σ':Heap} (h:Zx X call e σ id0 c = some (z,σ')):Tame σ (some id0) σ':=by
 unfold Zx at h
 split at h
 ·cases h
 ·split at h
  ·exact builtinD_tame h
  ·cases h
  ·split at h
   ·exact (hc _ _ _ _ _ h).weak
   ·exact (hc _ _ _ _ _ h).weak
   ·exact (hc _ _ _ _ _ h).weak
   ·cases h
theorem mentryD_tame {P:Program} {σ:Heap} {t:TypeId} {x k z:PV} {σ':Heap} {id0:Option Nat} (h:ZA7 P σ t x k = some (z,σ')):Tame σ id0 σ':=by
 unfold ZA7 at h
 split at h
 ·split at h
  ·split at h
   ·rename_i hb
    split at h <;> cases h <;> exact Tame.Z6C id0 (by rw [hb];simp)
   ·cases h
  ·cases h
 ·cases h
theorem mstoreD_tame {σ:Heap} {x k v:PV} {σ':Heap} {id0:Option Nat} (h:ZA4 σ x k v = some σ'):Tame σ id0 σ':=by
 unfold ZA4 at h
 split at h
 ·split at h
  ·rename_i hb
   split at h
   ·cases h;exact Tame.Z6C id0 (by rw [hb];simp)
   ·cases h
  ·cases h
 ·cases h
theorem mupdD_tame {P:Program} {σ:Heap} {t:TypeId} {x k v:PV} {σ':Heap} {id0:Option Nat} (h:mupdD P σ t x k v = some σ'):Tame σ id0 σ':=by
 unfold mupdD at h
 split at h
 ·split at h
  ·split at h
   ·rename_i hb;cases h;exact Tame.Z6C id0 (by rw [hb];simp)
   ·cases h
  ·cases h
 ·cases h
theorem stepOp_tame {call:Z05} (hc:Z1l call) {σ:Heap} {id0:Nat} {op:Op} {z:PV} {σ':Heap} (h:Z5 X call e σ id0 op = some (z,σ')):Tame σ (some id0) σ':=by
 cases op <;> simp only [Z5] at h <;> (try (cases h;done))
 case alloc t =>
  simp only [Y1,newD,Y3] at h;obtain ⟨_,_,_,rfl⟩:=h;exact Tame.Z3d _ _ _
 case box t y =>
  simp only [Y1,newD,Y3] at h;obtain ⟨_,_,_,rfl⟩:=h;exact Tame.Z3d _ _ _
 case buildSlice => exact ZB3 h
 case store t y z =>
  split at h
  ·simp only [Y1,Y3] at h;obtain ⟨σ1,hs,_,rfl⟩:=h
   exact storeD_tame hs
  ·cases h
 case makeSlice t y z =>
  split at h
  ·exact makeD_tame h
  ·cases h
 case call c => exact callOpD_tame hc h
 case makeMap t r =>
  cases r <;> simp only [Z5] at h
  ·split at h
   ·cases h;exact Tame.Z3d _ _ _
   ·cases h
  ·cases h
 case lookup t x k c =>
  cases c <;> simp only [Z5] at h
  ·split at h
   ·simp only [Y1,Y3] at h;obtain ⟨_,_,_,rfl⟩:=h;exact Tame.refl _ _
   ·cases h
  ·cases h
 case mapEntry t x k =>
  split at h
  ·exact mentryD_tame h
  ·cases h
 case mapUpdate t x i v =>
  split at h
  ·simp only [Y1,Y3] at h;obtain ⟨_,hs,_,rfl⟩:=h
   exact mupdD_tame hs
  ·cases h
 case entryStore t x i v =>
  split at h
  ·simp only [Y1,Y3] at h;obtain ⟨_,hs,_,rfl⟩:=h
   exact mstoreD_tame hs
  ·cases h
 case slice t y lo hi mx =>
  split at h
  ·split at h
   ·simp only [Y1,Y3] at h;obtain ⟨_,_,_,rfl⟩:=h;exact Tame.refl _ _
   simp only [Y4,Y1,Y3] at h;obtain ⟨⟨q,σ1⟩,h1,_,_,_,rfl⟩:=h
   exact (Z5Q 6 _ _ _ _ h1).weak
  ·simp only [Y1,Y3] at h;obtain ⟨_,_,_,rfl⟩:=h;exact Tame.refl _ _
  ·cases h
 case makeFunc fn f c =>
  cases fn <;> simp only at h <;> (try (cases h;done))
  split at h <;> cases h <;> exact Tame.refl _ _
 case nilCheck y =>
  split at h
  ·split at h <;> cases h;exact Tame.refl _ _
  all_goals first
   | (cases h;exact Tame.refl _ _)
   | (cases h;done)
 all_goals first
  | (simp only [Y1,Y3] at h;obtain ⟨_,_,_,rfl⟩:=h;exact Tame.refl _ _)
  | (split at h <;> first
    | (simp only [Y1,Y3] at h;obtain ⟨_,_,_,rfl⟩:=h;exact Tame.refl _ _)
    | (cases h;done))
theorem EnvR.put {x:PV} {v:Value} {dst:Option Tmp} (h:EnvR s n e a) (hx:PVR s x v):EnvR s n (putD n e dst x) (a.put dst v):=by
 obtain ⟨h1,h2⟩:=h
 cases dst with
 | none => exact ⟨h1,h2⟩
 | some d =>
  refine ⟨by simp [Act.put,h1],fun t => ?_⟩
  by_cases hd:d < n
  ·simp only [putD,hd,if_true]
   by_cases ht:t = d
   ·subst ht
    simpa [ZH,Act.put,Y7,h1,hd] using hx
   ·rw [ZQ _ _ ht];have:=h2 t
    simpa [Act.put,Y7,Array.getElem?_setIfInBounds_ne (Ne.symm ht)] using this
  ·simp only [putD,hd,if_false];have hle:a.tmps.size≤d:=by rw [h1];exact Nat.le_of_not_lt hd
   have hs:a.tmps.setIfInBounds d v = a.tmps:=Array.setIfInBounds_eq_of_size_le hle
   simpa [Act.put,hs] using h2 t
theorem wanted_ok {ops:Array Oper} {o:Oper} {b:Bool} (he:EnvR s n e a) (h:Zz ops e o = some b):Region.wanted o (yielded ops a.tmps) = b:=by
 unfold Zz at h
 unfold Region.wanted
 split at h
 ·rename_i hg;cases h;rw [hg]
 ·rename_i j want hg;rw [hg];simp only
  split at h
  ·rename_i hd;cases h;simp [yielded,hd]
  ·rename_i d hd;have h2:=he.2 d
   split at h
   ·rename_i c hc;cases h;rw [hc] at h2;have h3:=Z3F h2
    have hlt:d < a.tmps.size:=by
     rcases YI d a.tmps.size with h' | h'
     ·exact h'
     ·simp [Y7,Y0F h',Go.undef] at h3
    have h4:a.tmps[d]? = some (.bool c):=by
     simp only [Y7,Yh hlt,Y0X] at h3 ⊢;rw [h3]
    simp [yielded,hd,h4]
   ·rename_i hc;cases h;rw [hc] at h2;have h3:a.tmps.getD d Go.undef = Go.undef:=by generalize a.tmps.getD d Go.undef = v at h2;cases h2;rfl
    have h4:a.tmps[d]? = none∨a.tmps[d]? = some Go.undef:=by
     rcases YI d a.tmps.size with h' | h'
     ·simp only [Y7,Yh h',Y0X] at h3 ⊢;rw [h3];simp
     ·exact .inl (Y0F h')
    rcases h4 with h4 | h4 <;> simp [yielded,hd,h4,Go.undef]
   ·cases h
structure Then (s:St) (n:Nat) (a:Act) (e':Env) (σ':Heap) (a':Act) (w':World) (ι':Nat→Nat):Prop where
 inv:Inv ⟨w',s.Y,σ',ι'⟩
 ev:Ev s ⟨w',s.Y,σ',ι'⟩
 env:EnvR ⟨w',s.Y,σ',ι'⟩ n e' a'
 defers:a'.defers = a.defers
theorem Z9C (a:Act) (dst:Option Tmp) (v:Value):(a.put dst v).defers = a.defers:=by cases dst <;> rfl
theorem stepO_ok {call:Z05} (hcall:Z59 X call) {rd:Option Nat} {ops:Array Oper} {base i:Nat} {o:Oper} {e':Env} {σ':Heap} (hG:Z0W X s) (hi:Inv s) (he:EnvR s n e a)
  (hid:s.σ.ent (base + i) = .none) (hnx:base + i < s.σ.nx) (h:Z0s X call n ops base i o e s.σ = some (e',σ')) {K:Act→World→Prop}
  (hK:∀ a' w' ι',Then s n a e' σ' a' w' ι'→K a' w') :
  if Region.wanted o (yielded ops a.tmps) then o.wpIn (Fw rd) m X.P a s.w K Q else (∀ f,o.about X.P s.w a.eval = some f→(Fw rd).fn f)∧K (a.put o.dst Go.undef) s.w:=by
 unfold Z0s at h
 split at h
 ·rename_i hw;rw [wanted_ok he hw,if_pos rfl];simp only [Y4,Y5,Y3] at h;obtain ⟨⟨x,σ1⟩,h1,rfl,rfl⟩:=h
  have hs:=step_ok (o:=o) (Q:=Q) (m:=m) (rd:=rd) hcall hG he hi hid hnx h1
  refine Oper.wpIn_mono (K:=Z88 s a o.dst x σ1) (fun a' w' hh => ?_) ⟨fun _ _ => trivial,hs⟩
  obtain ⟨v,rfl,ι',h2,h3,h4⟩:=hh
  exact hK _ _ ι' ⟨h2,h3,(he.mono h3).put h4,Z9C _ _ _⟩
 ·rename_i hw;rw [wanted_ok he hw];simp only [YA,if_false];cases h;exact ⟨fun _ _ => trivial,hK _ _ s.ι ⟨hi,Ev.refl s,he.put .undef,Z9C _ _ _⟩⟩
 ·cases h
theorem Z7D {call:Z05} (hc:Z1l call) {ops:Array Oper} {base i:Nat} {o:Oper} {σ:Heap} {e':Env} {σ':Heap} (h:Z0s X call n ops base i o e σ = some (e',σ')):Tame σ (some (base + i)) σ':=by
 unfold Z0s at h
 split at h
 ·simp only [Y4,Y5,Y3] at h;obtain ⟨⟨x,σ1⟩,h1,_,rfl⟩:=h
  exact stepOp_tame hc h1
 ·cases h;exact Tame.refl _ _
 ·cases h
theorem runOps_ok {call:Z05} (hcall:Z59 X call) (htame:Z1l call) {rd:Option Nat} {ops:Array Oper} {base:Nat}:∀ (l:List Oper) (i:Nat) (s:St) (e:Env) (a:Act) (e':Env) (σ':Heap),Z0W X s→Inv s→EnvR s n e a →
  (∀ j,l[j]? = ops[i + j]?)→(∀ k,i≤k→k < i + l.length→s.σ.ent (base + k) = .none∧base + k < s.σ.nx)→Z2Q X call n ops base i l e s.σ = some (e',σ')→
  (∀ a' w' ι',Then s n a e' σ' a' w' ι'→Q .normal a' w')→wpOpsIn (Fw rd) m X.P ops Q (List.range' i l.length) a s.w
 | [],i,s,e,a,e',σ',hG,hi,he,hl,hf,h,hQ => by
  simp [Z2Q] at h;obtain ⟨rfl,rfl⟩:=h
  exact hQ a s.w s.ι ⟨hi,Ev.refl s,he,rfl⟩
 | o :: l,i,s,e,a,e',σ',hG,hi,he,hl,hf,h,hQ => by
  simp only [Z2Q,Y4] at h;obtain ⟨⟨e1,σ1⟩,h1,h2⟩:=h
  have h0:ops[i]? = some o:=by simpa using (hl 0).symm
  obtain ⟨f1,f2⟩:=hf i (YB _) (by simp)
  have hT:=Z7D htame h1
  have:=stepO_ok (m:=m) (Q:=Q) (rd:=rd) hcall hG hi he f1 f2 h1 (K:=wpOpsIn (Fw rd) m X.P ops Q (List.range' (i + 1) l.length)) (fun a1 w1 ι1 ht => by
   refine runOps_ok hcall htame l (i + 1) ⟨w1,s.Y,σ1,ι1⟩ e1 a1 e' σ' (hG.mono ht.ev) ht.inv ht.env (fun j => by have:=hl (j + 1);simpa [Nat.add_assoc,Nat.add_comm 1 j] using this) (fun k hk1 hk2 => ?_) h2 (fun a' w' ι' ht2 => hQ a' w' ι' ⟨ht2.inv,ht.ev.trans ht2.ev,ht2.env,ht2.defers.trans ht.defers⟩)
   obtain ⟨g1,g2⟩:=hf k (by omega) (by simp;omega)
   exact ⟨hT.2 _ g2 (by simp;omega) g1,YU g2 hT.1⟩)
  simp only [Yv,List.range'_succ,wpOpsIn,h0];exact this
def St.more (s:St) (k:Nat):St:=⟨s.w,s.Y,⟨s.σ.nx + k,s.σ.ent⟩,s.ι⟩
theorem Z3Q (k:Nat):Ev s (s.more k) where
 Y:=rfl
 size:=YB _
 keep:=fun _ _ _ => rfl
 live:=fun id h _ => ⟨id,h,rfl⟩
 blk:=fun id el cells lv h => ⟨cells,lv,h,YB _,fun _ => ⟨rfl,fun cs e fr h => ⟨cs,fr,h,rfl⟩⟩⟩
 loop:=fun id fn e n ps as_ bo st pend h => ⟨⟨st,pend,h⟩,rfl⟩
 map:=fun id kv h => ⟨⟨kv,h⟩,rfl⟩
 os:=rfl
 tape:=rfl
 output:=rfl
theorem ZCg {s':St} (hev:Ev s s') (hw:s'.w.heap = s.w.heap) (hι:s'.ι = s.ι) {id:Nat} {en:Ent} (h:EntOK s id en):EntOK s' id en:=by
 cases en with
 | none => trivial
 | blk el c lv' =>
  obtain ⟨cs,fr,q1,q2,q3,q4⟩:=h
  exact ⟨cs,fr,by rw [hw,hι];exact q1,q2,q3,fun j x hj => by obtain ⟨u,u1,u2,u3⟩:=q4 j x hj;exact ⟨u,u1,hev.pvr u2,u3⟩⟩
 | loop fn e' n ps as_ bo st pend =>
  obtain ⟨fn2,tmps,defers,q1,q2,q3⟩:=h
  exact ⟨fn2,tmps,defers,by rw [hw,hι];exact q1,q2,fun t => hev.pvr (q3 t)⟩
 | map kv => show _ = _;rw [hw,hι];exact h
theorem Z81 (hi:Inv s) (k:Nat):Inv (s.more k) :=
 ⟨fun id => ZCg (Z3Q k) rfl rfl (hi.ent id),hi.inj,hi.notY,fun id el c h => ((Z3Q k).imm _ (hi.fz id el c h)).1,fun id hn => hi.nx id (by simp only [St.more] at hn;omega),hi.Ylt⟩
theorem region_ok {call:Z05} (hcall:Z59 X call) (htame:Z1l call) {rd:Option Nat} {id:Nat} {ops:Array Oper} {e':Env} {σ':Heap} (hG:Z0W X s) (hi:Inv s) (he:EnvR s n e a)
  (h:Z2Q X call n ops s.σ.nx 0 ops.toList e ⟨s.σ.nx + ops.size,s.σ.ent⟩ = some (e',σ')) (hQ:∀ a' w' ι',Then s n a e' σ' a' w' ι'→Q .normal a' w') :
  (Code.region id ops false).wpIn (Fw rd) m X.P Q a s.w:=by
 refine wpIn_region ?_
 have:=runOps_ok (m:=m) (Q:=Q) (rd:=rd) hcall htame (ops:=ops) (base:=s.σ.nx) ops.toList 0 (s.more ops.size) e a e' σ' (hG.mono (Z3Q _)) (Z81 hi _) (he.mono (Z3Q _)) (by simp) (fun k _ hk => by
  simp only [Y0d,Y0I] at hk;exact ⟨hi.nx _ (by omega),by simp only [St.more];omega⟩) h (fun a' w' ι' ht => hQ a' w' ι' ⟨ht.inv,(Z3Q _).trans ht.ev,ht.env,ht.defers⟩)
 rw [List.range_eq_range']
 simpa [St.more] using this
end Go.Dn
