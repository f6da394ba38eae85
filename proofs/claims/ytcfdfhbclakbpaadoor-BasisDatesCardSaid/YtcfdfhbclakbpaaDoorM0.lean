/- Part 0 of what the row stands on. -/
import Derived.CallsIn
import Derived.RangeFuncIn
import Derived.RangeFuncLeaves
import Derived.OrdersIn
import Derived.Still
import Derived.Wp
import Derived.Laws.AppendOwn
import Derived.Laws.MakeOwn
import Derived.Laws.Slices
import Derived.Laws.Tables
import Derived.Laws.StructEq
set_option linter.unusedVariables false
set_option linter.unusedSimpArgs false
set_option linter.defProp false
namespace Go.Dn
def Y3:=@Option.map_eq_some_iff
def Y4:=@Option.bind_some
def Y5:=@Prod.mk.injEq
def Y9:=@Option.bind_eq_some_iff
def YA:=@Option.some.injEq
def YB:=@List.getElem?_eq_getElem
def YC:=@Array.getD_eq_getD_getElem?
def YD:=@Bool.and_eq_true
def YE:=@Option.map_some
def YF:=@Bool.false_eq_true
def YG:=@Nat.le_refl
def YH:=@List.mem_of_getElem?
def YI:=@List.flatMap_cons
def YJ:=@List.all_eq_true
def YK:=@List.flatMap_nil
def YL:=@List.append_nil
def YM:=@List.getElem?_append_left
def YN:=@Nat.lt_of_lt_of_le
def YO:=@List.getElem?_take
def YP:=@List.getElem?_map
def YQ:=@Nat.mul_le_mul_right
def YR:=@List.mem_cons_of_mem
def YS:=@List.getElem?_append_right
def YT:=@Nat.lt_or_ge
def YU:=@List.mem_cons_self
def YV:=@Bool.not_eq_true'
def YW:=@Nat.le_trans
def YX:=@List.length_cons
def YY:=@List.getElem?_drop
def YZ:=@List.mem_singleton
def Ya:=@List.mem_append
def Yb:=@List.flatten_cons
def Yc:=@List.getElem?_of_mem
def Yd:=@List.length_append
def Ye:=@Array.getElem?_eq_getElem
def Yf:=@Bool.or_eq_true
def Yg:=@List.all_cons
def Yh:=@Nat.add_mul
def Yi:=@Array.toList_append
def Yj:=@Nat.add_sub_cancel_left
def Yk:=@Array.getElem?_append_left
def Yl:=@List.length_map
def Ym:=@List.length_nil
def Yn:=@List.size_toArray
def Yo:=@List.take_append_of_le_length
def Yp:=@List.getElem?_eq_none
def Yq:=@Nat.le_of_ble_eq_true
def Yr:=@List.length_take
def Ys:=@List.set_eq_take_append_cons_drop
def Yt:=@Bool.and_self
def Yu:=@List.append_assoc
def Yv:=@Nat.zero_add
def Yw:=@Array.getElem?_eq_none
def Yx:=@List.getD_eq_getElem?_getD
def Yy:=@List.mem_append_right
def Yz:=@Nat.eq_of_beq_eq_true
def Y00:=@Int.mul_le_mul_of_nonneg_right
def Y01:=@List.mem_append_left
def Y02:=@Int.mul_le_mul_of_nonneg_left
def Y03:=@Int.emod_nonneg
def Y04:=@Array.length_toList
def Y05:=@List.flatten_append
def Y06:=@List.take_of_length_le
def Y07:=@Bool.false_and
def Y08:=@Array.getElem?_toList
def Y09:=@List.map_append
def Y0A:=@Nat.add_zero
def Y0B:=@List.mem_of_mem_take
def Y0C:=@List.map_cons
def Y0D:=@List.getElem_of_mem
def Y0E:=@Array.eq_empty_of_size_eq_zero
def Y0F:=@List.getElem_mem
def Y0G:=@Option.getD_some
def Y0H:=@Nat.and_two_pow_sub_one_eq_mod
def Y0I:=@Nat.zero_le
def Y0J:=@List.eq_nil_of_length_eq_zero
def Y0K:=@List.drop_append_of_le_length
def Y0L:=@List.getElem?_set_self
def Y0M:=@List.getElem?_toArray
def Y0N:=@List.take_append_drop
def Y0O:=@Array.size_append
def Y0P:=@List.getElem?_append
def Y0Q:=@Int.tdiv_eq_ediv_of_nonneg
def Y0R:=@Int.tmod_eq_emod_of_nonneg
def Y0S:=@Int.fdiv_eq_ediv_of_nonneg
def Y0T:=@List.length_drop
def Y0U:=@Nat.le_add_right
def Y0V:=@List.drop_eq_getElem_cons
def Y0W:=@Int.mul_assoc
def Y0X:=@Array.foldl_toList
def Y0Y:=@Array.empty_append
def Y0Z:=@Int.emod_lt_of_pos
def Y0a:=@Int.mul_add
def Y0b:=@Bool.not_false
def Y0c:=@Nat.succ_mul
def Y0d:=@Int.le_of_lt
end Go.Dn
namespace Go.Dn
open Go
inductive FV where
 | bool (b:Bool)
 | int (k:IntKind) (n:Int)
 | str (s:ByteArray)
 | nilp
 | nilf
 | fn (f:FuncId)
 | sl (xs:List (List FV))
 deriving Inhabited
inductive PV where
 | undef
 | v (x:FV)
 | nils
 | full (xs:List (List FV))
 | buf (id len sz:Nat)
 | ptr (id ver off:Nat)
 | fptr (cells:List FV)
 | clo (f:FuncId) (first caps:List PV)
 | yld (id:Nat)
 | agg (cells:List PV)
 | tup (vs:List PV)
 | mp (id:Nat)
 | view (id tot off len sz:Nat)
 deriving Inhabited
abbrev Env:=Nat->PV
inductive Ent where
 | none
 | blk (elem:TypeId) (cells:List PV) (live:Bool)
 | loop (fn:FuncId) (env:Env) (n:Nat) (params:List Nat) (assign body:Code) (st:LoopState) (pend:Option Code)
 | map (kv:List (Int×Int))
structure Heap where
 nx:Nat
 ent:Nat->Ent
def upd {α:Type} (f:Nat->α) (i:Nat) (x:α):Nat->α:=λj=>if j=i then x else f j
def Heap.empty:Heap:=⟨0,λ_=>.none⟩
def Heap.only (G:Heap) (ids:List Nat):Heap:=⟨G.nx,λk=>if k∈ids then G.ent k else .none⟩
def Heap.put (G:Heap) (id:Nat) (e:Ent):Heap:=⟨G.nx,upd G.ent id e⟩
def Heap.join (G ρ:Heap):Heap:=⟨ρ.nx,λk=>match ρ.ent k with | .none=>G.ent k|en=>en⟩
inductive Prim where
 | load (t:TypeId) (k:IntKind) (off:Nat)
 | add (t:TypeId) (off:Nat)
 | once (tu ti:TypeId) (d m:Nat)
structure Ctx where
 P:Program
 glob:Nat->Option (List FV)
 intr:FuncId->List PV->Option PV
 opn:FuncId->Bool
 keep:FuncId->Bool
 /-- Are literals of slices immutable from the first? -/
 lit:Bool:=false
 /-- Which slicings of what is being built tell a window of it? -/
 view:Op->Bool:=λ_=>false
 /-- Which of those that are handed slices to change leave them as they were,and see nothing else? -/
 shut:FuncId->Bool:=λ_=>false
 /-- After which calls may what was read for them be changed again,if nothing is answered that refers to it? -/
 thaw:FuncId->Bool:=λ_=>false
 /-- Which literals take slices that are still being built as they are? -/
 hold:TypeId->List (Nat×Operand)->Bool:=λ_ _=>false
 /-- Functions of the library that are known. -/
 prim:FuncId->Option Prim:=λ_=>none
 /-- Functions on values alone whose answer may be changed,and that are carried out beside all else. -/
 fresh:FuncId->Bool:=λ_=>false
def FV.ofVal:Value->Option FV
 | .bool b=>some (.bool b)
 | .int k n=>some (.int k n)
 | .string s=>some (.str s)
 | .pointer none=>some .nilp
 | .nilFunc=>some .nilf
 | _=>none
def PV.ofCell:Value->Option PV
 | .slice none 0 0=>some .nils
 | x=>(FV.ofVal x).map .v
def Z3g:List Value->Option (List PV)
 | []=>some []
 | x::xs=>(PV.ofCell x).bind λy=>(Z3g xs).bind λys=>some (y::ys)
def PV.ofVal:Value->Option PV
 | .agg cs=>(Z3g cs.toList).map .agg
 | .tuple vs=>if vs.size=0 then some .undef else none
 | x=>PV.ofCell x
def PV.cells:PV->Option (List PV)
 | .agg cs=>some cs
 | .tup _=>none
 | .undef=>none
 | x=>some [x]
def vs (xs:List FV):List PV:=xs.map .v
def chunk (sz:Nat):Nat->List FV->List (List FV)
 | 0,_=>[]
 | n+1,xs=>xs.take sz::chunk sz n (xs.drop sz)
def ZQ (f:Heap->PV->Option (FV×Heap)):Heap->List PV->Option (List FV×Heap)
 | G,[]=>some ([],G)
 | G,x::xs=>(f G x).bind λr=>(ZQ f r.2 xs).bind λs=>some (r.1::s.1,s.2)
def ZM:Nat->Heap->PV->Option (FV×Heap)
 | 0,_,_=>none
 | d+1,G,x=>
  match x with
  | .v x=>some (x,G)
  | .nils=>some (.sl [],G)
  | .full xs=>some (.sl xs,G)
  | .buf id len sz=>
   match G.ent id with
   | .blk elem cells _=>
    if cells.length=len*sz then
     (ZQ (ZM d) (G.put id (.blk elem cells false)) cells).bind λr=>some (.sl (chunk sz len r.1),r.2)
    else none
   | _=>none
  | _=>none
def Z3n:Heap->List PV->Option (List FV×Heap):=ZQ (ZM 6)
def Zx (G:Heap):PV->Option (PV×Heap)
 | .agg cs=>(Z3n G cs).bind λr=>some (.agg (vs r.1),r.2)
 | .fptr cs=>some (.fptr cs,G)
 | .undef=>some (.undef,G)
 | .tup _=>none
 | x=>(ZM 6 G x).bind λr=>some (.v r.1,r.2)
def Z0E:Heap->List PV->Option (List PV×Heap)
 | G,[]=>some ([],G)
 | G,x::xs=>(Zx G x).bind λr=>(Z0E r.2 xs).bind λs=>some (r.1::s.1,s.2)
def Zw (G:Heap):PV->Option (PV×Heap)
 | .tup xs=>(Z0E G xs).bind λr=>some (.tup r.1,r.2)
 | x=>Zx G x
def Z1Z (G:Heap):PV->Option (PV×Heap)
 | .ptr id ver off=>some (.ptr id ver off,G)
 | .clo f a c=>some (.clo f a c,G)
 | .yld id=>some (.yld id,G)
 | x=>Zx G x
def Zq:Heap->List PV->Option (List PV×Heap)
 | G,[]=>some ([],G)
 | G,x::xs=>(Z1Z G x).bind λr=>(Zq r.2 xs).bind λs=>some (r.1::s.1,s.2)
def PV.isV:PV->Bool
 | .v _=>true
 | _=>false
def FV.Z3U:FV->Bool
 | .sl (_::_)=>false
 | _=>true
def PV.noRef1:PV->Bool
 | .v x=>x.Z3U
 | _=>false
def PV.noRef2:PV->Bool
 | .v x=>x.Z3U
 | .agg cs=>cs.all PV.noRef1
 | _=>false
def PV.Z3U:PV->Bool
 | .tup xs=>xs.all PV.noRef2
 | x=>x.noRef2
def PV.pure:PV->Bool
 | .v _ | .fptr _=>true
 | .agg cs=>cs.all PV.isV
 | _=>false
def PV.isN:PV->Bool
 | .v _ | .nils | .full _=>true
 | _=>false
def PV.calm:PV->Bool
 | .v _ | .fptr _ | .nils | .full _=>true
 | .agg cs=>cs.all PV.isN
 | _=>false
def tsize (P:Program) (t:TypeId):Option Nat:=(P.info? t).map (·.size)
def tbytes (P:Program) (t:TypeId):Option Nat:=(P.info? t).map (·.bytes)
def tzero (P:Program) (t:TypeId):Option (List PV):=((P.info? t).bind (·.zero)).bind λz=>Z3g z.cells.toList
def tagg (P:Program) (t:TypeId):Option Bool:=(P.underlying t).map λ| .struct _ | .array _ _=>true|_=>false
def tslice (P:Program) (t:TypeId):Option TypeId:=match P.underlying t with|some (.slice e)=>some e|_=>none
def tpointer (P:Program) (t:TypeId):Option TypeId:=match P.underlying t with|some (.pointer e)=>some e|_=>none
def tarray (P:Program) (t:TypeId):Option (Nat×TypeId):=match P.underlying t with|some (.array n e)=>some (n,e)|_=>none
def tfield (P:Program) (t:TypeId) (f:Nat):Option (Nat×TypeId):=match P.underlying t with|some (.struct fs)=>(fs[f]?).map λx=>(x.offset,x.type)|_=>none
def tplaces (P:Program) (t:TypeId):Option (List (Nat×Nat)) :=
 match P.underlying t with
 | some (.struct fs)=>fs.toList.mapM λf=>(P.info? f.type).map λi=>(f.offset,i.size)
 | _=>none
def tint (P:Program) (t:TypeId):Option IntKind:=match P.underlying t with|some (.int k)=>some k|_=>none
def tstr (P:Program) (t:TypeId):Bool:=match P.underlying t with|some .string=>true|_=>false
def partD (P:Program) (t:TypeId) (cs:List PV) (off:Nat):Option PV :=
 match tagg P t,tsize P t with
 | some true,some n=>if off+n<=cs.length then some (.agg ((cs.drop off).take n)) else none
 | some false,_=>cs[off]?
 | _,_=>none
def tfields (P:Program) (t:TypeId):Option (List (String×Nat×TypeId)) :=
 match P.underlying t with
 | some (.struct fs)=>if P.stoodInHeld t then none else some (fs.toList.map λf=>(f.name,f.offset,f.type))
 | _=>none
def Z05 (P:Program) (G:Heap) (t:TypeId):PV->Option PV
 | .ptr id ver off=>
  match G.ent id with
  | .blk _ cells _=>
   if cells.length=ver then
    match tagg P t,tsize P t with
    | some true,some n=>if off+n<=cells.length then some (.agg ((cells.drop off).take n)) else none
    | some false,_=>cells[off]?
    | _,_=>none
   else none
  | _=>none
 | .fptr cells=>
  match tagg P t,tsize P t with
  | some true,some n=>if n<=cells.length then some (.agg (vs (cells.take n))) else none
  | some false,_=>(cells[0]?).map .v
  | _,_=>none
 | _=>none
def splice (xs:List PV) (off:Nat) (ys:List PV):List PV:=xs.take off++ys++xs.drop (off+ys.length)
def Z0N (P:Program) (G:Heap) (t:TypeId) (x:PV):PV->Option Heap
 | .ptr id ver off=>
  match G.ent id with
  | .blk elem cells true=>
   if cells.length=ver then
    match tsize P t,x.cells with
    | some n,some ys=>if ys.length=n/\off+n<=cells.length then some (G.put id (.blk elem (splice cells off ys) true)) else none
    | _,_=>none
   else none
  | _=>none
 | _=>none
def newD (G:Heap) (id:Nat) (t:TypeId) (cells:List PV):PV×Heap:=(.ptr id cells.length 0,G.put id (.blk t cells true))
def Z38 (place:Nat->Option (Nat×Nat)):List PV->List (Nat×PV)->Option (List PV)
 | cells,[]=>some cells
 | cells,(i,x)::rest=>
  match place i,x.cells with
  | some (off,n),some ys=>if ys.length=n/\off+n<=cells.length then Z38 place (splice cells off ys) rest else none
  | _,_=>none
def Z3O (op:BinOp) (k:IntKind) (x y:Int):Option FV :=
 match op with
 | .add=>some (.int k (k.wrap (x+y)))
 | .sub=>some (.int k (k.wrap (x-y)))
 | .mul=>some (.int k (k.wrap (x*y)))
 | .quo=>if y=0 then none else some (.int k (k.wrap (x.tdiv y)))
 | .rem=>if y=0 then none else some (.int k (x.tmod y))
 | .and=>some (.int k (k.wrap (BitVec.ofInt k.bits x &&& BitVec.ofInt k.bits y).toNat))
 | .or=>some (.int k (k.wrap (BitVec.ofInt k.bits x ||| BitVec.ofInt k.bits y).toNat))
 | .xor=>some (.int k (k.wrap (BitVec.ofInt k.bits x ^^^ BitVec.ofInt k.bits y).toNat))
 | .andNot=>some (.int k (k.wrap (BitVec.ofInt k.bits x &&& ~~~ BitVec.ofInt k.bits y).toNat))
 | .eql=>some (.bool (x==y))
 | .neq=>some (.bool (x != y))
 | .lss=>some (.bool (decide (x<y)))
 | .leq=>some (.bool (decide (x<=y)))
 | .gtr=>some (.bool (decide (x>y)))
 | .geq=>some (.bool (decide (x>=y)))
 | _=>none
def eqFields (P:Program) (eq:TypeId->PV->PV->Option Bool) (xs ys:List PV):List (String×Nat×TypeId)->Option Bool
 | []=>some true
 | (name,off,ft)::fs=>
  if name = "_" then none else
  match partD P ft xs off,partD P ft ys off with
  | some a,some b=>(eq ft a b).bind λr=>(eqFields P eq xs ys fs).bind λs=>some (r&&s)
  | _,_=>none
def eqD (P:Program):Nat->TypeId->PV->PV->Option Bool
 | 0,_,_,_=>none
 | d+1,t,x,y=>
  match x,y with
  | .v (.bool a),.v (.bool b)=>match P.underlying t with|some .bool=>some (a==b)|_=>none
  | .v (.int k a),.v (.int k' b)=>match P.underlying t with|some (.int _)=>if k=k' then some (a==b) else none|_=>none
  | .v (.str a),.v (.str b)=>match P.underlying t with|some .string=>some (a==b)|_=>none
  | .agg xs,.agg ys=>(tfields P t).bind λfs=>eqFields P (eqD P d) xs ys fs
  | _,_=>none
def Heap.cur (G:Heap) (id n:Nat):Bool :=
 match G.ent id with
 | .blk _ cells _=>cells.length==n
 | _=>false
def Z36 (G:Heap):PV->Option Bool
 | .nils=>some true
 | .v (.sl (_::_))=>some false
 | .buf id len sz=>if G.cur id (len*sz) then some false else none
 | _=>none
def Z25 (G:Heap):PV->Option Bool
 | .v .nilp=>some true
 | .ptr id ver _=>if G.cur id ver then some false else none
 | _=>none
def Z3h (P:Program) (t:TypeId):PV->Bool
 | .agg _=>!P.eqGuardType P.depth t
 | _=>true
def binD (P:Program) (G:Heap) (op:BinOp) (t:TypeId) (x y:PV):Option FV :=
 match x,y with
 | .v (.int k a),.v (.int k' b)=>
  match op with
  | .shl=>if b<0 then none else some (.int k (k.wrap (a*2 ^ min b.toNat k.bits)))
  | .shr=>if b<0 then none else some (.int k (a.fdiv (2 ^ min b.toNat k.bits)))
  | _=>if k=k' then Z3O op k a b else none
 | .v (.str a),.v (.str b)=>
  match op with
  | .eql=>some (.bool (a.toList==b.toList))
  | .neq=>some (.bool (!(a.toList==b.toList)))
  | _=>none
 | x,.nils=>
  match tslice P t,op with
  | some _,.eql=>(Z36 G x).map .bool
  | some _,.neq=>(Z36 G x).map λb=>.bool (!b)
  | _,_=>none
 | x,.v .nilp=>
  match tpointer P t,op with
  | some _,.eql=>(Z25 G x).map .bool
  | some _,.neq=>(Z25 G x).map λb=>.bool (!b)
  | _,_=>none
 | x,y=>
  if Z3h P t x then
   match op with
   | .eql=>(eqD P 6 t x y).map .bool
   | .neq=>(eqD P 6 t x y).map λb=>.bool (!b)
   | _=>none
  else none
def unD (op:UnOp) (x:PV):Option FV :=
 match op,x with
 | .neg,.v (.int k a)=>some (.int k (k.wrap (0-a)))
 | .not,.v (.bool b)=>some (.bool (!b))
 | _,_=>none
def convD (P:Program) (src dst:TypeId) (x:PV):Option FV :=
 match x with
 | .v (.int _ a)=>match P.underlying src,tint P dst with
  | some _,some k=>some (.int k (k.wrap a))
  | _,_=>none
 | _=>none
def Z2C:PV->Option Nat
 | .v (.int _ n)=>if 0<=n then some n.toNat else none
 | _=>none
def lenD (P:Program) (G:Heap) (t:TypeId) (x:PV):Option FV :=
 match tslice P t with
 | some _=>
  match x with
  | .v (.sl xs)=>some (.int .i64 xs.length)
  | .full xs=>some (.int .i64 xs.length)
  | .nils=>some (.int .i64 0)
  | .buf id n sz=>if G.cur id (n*sz) then some (.int .i64 n) else none
  | _=>none
 | none=>
  match x with
  | .v (.str s)=>if tstr P t then some (.int .i64 s.size) else none
  | _=>none
def Zo (P:Program) (G:Heap) (t:TypeId) (x i:PV):Option PV :=
 match Z2C i with
 | none=>none
 | some i=>
  match x with
  | .v (.sl xs)=>match (tslice P t).bind (tsize P),xs[i]? with|some sz,some y=>if y.length=sz then some (.fptr y) else none|_,_=>none
  | .buf id len sz=>
   match tslice P t with
   | some e=>if G.cur id (len*sz)&&tsize P e==some sz&&decide (i<len) then some (.ptr id (len*sz) (i*sz)) else none
   | none=>none
  | .fptr cells=>
   match tarray P t with
   | some (n,e)=>if i<n then (tsize P e).bind λs=>if (i+1)*s<=cells.length then some (.fptr (cells.drop (i*s))) else none else none
   | none=>none
  | .ptr id ver off=>
   match tarray P t with
   | some (n,e)=>if G.cur id ver&&decide (i<n) then (tsize P e).map λs=>.ptr id ver (off+i*s) else none
   | none=>none
  | _=>none
def indexD (P:Program) (t:TypeId) (x i:PV):Option PV :=
 match Z2C i with
 | none=>none
 | some i=>
  match x with
  | .agg cs=>match tarray P t with
   | some (n,e)=>if i<n then (tsize P e).bind λs=>partD P e cs (i*s) else none
   | none=>none
  | .v (.str s)=>if tstr P t then (s[i]?).map λb=>.v (.int .u8 b.toNat) else none
  | _=>none
def Z02 (P:Program) (G:Heap) (t:TypeId) (x:PV) (f:Nat):Option PV :=
 match tfield P t f with
 | none=>none
 | some (off,ft)=>
  match tsize P ft with
  | none|some 0=>none
  | some _=>
   match x with
   | .ptr id ver o=>if G.cur id ver then some (.ptr id ver (o+off)) else none
   | .fptr cells=>some (.fptr (cells.drop off))
   | _=>none
def fieldD (P:Program) (t:TypeId) (x:PV) (f:Nat):Option PV :=
 match tfield P t f,x with
 | some (off,ft),.agg cs=>partD P ft cs off
 | _,_=>none
def elemLen (xs:List (List FV)) (l sz:Nat):Bool:=match xs[l]? with|some y=>y.length==sz|none=>true
def sliceD (P:Program) (t:TypeId) (x:PV) (lo hi mx:Option PV):Option PV :=
 let l?:=match lo with|none=>some 0|some v=>Z2C v
 match x with
 | .v (.sl xs)=>
  match (tslice P t).bind (tsize P) with
  | none=>none
  | some sz=>
   let h?:=match hi with|none=>some xs.length|some v=>Z2C v
   match l?,h? with
   | some l,some h=>
    if l<=h/\h<=xs.length/\elemLen xs l sz=true then
     match mx with
     | none=>some (.v (.sl ((xs.take h).drop l)))
     | some m=>if Z2C m=some h/\hi.isSome=true then some (.full ((xs.take h).drop l)) else none
    else none
   | _,_=>none
 | _=>none
def viewD (P:Program) (t:TypeId) (id len sz:Nat) (lo hi mx:Option PV):Option PV :=
 match mx with
 | some _=>none
 | none=>
  match (tslice P t).bind (tsize P),(match lo with|none=>some 0|some v=>Z2C v),(match hi with|none=>some len|some v=>Z2C v) with
  | some s,some l,some h=>if s=sz/\l<h/\h<=len then some (.view id len l (h-l) sz) else none
  | _,_,_=>none
def Z1H (G:Heap) (sz:Nat):PV->Option (List PV×Nat)
 | .v (.sl ys)=>if ys.all (λy=>y.length==sz) then some (vs ys.flatten,ys.length) else none
 | .full ys=>if ys.all (λy=>y.length==sz) then some (vs ys.flatten,ys.length) else none
 | .nils=>some ([],0)
 | .buf id len s=>
  match G.ent id with
  | .blk _ cells _=>if s=sz/\cells.length=len*s then some (cells,len) else none
  | _=>none
 | .view id tot l n s=>
  match G.ent id with
  | .blk _ cells _=>if s=sz/\cells.length=tot*s/\l+n<=tot then some ((cells.drop (l*s)).take (n*s),n) else none
  | _=>none
 | _=>none
def room:Nat:=140737488355328
def Z0D (P:Program) (G:Heap) (id0:Nat) (t:TypeId) (x y:PV):Option (PV×Heap) :=
 match tslice P t with
 | none=>none
 | some e=>
  match tsize P e,tbytes P e with
  | some sz,some by_=>
   match Z1H G sz y with
   | none=>none
   | some (ys,n)=>
    if (sz=0\/by_=0\/(tzero P e).map List.length≠some sz) then none else
    match x with
    | .nils=>
     if n=0 then some (.nils,G)
     else if n*by_<=room then some (.buf id0 n sz,G.put id0 (.blk e ys true)) else none
    | .full xs=>
     if n=0 then none
     else if (xs.length+n)*by_<=room/\xs.all (λy=>y.length==sz) then some (.buf id0 (xs.length+n) sz,G.put id0 (.blk e (vs xs.flatten++ys) true)) else none
    | .buf id len s=>
     match G.ent id with
     | .blk e' cells true=>
      if s=sz/\e'=e/\cells.length=len*sz/\(len+n)*by_<=room then some (.buf id (len+n) sz,G.put id (.blk e (cells++ys) true)) else none
     | _=>none
    | _=>none
  | _,_=>none
def Z3v (P:Program) (G:Heap) (t:TypeId) (x y:PV):Option (PV×Heap) :=
 match tslice P t with
 | none=>none
 | some e=>
  match tsize P e with
  | none=>none
  | some sz=>
   match Z1H G sz y,x with
   | some (ys,n),.buf id len s=>
    match G.ent id with
    | .blk e' cells true=>
     if s=sz/\e'=e/\cells.length=len*sz then
      some (.v (.int .i64 (min n len:Nat)),G.put id (.blk e (splice cells 0 (ys.take (min n len*sz))) true))
     else none
    | _=>none
   | some (ys,n),.view id tot l m s=>
    match G.ent id with
    | .blk e' cells true=>
     if s=sz/\e'=e/\cells.length=tot*sz/\l+m<=tot then
      some (.v (.int .i64 (min n m:Nat)),G.put id (.blk e (splice cells (l*sz) (ys.take (min n m*sz))) true))
     else none
    | _=>none
   | _,_=>none
def makeD (P:Program) (G:Heap) (id0:Nat) (t:TypeId) (len cap:PV):Option (PV×Heap) :=
 match tslice P t,len,cap with
 | some e,.v (.int .i64 l),.v (.int .i64 c)=>
  match tsize P e,tbytes P e,tzero P e with
  | some sz,some by_,some z=>
   if l=c/\0<=l/\l.toNat*by_<=room/\z.length=sz/\sz≠0/\by_≠0 then some (.buf id0 l.toNat sz,G.put id0 (.blk e (List.replicate l.toNat z).flatten true)) else none
  | _,_,_=>none
 | _,_,_=>none
def mfind (a:Int):List (Int×Int)->Nat->Option (Nat×Int)
 | [],_=>none
 | p::l,i=>if a==p.1 then some (i,p.2) else mfind a l (i+1)
def mget (kv:List (Int×Int)) (a:Int):Int:=match mfind a kv 0 with|some p=>p.2|none=>0
def mset (kv:List (Int×Int)) (i:Nat) (b:Int):List (Int×Int):=kv.set i ((kv.getD i (0,0)).1,b)
def mput (kv:List (Int×Int)) (a b:Int):List (Int×Int):=match mfind a kv 0 with|some p=>mset kv p.1 b|none=>kv++[(a,b)]
def Z1B (f:Int->Int->Int) (k:IntKind):Int->List PV->Option Int
 | a,[]=>some a
 | a,.v (.int k' b)::xs=>if k=k' then Z1B f k (f a b) xs else none
 | _,_=>none
inductive Callee where
 | fn (f:FuncId)
 | yld (id:Nat)
abbrev ZK:=Callee->List PV->Heap->Option (PV×Heap)
def onward:PV->Nat->PV
 | .ptr id ver o,k=>.ptr id ver (o+k)
 | _,_=>.undef
def Z0B (P:Program) (call:ZK) (G:Heap):Prim->List PV->Option (PV×Heap)
 | .load t k off,[a]=>
  match Z05 P G t (onward a off) with
  | some (.v (.int k' n))=>if k'=k then some (.v (.int k n),G) else none
  | _=>none
 | .add t off,[a,.v (.int .i64 d)]=>
  match Z05 P G t (onward a off) with
  | some (.v (.int .i64 n))=>(Z0N P G t (.v (.int .i64 (IntKind.i64.wrap (n+d)))) (onward a off)).map λG'=>(.v (.int .i64 (IntKind.i64.wrap (n+d))),G')
  | _=>none
 | .once tu ti d m,[a,.clo g [] caps]=>
  match Z05 P G tu (onward a d) with
  | some (.v (.int .u32 n))=>
   if n=0 then
    match Z05 P G ti (onward a m) with
    | some (.v (.int .i32 0))=>
     (Z0N P G ti (.v (.int .i32 1)) (onward a m)).bind λG1=>(call (.fn g) caps G1).bind λr=>
      match Z05 P r.2 tu (onward a d),Z05 P r.2 ti (onward a m) with
      | some (.v (.int .u32 0)),some (.v (.int .i32 1))=>
       (Z0N P r.2 tu (.v (.int .u32 1)) (onward a d)).bind λG3=>(Z0N P G3 ti (.v (.int .i32 0)) (onward a m)).map λG4=>(.tup [],G4)
      | _,_=>none
    | _=>none
   else some (.tup [],G)
  | _=>none
 | _,_=>none
def Zf (P:Program) (G:Heap) (id0:Nat) (b:Builtin) (ts:List TypeId) (args:List PV):Option (PV×Heap) :=
 match b,ts,args with
 | .len,[t],[x]=>(lenD P G t x).map λr=>(.v r,G)
 | .append,[t,t'],[x,y]=>if t=t' then Z0D P G id0 t x y else none
 | .copy,[t,_],[x,y]=>Z3v P G t x y
 | .min,_,.v (.int k a)::xs=>(Z1B (λx y=>if y<x then y else x) k a xs).map λr=>(.v (.int k r),G)
 | .max,_,.v (.int k a)::xs=>(Z1B (λx y=>if y>x then y else x) k a xs).map λr=>(.v (.int k r),G)
 | _,_,_=>none
section
variable (X:Ctx)
def Z0 (e:Env):Operand->Option PV
 | .tmp t=>some (e t)
 | .const c=>PV.ofVal c
 | .global g=>(X.glob g).map .fptr
 | .func f=>some (.v (.fn f))
def ZC (e:Env):List Operand->Option (List PV)
 | []=>some []
 | x::xs=>(Z0 X e x).bind λy=>(ZC e xs).bind λys=>some (y::ys)
def Z1D (e:Env):List (Nat×Operand)->Option (List (Nat×PV))
 | []=>some []
 | (i,x)::xs=>(Z0 X e x).bind λy=>(Z1D e xs).bind λys=>some ((i,y)::ys)
def optD (e:Env):Option Operand->Option (Option PV)
 | none=>some none
 | some x=>(Z0 X e x).map some
def Z5J (e:Env) (t:TypeId) (parts:List (Nat×Operand)):Option PV :=
 match tzero X.P t,Z1D X e parts with
 | some z,some ps=>
  match tplaces X.P t with
  | some pl=>(Z38 (pl[·]?) z ps).map .agg
  | none=>
   match tarray X.P t with
   | some (_,el)=>(tsize X.P el).bind λn=>(Z38 (λi=>some (i*n,n)) z ps).map .agg
   | none=>none
 | _,_=>none
def fvsOf:List PV->Option (List FV)
 | []=>some []
 | .v x::xs=>(fvsOf xs).map (x::·)
 | _::_=>none
def litR (lit:Bool) (len sz id0:Nat) (el:TypeId) (cs:List PV):PV×Ent :=
 match lit&&len != 0,fvsOf cs with
 | true,some fs=>(.v (.sl (chunk sz len fs)),.blk el cs false)
 | _,_=>(.buf id0 len sz,.blk el cs true)
def isBuf:PV->Bool
 | .buf _ _ _=>true
 | _=>false
def isRef:PV->Bool
 | .buf _ _ _ | .nils | .full _=>true
 | _=>false
def bufId:PV->List Nat
 | .buf id _ _=>[id]
 | _=>[]
def Z2P:PV->List Nat
 | .agg cs=>cs.flatMap bufId
 | x=>bufId x
def Z2c:PV->Bool
 | .buf _ _ _ | .nils | .full _=>true
 | .agg cs=>cs.any isRef
 | _=>false
def Z1F (G:Heap):PV->Option (PV×Heap)
 | .v x=>some (.v x,G)
 | .nils=>some (.v (.sl []),G)
 | .full xs=>some (.v (.sl xs),G)
 | .buf id len sz=>
  match G.ent id with
  | .blk el cells _=>if cells.length=len*sz then (fvsOf cells).map λfs=>(.v (.sl (chunk sz len fs)),G.put id (.blk el cells false)) else none
  | _=>none
 | _=>none
def Z0o:Heap->List PV->Option (List PV×Heap)
 | G,[]=>some ([],G)
 | G,x::xs=>(Z1F G x).bind λr=>(Z0o r.2 xs).bind λq=>some (r.1::q.1,q.2)
def Z0f (G:Heap):PV->Option (PV×Heap)
 | .agg cs=>(Z0o G cs).bind λr=>some (.agg r.1,r.2)
 | x=>Z1F G x
def Zj:Heap->List (Nat×PV)->Option (List (Nat×PV)×Heap)
 | G,[]=>some ([],G)
 | G,p::ps=>
  if Z2c p.2 then (Z0f G p.2).bind λr=>(Zj r.2 ps).bind λq=>some ((p.1,r.1)::q.1,q.2)
  else (Zj G ps).bind λq=>some (p::q.1,q.2)
def Z43 (hold:Bool) (G:Heap) (ps:List (Nat×PV)):Option (List (Nat×PV)×Heap) :=
 match hold with
 | true=>some (ps,G)
 | false=>Zj G ps
def Z0V (G:Heap) (id0:Nat) (t:TypeId) (len:Nat) (ps:List (Nat×PV)):Option (PV×Heap) :=
 match tslice X.P t with
 | some el=>
  match tsize X.P el,tzero X.P el with
  | some sz,some z=>
   if z.length=sz/\sz≠0/\len*sz<=1000000 then
    (Z38 (λi=>some (i*sz,sz)) (List.replicate len z).flatten ps).map λcs=>((litR X.lit len sz id0 el cs).1,G.put id0 (litR X.lit len sz id0 el cs).2)
   else none
  | _,_=>none
 | none=>none
def Z08 (e:Env) (G:Heap) (id0:Nat) (t:TypeId) (len:Nat) (parts:List (Nat×Operand)):Option (PV×Heap) :=
 (Z1D X e parts).bind λps=>(Z43 (X.hold t parts) G ps).bind λr=>Z0V X r.2 id0 t len r.1
def ZO (call:ZK) (e:Env) (G:Heap) (id0:Nat) (c:Call):Option (PV×Heap) :=
 match ZC X e c.args.toList with
 | none=>none
 | some args=>
  match c.callee with
  | .builtin b=>Zf X.P G id0 b c.argTypes.toList args
  | .invoke _ _=>none
  | .value f=>
   match Z0 X e f with
   | some (.v (.fn f))=>call (.fn f) args G
   | some (.clo f first caps)=>call (.fn f) (first++args++caps) G
   | some (.yld id)=>call (.yld id) args G
   | _=>none
def Z1 (call:ZK) (e:Env) (G:Heap) (id0:Nat):Op->Option (PV×Heap)
 | .move x | .assign x=>(Z0 X e x).map (·,G)
 | .pick c a b=>
  match Z0 X e c with
  | some (.v (.bool true))=>(Z0 X e a).map (·,G)
  | some (.v (.bool false))=>(Z0 X e b).map (·,G)
  | _=>none
 | .alloc t=>(tzero X.P t).map λz=>newD G id0 t z
 | .box t x=>((Z0 X e x).bind PV.cells).map λcs=>newD G id0 t cs
 | .build t parts=>(Z5J X e t parts.toList).map (·,G)
 | .buildSlice t len parts=>Z08 X e G id0 t len parts.toList
 | .load t a=>((Z0 X e a).bind λa=>Z05 X.P G t a).map (·,G)
 | .store t a x=>match Z0 X e a,Z0 X e x with
  | some a,some x=>(Z0N X.P G t x a).map λG'=>(.undef,G')
  | _,_=>none
 | .nilCheck x=>
  match Z0 X e x with
  | some (.ptr id ver off)=>if G.cur id ver then some (.ptr id ver off,G) else none
  | some (.fptr cs)=>some (.fptr cs,G)
  | some (.clo f a c)=>some (.clo f a c,G)
  | some (.v (.fn f))=>some (.v (.fn f),G)
  | some (.yld id)=>some (.yld id,G)
  | _=>none
 | .binOp op t x y _=>match Z0 X e x,Z0 X e y with
  | some x,some y=>(binD X.P G op t x y).map λr=>(.v r,G)
  | _,_=>none
 | .unOp op _ x=>((Z0 X e x).bind λx=>unD op x).map λr=>(.v r,G)
 | .convert src dst x=>((Z0 X e x).bind λx=>convD X.P src dst x).map λr=>(.v r,G)
 | .makeFunc (.func f) first caps=>
  match ZC X e first.toList,ZC X e caps.toList with
  | some [],some []=>some (.v (.fn f),G)
  | some a,some c=>some (.clo f a c,G)
  | _,_=>none
 | .makeSlice t l c=>match Z0 X e l,Z0 X e c with
  | some l,some c=>makeD X.P G id0 t l c
  | _,_=>none
 | .slice t x lo' hi' mx'=>
  match Z0 X e x,optD X e lo',optD X e hi',optD X e mx' with
  | some (.buf id len sz),some lo,some hi,some mx=>
   if X.view (.slice t x lo' hi' mx') then (viewD X.P t id len sz lo hi mx).map (·,G)
   else (ZM 6 G (.buf id len sz)).bind λr=>(sliceD X.P t (.v r.1) lo hi mx).map (·,r.2)
  | some x,some lo,some hi,some mx=>(sliceD X.P t x lo hi mx).map (·,G)
  | _,_,_,_=>none
 | .fieldAddr t x f=>((Z0 X e x).bind λx=>Z02 X.P G t x f).map (·,G)
 | .field t x f=>((Z0 X e x).bind λx=>fieldD X.P t x f).map (·,G)
 | .indexAddr t x i=>match Z0 X e x,Z0 X e i with
  | some x,some i=>(Zo X.P G t x i).map (·,G)
  | _,_=>none
 | .index t x i=>match Z0 X e x,Z0 X e i with
  | some x,some i=>(indexD X.P t x i).map (·,G)
  | _,_=>none
 | .extract x i=>match Z0 X e x with
  | some (.tup vs)=>(vs[i]?).map (·,G)
  | _=>none
 | .call c=>ZO X call e G id0 c
 | _=>none
end
def putD (n:Nat) (e:Env) (dst:Option Tmp) (x:PV):Env :=
 match dst with
 | none=>e
 | some d=>if d<n then upd e d x else e
def ZP (ops:Array Oper) (e:Env) (o:Oper):Option Bool :=
 match o.guard with
 | none=>some true
 | some (j,want)=>
  match (ops[j]?).bind (·.dst) with
  | none=>some false
  | some d=>
   match e d with
   | .v (.bool b)=>some (b==want)
   | .undef=>some false
   | _=>none
def Zm (X:Ctx) (call:ZK) (n:Nat) (ops:Array Oper) (base i:Nat) (o:Oper) (e:Env) (G:Heap):Option (Env×Heap) :=
 match ZP ops e o with
 | some true=>(Z1 X call e G (base+i) o.op).bind λr=>some (putD n e o.dst r.1,r.2)
 | some false=>some (putD n e o.dst .undef,G)
 | none=>none
def Z0T (X:Ctx) (call:ZK) (n:Nat) (ops:Array Oper) (base:Nat):Nat->List Oper->Env->Heap->Option (Env×Heap)
 | _,[],e,G=>some (e,G)
 | i,o::os,e,G=>(Zm X call n ops base i o e G).bind λr=>Z0T X call n ops base (i+1) os r.1 r.2
def vids:PV->List Nat
 | .ptr id _ _=>[id]
 | .buf id _ _=>[id]
 | .view id _ _ _ _=>[id]
 | _=>[]
def Z2O (G:Heap) (args:List PV):Bool:=args.all λx=>match x with
 | .buf id _ _=>(match G.ent id with | .blk _ cells true=>cells.all PV.isV|_=>false)
 | .nils=>true
 | x=>x.pure
inductive OpK where
 | pure|read|write|call|bad
 deriving DecidableEq
def ZZ:Op->OpK
 | .move _ | .assign _ | .pick .. | .alloc _ | .box .. | .build .. | .buildSlice .. | .unOp .. | .convert .. | .field .. | .index .. | .extract .. | .makeSlice .. | .slice ..=>.pure
 | .makeFunc (.func _) _ _=>.pure
 | .binOp op _ _ _ _=>match op with | .eql | .neq=>.read|_=>.pure
 | .load .. | .nilCheck _ | .indexAddr .. | .fieldAddr ..=>.read
 | .store ..=>.write
 | .call c=>match c.callee with
  | .builtin .len=>.read
  | .builtin .append | .builtin .copy=>.write
  | .builtin .min | .builtin .max=>.pure
  | .value _=>.call
  | _=>.bad
 | _=>.bad
def ZB:Op->List Operand
 | .load _ a=>[a]
 | .nilCheck a=>[a]
 | .indexAddr _ a _=>[a]
 | .fieldAddr _ a _=>[a]
 | .binOp _ _ x y _=>[x,y]
 | .store _ a _=>[a]
 | .call c=>match c.callee with
  | .builtin _=>c.args.toList
  | _=>[]
 | _=>[]
def touched (X:Ctx) (e:Env) (op:Op):List Nat :=
 (ZB op).flatMap λx=>match Z0 X e x with|some v=>vids v|none=>[]
def isRW (op:Op):Bool:=match ZZ op with | .read | .write=>true|_=>false
def isW (op:Op):Bool:=match ZZ op with | .write=>true|_=>false
def unord (bef:Array Nat) (i j:Nat):Bool:=i != j && !((bef.getD (max i j) 0).testBit (min i j))
def Z1p (bef:Array Nat) (ops:Array Oper) (j:Nat):Bool :=
 (List.range ops.size).any λi=>unord bef i j&&(match ops[i]? with|some o=>isW o.op|none=>false)
def Z5K (bef:Array Nat) (ops:Array Oper) (i:Nat):Bool :=
 (List.range ops.size).any λj=>unord bef i j&&(match ops[j]? with|some o=>isRW o.op|none=>false)
def stableOp (ops:Array Oper) (op:Op):Bool:=(ZB op).all λx=>match x with | .tmp t=>!(ops.any λo=>o.dst==some t)|_=>true
def rootT (ops:Array Oper) (t:Nat):Option Nat :=
 match ops.toList.find? (λo=>o.dst==some t) with
 | none=>some t
 | some o=>match o.op with
  | .fieldAddr _ (.tmp u) _ | .nilCheck (.tmp u) | .indexAddr _ (.tmp u) _ | .move (.tmp u)=>if ops.toList.any (λo=>o.dst==some u) then none else some u
  | _=>none
def rootOp (ops:Array Oper) (op:Op):Bool:=(ZB op).all λx=>match x with | .tmp t=>(rootT ops t).isSome|_=>true
def Z0t (X:Ctx) (ops:Array Oper) (e:Env) (op:Op):List Nat:=(ZB op).flatMap λx=>match x with
 | .tmp t=>(match rootT ops t with|some u=>vids (e u)|none=>[])
 | x=>(match Z0 X e x with|some v=>vids v|none=>[])
def Z0x (X:Ctx) (e:Env) (bef:Array Nat) (ops:Array Oper) (i k:Nat):Bool :=
 (List.range ops.size).any λj=>unord bef i j&&(match ops[j]? with|some o=>isRW o.op && !(rootOp ops o.op && !(Z0t X ops e o.op).contains k)|none=>false)
def Z2W (bef:Array Nat) (ops:Array Oper) (i:Nat):Bool:=!Z1p bef ops i||(match ops[i]? with|some o=>stableOp ops o.op || !rootOp ops o.op|none=>true)
def Z1P (ops:Array Oper):Bool :=
 let bef:=Region.before ops
 Region.lexB .any ops&&ops.all (λo=>ZZ o.op != .bad) &&
 (List.range ops.size).all λi=>match ops[i]? with
  | some o=>(if isW o.op then !Z1p bef ops i else true)&&o.after.all λe=>!Region.binds .any e||decide (e.on<i)
  | none=>true
def Z2g (X:Ctx) (e:Env) (args:List PV):Go.Callee->Bool
 | .value f=>match Z0 X e f with
  | some (.v (.fn f))=>args.all PV.calm && !X.opn f && !X.keep f
  | some (.clo f first caps)=>first.all PV.calm&&args.all PV.calm&&caps.all PV.calm && !X.opn f && !X.keep f
  | _=>false
 | _=>false
def Z1C (bef:Array Nat) (ops:Array Oper) (i:Nat):Bool:=(List.range ops.size).all λj=>!unord bef i j
def frozen (X:Ctx) (e:Env):Op->List Nat
 | .buildSlice t _ parts=>match X.hold t parts.toList,Z1D X e parts.toList with
  | false,some ps=>ps.flatMap λp=>Z2P p.2
  | _,_=>[]
 | _=>[]
def ZL (X:Ctx) (ops:Array Oper) (base i:Nat) (o:Oper) (e:Env):Bool :=
 let bef:=Region.before ops
 match ZZ o.op with
 | .pure=>match o.op with
  | .slice _ x _ _ _=>match Z0 X e x with
   | some (.buf _ _ _)=>X.view o.op
   | _=>true
  | _=>(frozen X e o.op).all λk=>decide (base<=k)&&decide (k<base+ops.size)&&(bef.getD i 0).testBit (k-base)&&(List.range ops.size).all λj=>!(unord bef i j&&(bef.getD j 0).testBit (k-base))
 | .read=>((touched X e o.op).all λk=>decide (k<base)||(!Z1p bef ops i&&(bef.getD i 0).testBit (k-base)&&decide (k<base+ops.size)))&&(Z2W bef ops i || !rootOp ops o.op||(touched X e o.op).all λk=>(Z0t X ops e o.op).contains k)
 | .write=>(touched X e o.op).all λk=>(decide (k<base) && !Z0x X e bef ops i k)||(decide (base<=k)&&(bef.getD i 0).testBit (k-base)&&decide (k<base+ops.size))
 | .call=>match o.op with
  | .call c=>match ZC X e c.args.toList with
   | some args=>Z2g X e args c.callee
   | none=>false
  | _=>false
 | .bad=>false
def ZJ (X:Ctx) (ops:Array Oper) (base i:Nat) (o:Oper) (e:Env):Bool:=Z1C (Region.before ops) ops i||ZL X ops base i o e
def quiet:Op->Bool
 | .move _ | .assign _ | .pick .. | .unOp .. | .convert .. | .field .. | .index .. | .extract .. | .load .. | .nilCheck _ | .indexAddr .. | .fieldAddr .. | .binOp .. | .build ..=>true
 | .makeFunc (.func _) _ _=>true
 | .call c=>match c.callee with
  | .builtin .len | .builtin .min | .builtin .max=>true
  | _=>false
 | _=>false
def Z4M (ops:Array Oper) (i:Nat):Bool:=(List.range ops.size).all λj=>!unord (Region.before ops) i j||(match ops[j]? with|some o=>quiet o.op|none=>true)
def Alike (a b:Ent):Prop:=b=a\/∃ el cells l l',a = .blk el cells l/\b = .blk el cells l'
def mild:Op->Bool
 | .alloc _=>true
 | op=>quiet op
def Z2R (ops:Array Oper) (i:Nat):Bool:=(List.range ops.size).all λj=>!unord (Region.before ops) i j||(match ops[j]? with|some o=>mild o.op|none=>true)
def Z2H (X:Ctx) (ops:Array Oper) (base i:Nat) (e:Env) (op:Op):Bool:=Z2R ops i&&match op with
 | .call c=>match c.callee with
  | .value f=>match Z0 X e f,ZC X e c.args.toList with
   | some (.v (.fn f)),some args=>X.shut f&&X.keep f && !X.opn f && !args.all PV.pure&&(args.flatMap vids).all λk=>decide (k<base)
   | _,_=>false
  | _=>false
 | _=>false
def Z1I (X:Ctx) (ops:Array Oper) (i:Nat) (e:Env) (op:Op):Bool:=Z2R ops i&&match op with
 | .call c=>match c.callee with
  | .value f=>match Z0 X e f,ZC X e c.args.toList with
   | some (.v (.fn f)),some args=>X.fresh f&&X.opn f && !X.keep f&&args.all PV.pure
   | _,_=>false
  | _=>false
 | _=>false
def Z1O (X:Ctx) (call:ZK) (ops:Array Oper) (base i:Nat) (o:Oper) (e:Env) (G:Heap):Prop :=
 ZZ o.op = .call/\(Z2H X ops base i e o.op=true\/(Z4M ops i=true/\∀ id r G',Z1 X call e G id o.op=some (r,G')->∀ k,k<base+ops.size->Alike (G.ent k) (G'.ent k))\/(Z1I X ops i e o.op=true/\base+ops.size<=G.nx))
noncomputable def Zh (X:Ctx) (call:ZK) (n:Nat) (ops:Array Oper) (base i:Nat) (o:Oper) (e:Env) (G:Heap):Option (Env×Heap) :=
 if ZP ops e o=some true/\ZJ X ops base i o e=false then @ite _ (Z1O X call ops base i o e G) (Classical.propDecidable _) (Zm X call n ops base i o e G) none else Zm X call n ops base i o e G
noncomputable def Z07 (X:Ctx) (call:ZK) (n:Nat) (ops:Array Oper) (base:Nat):Nat->List Oper->Env->Heap->Option (Env×Heap)
 | _,[],e,G=>some (e,G)
 | i,o::os,e,G=>(Zh X call n ops base i o e G).bind λr=>Z07 X call n ops base (i+1) os r.1 r.2
inductive Ex where
 | normal
 | exit (id:Nat)
 | ret
 deriving DecidableEq
abbrev Out:=Ex×Env×Heap
def Z0F (step:Env->Heap->Option Out):Nat->Env->Heap->Option Out
 | 0,_,_=>none
 | k+1,e,G=>
  match step e G with
  | some (.normal,e',G')=>Z0F step k e' G'
  | r=>r
def jumpD:Option Code->Option Ex
 | none=>some .normal
 | some .ret=>some .ret
 | some (.exit id)=>some (.exit id)
 | _=>none
noncomputable def Z3 (X:Ctx) (call:ZK) (lf n:Nat) (fn:FuncId):Code->Env->Heap->Option Out
 | .skip,e,G=>some (.normal,e,G)
 | .region _ ops draw,e,G=>
  let G0:Heap:=⟨G.nx+ops.size,G.ent⟩
  if draw then
   if Z1P ops then (Z07 X call n ops G.nx 0 ops.toList e G0).map λr=>(.normal,r.1,r.2) else none
  else (Z0T X call n ops G.nx 0 ops.toList e G0).map λr=>(.normal,r.1,r.2)
 | .seq a b,e,G=>
  match Z3 X call lf n fn a e G with
  | some (.normal,e',G')=>Z3 X call lf n fn b e' G'
  | r=>r
 | .cond c a b,e,G=>
  match Z0 X e c with
  | some (.v (.bool true))=>Z3 X call lf n fn a e G
  | some (.v (.bool false))=>Z3 X call lf n fn b e G
  | _=>none
 | .block id c,e,G=>
  match Z3 X call lf n fn c e G with
  | some (.exit id',e',G')=>if id'=id then some (.normal,e',G') else some (.exit id',e',G')
  | r=>r
 | .loop c,e,G=>Z0F (Z3 X call lf n fn c) lf e G
 | .exit id,e,G=>some (.exit id,e,G)
 | .ret,e,G=>some (.ret,e,G)
 | .label _,e,G=>some (.normal,e,G)
 | .scope c,e,G=>Z3 X call lf n fn c e G
 | .rangeFunc g ps assign body,e,G=>
  match Z0 X e g with
  | some g=>
   let id:=G.nx
   let G1:Heap:=⟨G.nx+1,upd G.ent id (.loop fn e n ps.toList assign body .ready none)⟩
   let r:=match g with
    | .v (.fn f)=>call (.fn f) [PV.yld id] G1
    | .clo f first caps=>call (.fn f) (first++[PV.yld id]++caps) G1
    | _=>none
   match r with
   | some (_,G2)=>
    match G2.ent id with
    | .loop fn' e' n' ps' as' bo' st pend=>
     if st=LoopState.busy then none else
     match jumpD pend with
     | some x=>some (x,e,G2.put id (.loop fn' e' n' ps' as' bo' .exhausted pend))
     | none=>none
    | _=>none
   | none=>none
  | none=>none
 | _,_,_=>none
def ZS (P:Program) (e:Env) (G:Heap):List ResultVar->Option (List PV)
 | []=>some []
 | .tmp t::rs=>(ZS P e G rs).map λxs=>e t::xs
 | .cell a t::rs=>(Z05 P G t (e a)).bind λx=>(ZS P e G rs).map λxs=>x::xs
def Z00:List PV->PV
 | [x]=>x
 | xs=>.tup xs
def Z28 (args:List PV):Env:=λt=>args.getD t .undef
noncomputable def Zp (X:Ctx) (call:ZK) (lf:Nat) (f:FuncId) (args:List PV) (G:Heap):Option (PV×Heap) :=
 match X.prim f with
 | some p=>Z0B X.P call G p args
 | none=>
 match X.P.funcs[f]? with
 | none=>none
 | some fn=>
  match fn.body with
  | none=>none
  | some c=>
   match Z3 X call lf (max fn.ntmps args.length) f c (Z28 args) G with
   | some (.normal,e,G')|some (.ret,e,G')=>(ZS X.P e G' fn.results.toList).map λxs=>(Z00 xs,G')
   | _=>none
def Z1a (e:Env) (n:Nat):List Nat->List PV->Env
 | p::ps,x::xs=>Z1a (putD n e (some p) x) n ps xs
 | _,_=>e
noncomputable def ZU (X:Ctx):Nat->ZK
 | 0,_,_,_=>none
 | k+1,.fn f,args,G=>
  match X.intr f args with
  | some r=>if args.all PV.pure then some (r,G) else none
  | none=>
   match (if X.keep f then some (args,G) else Zq G args) with
   | none=>none
   | some (args,G1)=>
    match X.intr f args with
    | some r=>if args.all PV.pure then some (r,G1) else none
    | none=>
    if X.opn f then (if X.fresh f&&args.all PV.pure then (Zp X (ZU X k) k f args (G1.only [])).map λr=>(r.1,G1.join r.2) else Zp X (ZU X k) k f args G1)
    else if args.all PV.pure then (Zp X (ZU X k) k f args Heap.empty).bind λr=>(Zw r.2 r.1).map λs=>(s.1,if X.thaw f&&s.1.Z3U then G else G1)
    else if X.keep f&&X.shut f then
     if Z2O G1 args then (Zp X (ZU X k) k f args (G1.only (args.flatMap vids))).bind λr=>(Zw r.2 r.1).bind λs=>@ite _ (∀ id∈args.flatMap vids,s.2.ent id=G1.ent id) (Classical.propDecidable _) (some (s.1,G1)) none else none
    else (Zp X (ZU X k) k f args G1).bind λr=>Zw r.2 r.1
 | k+1,.yld id,args,G=>
  match G.ent id with
  | .loop fn e n ps as_ bo .ready none=>
   if ps.length=args.length then
    match Zq G args with
    | none=>none
    | some (args,G)=>
    match Z3 X (ZU X k) k n fn as_ (Z1a e n ps args) G with
    | some (.normal,e1,G1)=>
     match G1.ent id with
     | .loop _ _ _ _ _ _ .ready pend=>
      match Z3 X (ZU X k) k n fn bo e1 (G1.put id (.loop fn e n ps as_ bo .busy pend)) with
      | some (x,_,G2)=>
       match x with
       | .normal=>some (.v (.bool true),G2.put id (.loop fn e n ps as_ bo .ready none))
       | .exit t=>some (.v (.bool false),G2.put id (.loop fn e n ps as_ bo .done (some (.exit t))))
       | .ret=>some (.v (.bool false),G2.put id (.loop fn e n ps as_ bo .done (some .ret)))
      | none=>none
     | _=>none
    | _=>none
   else none
  | _=>none
end Go.Dn

namespace Go.Dn
open Go
inductive FVR (w:World) (Imm:Nat->Prop):FV->Value->Prop
 | bool (b:Bool):FVR w Imm (.bool b) (.bool b)
 | int (k:IntKind) (n:Int):FVR w Imm (.int k n) (.int k n)
 | str (s:ByteArray):FVR w Imm (.str s) (.string s)
 | nilp:FVR w Imm .nilp (.pointer none)
 | nilf:FVR w Imm .nilf .nilFunc
 | fn (f:FuncId):FVR w Imm (.fn f) (.func (.func f) #[] #[])
 | nil:FVR w Imm (.sl []) (.slice none 0 0)
 | empty (a:Addr) (cap:Nat):FVR w Imm (.sl []) (.slice (some a) 0 cap)
 | sl (xs:List (List FV)) (b off cap sz:Nat) (vals:Nat->Nat->Value) (himm:Imm b) (hcap:xs.length<=cap)
   (hsz:∀ e∈xs,e.length=sz)
   (hcell:∀ i j,i<xs.length->j<sz->w.cell? ⟨b,off+i*sz+j,none⟩=some (vals i j))
   (hval:∀ (i j:Nat) (e:List FV) (x:FV),xs[i]? = some e->e[j]? = some x->FVR w Imm x (vals i j)) :
   FVR w Imm (.sl xs) (.slice (some ⟨b,off,none⟩) xs.length cap)
theorem FVR.mono {w w':World} {Imm Imm':Nat->Prop} {x:FV} {v:Value} (h:FVR w Imm x v)
  (hm:∀ b,Imm b->Imm' b/\w'.heap[b]? = w.heap[b]?):FVR w' Imm' x v:=by
 induction h with
 | bool b=>exact .bool b
 | int k n=>exact .int k n
 | str s=>exact .str s
 | nilp=>exact .nilp
 | nilf=>exact .nilf
 | fn f=>exact .fn f
 | nil=>exact .nil
 | empty a cap=>exact .empty a cap
 | sl xs b off cap sz vals himm hcap hsz hcell hval ih=>
  refine .sl xs b off cap sz vals (hm b himm).1 hcap hsz (λi j hi hj=>?_) ih;rw [<- hcell i j hi hj];simp only [World.cell?,(hm b himm).2]
theorem FVR.Z2v {w:World} {Imm:Nat->Prop} {x:FV} {v:Value} (h:FVR w Imm x v):v.oneCell'=true:=by
 cases h<;>rfl
def Heap.Z3A (G:Heap) (id:Nat):Prop:=∃ el cells lv,G.ent id = .blk el cells lv
def Heap.ver (G:Heap) (id:Nat):Nat:=match G.ent id with | .blk _ cells _=>cells.length|_=>0
def Heap.Z5C (G:Heap) (id:Nat):Prop:=∃ fn e n ps as_ bo st pend,G.ent id = .loop fn e n ps as_ bo st pend
def Heap.isMap (G:Heap) (id:Nat):Prop:=∃ kv,G.ent id = .map kv
def Live (G:Heap) (id:Nat):Prop:=(∃ el cells,G.ent id = .blk el cells true)\/G.Z5C id\/G.isMap id
def Imm (w:World) (Y:Nat->Prop) (G:Heap) (D:Nat->Nat) (b:Nat):Prop :=
 b<w.heap.size/\¬ Y b/\∀ id,Live G id->D id≠b
structure St where
 w:World
 Y:Nat->Prop
 G:Heap
 D:Nat->Nat
def St.imm (s:St):Nat->Prop:=Imm s.w s.Y s.G s.D
inductive PVR (s:St):PV->Value->Prop
 | undef:PVR s .undef Go.undef
 | v {x:FV} {v:Value} (h:FVR s.w s.imm x v):PVR s (.v x) v
 | nils:PVR s .nils (.slice none 0 0)
 | full {xs:List (List FV)} {o:Option Addr} (h:FVR s.w s.imm (.sl xs) (.slice o xs.length xs.length)) :
   PVR s (.full xs) (.slice o xs.length xs.length)
 | buf {id len sz:Nat} {v:Value} (hb:s.G.Z3A id) (hv:len*sz<=s.G.ver id) (ho:∃ a cap,v = .slice (some a) len cap/\len<=cap)
   (h:s.G.ver id=len*sz->∃ cap cs el fr,v = .slice (some ⟨s.D id,0,none⟩) len cap/\len<=cap/\s.w.heap[s.D id]? = some (.cells cs el fr)/\cs.size=cap*sz/\cap<=maxLen) :
   PVR s (.buf id len sz) v
 | ptr {id ver off:Nat} {v:Value} (hb:s.G.Z3A id) (hv:ver<=s.G.ver id) (ho:v.oneCell'=true)
   (h:s.G.ver id=ver->v = .pointer (some ⟨s.D id,off,none⟩)):PVR s (.ptr id ver off) v
 | fptr {cells:List FV} {b off:Nat} (himm:s.imm b)
   (hcell:∀ (j:Nat) (x:FV),cells[j]? = some x->∃ u,s.w.cell? ⟨b,off+j,none⟩=some u/\FVR s.w s.imm x u):PVR s (.fptr cells) (.pointer (some ⟨b,off,none⟩))
 | clo {f:FuncId} {first caps:List PV} {fv cv:Array Value} (hf:first.length=fv.size) (hc:caps.length=cv.size)
   (h1:∀ (i:Nat) (x:PV),first[i]? = some x->PVR s x (fv.getD i Go.undef))
   (h2:∀ (i:Nat) (x:PV),caps[i]? = some x->PVR s x (cv.getD i Go.undef)):PVR s (.clo f first caps) (.func (.func f) fv cv)
 | yld {id:Nat} (h:s.G.Z5C id):PVR s (.yld id) (.func (.yield (s.D id)) #[] #[])
 | agg {cells:List PV} {cs:Array Value} (hs:cells.length=cs.size)
   (h:∀ (i:Nat) (x:PV),cells[i]? = some x->PVR s x (cs.getD i Go.undef)) (ho:∀ (i:Nat) (u:Value),cs[i]? = some u->u.oneCell'=true):PVR s (.agg cells) (.agg cs)
 | tup {xs:List PV} {vs:Array Value} (hs:xs.length=vs.size)
   (h:∀ (i:Nat) (x:PV),xs[i]? = some x->PVR s x (vs.getD i Go.undef)):PVR s (.tup xs) (.tuple vs)
 | mp {id:Nat} (h:s.G.isMap id):PVR s (.mp id) (.map (some (s.D id)))
 | view {id tot off len sz:Nat} {v:Value} (hb:s.G.Z3A id) (hv:tot*sz<=s.G.ver id) (ho:∃ a cap,v = .slice (some a) len cap/\len<=cap)
   (h:s.G.ver id=tot*sz->∃ cap,v = .slice (some ⟨s.D id,off*sz,none⟩) len cap):PVR s (.view id tot off len sz) v
structure Ev (s s':St):Prop where
 Y:s'.Y=s.Y
 size:s.w.heap.size<=s'.w.heap.size
 keep:∀ b,b<s.w.heap.size->(∀ id,Live s.G id->s.D id≠b)->s'.w.heap[b]? = s.w.heap[b]?
 live:∀ id,Live s'.G id->s'.D id<s.w.heap.size->∃ id0,Live s.G id0/\s.D id0=s'.D id
 blk:∀ id el cells lv,s.G.ent id = .blk el cells lv->∃ cells' lv',s'.G.ent id = .blk el cells' lv'/\cells.length<=cells'.length /\
  (cells'.length=cells.length->s'.D id=s.D id/\∀ cs e fr,s.w.heap[s.D id]? = some (.cells cs e fr)->∃ cs' fr',s'.w.heap[s.D id]? = some (.cells cs' e fr')/\cs'.size=cs.size)
 loop:∀ id fn e n ps as_ bo st pend,s.G.ent id = .loop fn e n ps as_ bo st pend->(∃ st' pend',s'.G.ent id = .loop fn e n ps as_ bo st' pend')/\s'.D id=s.D id
 map:∀ id kv,s.G.ent id = .map kv->(∃ kv',s'.G.ent id = .map kv')/\s'.D id=s.D id
 os:s'.w.os=s.w.os
 tape:s'.w.tape=s.w.tape
 output:s'.w.output=s.w.output
theorem Ev.refl (s:St):Ev s s where
 Y:=rfl
 size:=YG _
 keep:=λ_ _ _=>rfl
 live:=λid h _=>⟨id,h,rfl⟩
 blk:=λid el cells lv h=>⟨cells,lv,h,YG _,λ_=>⟨rfl,λcs e fr h=>⟨cs,fr,h,rfl⟩⟩⟩
 loop:=λid fn e n ps as_ bo st pend h=>⟨⟨st,pend,h⟩,rfl⟩
 map:=λid kv h=>⟨⟨kv,h⟩,rfl⟩
 os:=rfl
 tape:=rfl
 output:=rfl
theorem Ev.trans {s s' s'':St} (h:Ev s s') (h':Ev s' s''):Ev s s'' where
 Y:=h'.Y.trans h.Y
 size:=YW h.size h'.size
 keep:=λb hb hl=>by
  rw [h'.keep b (YN hb h.size),h.keep b hb hl];intro id hid heq;obtain ⟨id0,h0,h1⟩:=h.live id hid (heq▸hb);exact hl id0 h0 (h1.trans heq)
 live:=λid hid hlt=>by
  obtain ⟨id1,h1,e1⟩:=h'.live id hid (YN hlt h.size);obtain ⟨id0,h0,e0⟩:=h.live id1 h1 (by rw [e1];exact hlt)
  exact ⟨id0,h0,e0.trans e1⟩
 blk:=λid el cells lv hb=>by
  obtain ⟨c1,l1,e1,le1,k1⟩:=h.blk id el cells lv hb;obtain ⟨c2,l2,e2,le2,k2⟩:=h'.blk id el c1 l1 e1;refine ⟨c2,l2,e2,YW le1 le2,λheq=>?_⟩;have q1:c1.length=cells.length:=by omega
  have q2:c2.length=c1.length:=by omega
  obtain ⟨a1,b1⟩:=k1 q1;obtain ⟨a2,b2⟩:=k2 q2;refine ⟨a2.trans a1,λcs e fr hc=>?_⟩;obtain ⟨cs1,fr1,hc1,hs1⟩:=b1 cs e fr hc;obtain ⟨cs2,fr2,hc2,hs2⟩:=b2 cs1 e fr1 (by rw [a1];exact hc1)
  exact ⟨cs2,fr2,by rw [a1] at hc2;exact hc2,hs2.trans hs1⟩
 loop:=λid fn e n ps as_ bo st pend hl=>by
  obtain ⟨⟨s1,p1,e1⟩,i1⟩:=h.loop id fn e n ps as_ bo st pend hl;obtain ⟨h2,i2⟩:=h'.loop id fn e n ps as_ bo s1 p1 e1;exact ⟨h2,i2.trans i1⟩
 map:=λid kv hl=>by
  obtain ⟨⟨k1,e1⟩,i1⟩:=h.map id kv hl;obtain ⟨h2,i2⟩:=h'.map id k1 e1;exact ⟨h2,i2.trans i1⟩
 os:=h'.os.trans h.os
 tape:=h'.tape.trans h.tape
 output:=h'.output.trans h.output
theorem Ev.imm {s s':St} (h:Ev s s') (b:Nat) (hb:s.imm b):s'.imm b/\s'.w.heap[b]? = s.w.heap[b]?:=by
 obtain ⟨h1,h2,h3⟩:=hb
 refine ⟨⟨YN h1 h.size,by rw [h.Y];exact h2,λid hid heq=>?_⟩,h.keep b h1 h3⟩
 obtain ⟨id0,h0,e0⟩:=h.live id hid (heq▸h1)
 exact h3 id0 h0 (e0.trans heq)
theorem Ev.fvr {s s':St} (h:Ev s s') {x:FV} {v:Value} (hx:FVR s.w s.imm x v):FVR s'.w s'.imm x v:=hx.mono h.imm
theorem Ev.Z3A {s s':St} (h:Ev s s') {id:Nat} (hb:s.G.Z3A id):s'.G.Z3A id:=by
 obtain ⟨el,cells,lv,e⟩:=hb
 obtain ⟨c',l',e',_⟩:=h.blk id el cells lv e
 exact ⟨el,c',l',e'⟩
theorem Ev.ver {s s':St} (h:Ev s s') {id:Nat} (hb:s.G.Z3A id):s.G.ver id<=s'.G.ver id /\
  (s'.G.ver id=s.G.ver id->s'.D id=s.D id/\∀ cs e fr,s.w.heap[s.D id]? = some (.cells cs e fr)->∃ cs' fr',s'.w.heap[s.D id]? = some (.cells cs' e fr')/\cs'.size=cs.size):=by
 obtain ⟨el,cells,lv,e⟩:=hb
 obtain ⟨c',l',e',hle,hk⟩:=h.blk id el cells lv e
 simp only [Heap.ver,e,e']
 exact ⟨hle,hk⟩
theorem Ev.pvr {s s':St} (h:Ev s s') {x:PV} {v:Value} (hx:PVR s x v):PVR s' x v:=by
 induction hx with
 | undef=>exact .undef
 | v hx=>exact .v (h.fvr hx)
 | nils=>exact .nils
 | full hx=>exact .full (h.fvr hx)
 | buf hb hv ho hk=>
  obtain ⟨hle,heq⟩:=h.ver hb;refine .buf (h.Z3A hb) (YW hv hle) ho λe=>?_;have e1:s'.G.ver _=s.G.ver _:=Nat.le_antisymm (by omega) hle
  obtain ⟨hi,hs⟩:=heq e1;obtain ⟨cap,cs,el,fr,q1,q2,q3,q4,q5⟩:=hk (by omega)
  obtain ⟨cs',fr',r1,r2⟩:=hs cs el fr q3;exact ⟨cap,cs',el,fr',by rw [hi];exact q1,q2,by rw [hi];exact r1,r2.trans q4,q5⟩
 | ptr hb hv ho hk=>
  obtain ⟨hle,heq⟩:=h.ver hb;refine .ptr (h.Z3A hb) (YW hv hle) ho λe=>?_;have e1:s'.G.ver _=s.G.ver _:=Nat.le_antisymm (by omega) hle
  rw [(heq e1).1];exact hk (by omega)
 | @fptr cells b off himm hcell=>
  refine .fptr (h.imm _ himm).1 (λj x hj=>?_);obtain ⟨u,h1,h2⟩:=hcell j x hj;refine ⟨u,?_,h.fvr h2⟩;rw [<- h1];simp only [World.cell?,(h.imm _ himm).2]
 | clo hf hc _ _ ih1 ih2=>exact .clo hf hc ih1 ih2
 | yld hl=>
  obtain ⟨fn,e,n,ps,as_,bo,st,pend,hl⟩:=hl;obtain ⟨⟨st',pend',h1⟩,h2⟩:=h.loop _ _ _ _ _ _ _ _ _ hl;rw [<- h2];exact .yld ⟨_,_,_,_,_,_,_,_,h1⟩
 | agg hs _ ho ih=>exact .agg hs ih ho
 | tup hs _ ih=>exact .tup hs ih
 | mp hm=>
  obtain ⟨kv,hm⟩:=hm;obtain ⟨⟨kv',h1⟩,h2⟩:=h.map _ _ hm;rw [<- h2];exact .mp ⟨_,h1⟩
 | view hb hv ho hk=>
  obtain ⟨hle,heq⟩:=h.ver hb;refine .view (h.Z3A hb) (YW hv hle) ho λe=>?_;have e1:s'.G.ver _=s.G.ver _:=Nat.le_antisymm (by omega) hle
  rw [(heq e1).1];exact hk (by omega)
def mlist (kv:List (Int×Int)) (j:Nat):List MapEntry:=(kv.zipIdx j).map λp=>{ key:=.int .i64 p.1.1,val:=.int .i64 p.1.2,born:=p.2 }
def mobj (kv:List (Int×Int)):Obj:=.map (mlist kv 0).toArray kv.length
def EntOK (s:St) (id:Nat):Ent->Prop
 | .none=>True
 | .blk el cells lv=>∃ cs fr,s.w.heap[s.D id]? = some (.cells cs el fr)/\cells.length<=cs.size/\(lv=true->fr=(0,0)) /\
   ∀ (j:Nat) (x:PV),cells[j]? = some x->∃ u,cs[j]? = some u/\PVR s x u/\u.oneCell'=true
 | .loop _ e n ps as_ bo st pend=>∃ fn tmps defers,s.w.heap[s.D id]? = some (.loop { state:=st,pending:=pend,fn:=fn,tmps:=tmps,params:=ps.toArray,assign:=as_,body:=bo,defers:=defers }) /\
   tmps.size=n/\∀ t,PVR s (e t) (tmps.getD t Go.undef)
 | .map kv=>s.w.heap[s.D id]? = some (mobj kv)
structure Inv (s:St):Prop where
 ent:∀ id,EntOK s id (s.G.ent id)
 inj:∀ id id',Live s.G id->Live s.G id'->s.D id=s.D id'->id=id'
 notY:∀ id,Live s.G id->¬ s.Y (s.D id)
 fz:∀ id el cells,s.G.ent id = .blk el cells false->s.imm (s.D id)
 nx:∀ id,s.G.nx<=id->s.G.ent id = .none
 Ylt:∀ b,s.Y b->b<s.w.heap.size
def EnvR (s:St) (n:Nat) (e:Env) (a:Act):Prop:=a.tmps.size=n/\∀ t,PVR s (e t) (a.tmps.getD t Go.undef)
theorem EnvR.mono {s s':St} {n:Nat} {e:Env} {a:Act} (h:EnvR s n e a) (hev:Ev s s'):EnvR s' n e a :=
 ⟨h.1,λt=>hev.pvr (h.2 t)⟩
theorem Live.lt {s:St} (hi:Inv s) {id:Nat} (h:Live s.G id):s.D id<s.w.heap.size:=by
 have he:=hi.ent id
 rcases h with ⟨el,cells,e⟩|⟨fn,e',n,ps,as_,bo,st,pend,e⟩|⟨kv,e⟩
 ·rw [e] at he;obtain ⟨cs,fr,h1,_⟩:=he;exact (Array.getElem?_eq_some_iff.1 h1).1
 ·rw [e] at he;obtain ⟨fn2,tmps,defers,h1,_⟩:=he;exact (Array.getElem?_eq_some_iff.1 h1).1
 ·rw [e] at he;exact (Array.getElem?_eq_some_iff.1 he).1
end Go.Dn

namespace Go.Dn
open Go
variable {X:Ctx} {s:St} {n:Nat} {e:Env} {a:Act}
def Zg (X:Ctx) (s:St):Prop:=∀ g cells,X.glob g=some cells->PVR s (.fptr cells) (.pointer (some ⟨g,0,none⟩))
theorem Zg.mono {s':St} (h:Zg X s) (hev:Ev s s'):Zg X s':=λg cells hg=>hev.pvr (h g cells hg)
theorem ofVal_fvr {c:Value} {x:FV} (h:FV.ofVal c=some x):FVR s.w s.imm x c:=by
 unfold FV.ofVal at h
 split at h<;>simp at h<;>subst h
 ·exact .bool _
 ·exact .int _ _
 ·exact .str _
 ·exact .nilp
 ·exact .nilf
theorem Z6K {c:Value} {x:PV} (h:PV.ofCell c=some x):PVR s x c/\c.oneCell'=true:=by
 unfold PV.ofCell at h
 split at h
 ·simp at h;subst h;exact ⟨.nils,rfl⟩
 ·simp only [Y3] at h;obtain ⟨y,hy,rfl⟩:=h;exact ⟨.v (ofVal_fvr hy),(ofVal_fvr (s:=s) hy).Z2v⟩
theorem Z2D:∀ {cs:List Value} {xs:List PV},Z3g cs=some xs->xs.length=cs.length/\∀ (i:Nat) (x:PV),xs[i]? = some x->∃ u,cs[i]? = some u/\PVR s x u/\u.oneCell'=true
 | [],xs,h=>by simp [Z3g] at h;subst h;simp
 | c::cs,xs,h=>by
  simp only [Z3g,Y9,YA] at h;obtain ⟨y,hy,ys,hys,rfl⟩:=h;obtain ⟨h1,h2⟩:=Z2D hys;refine ⟨by simp [h1],λi x hi=>?_⟩
  cases i with
  | zero=>simp at hi;subst hi;exact ⟨c,by simp,Z6K hy⟩
  | succ i=>simp at hi;simpa using h2 i x hi
theorem ofVal_pvr {c:Value} {x:PV} (h:PV.ofVal c=some x):PVR s x c:=by
 unfold PV.ofVal at h
 split at h
 ·simp only [Y3] at h;obtain ⟨xs,hx,rfl⟩:=h;obtain ⟨h1,h2⟩:=Z2D (s:=s) hx;refine .agg (by simpa using h1) (λi x hi=>?_) (λi u hu=>?_)
  ·obtain ⟨u,hu,hp,_⟩:=h2 i x hi;rename_i cs;simp only [Y08] at hu
   simpa [YC,hu] using hp
  ·rename_i cs;have hl:i<xs.length:=by
    have:=(Array.getElem?_eq_some_iff.1 hu).1;simp only [Y04] at h1;omega
   obtain ⟨u',hu',_,ho⟩:=h2 i xs[i] (YB hl);simp only [Y08] at hu';rw [hu] at hu';cases hu';exact ho
 ·rename_i vs
  split at h
  ·rename_i hz;simp at h;subst h;have:vs = #[]:=Y0E hz;subst this;exact .undef
  ·simp at h
 ·exact (Z6K h).1
theorem Z5 {x:Operand} {y:PV} (hG:Zg X s) (he:EnvR s n e a) (h:Z0 X e x=some y):PVR s y (a.eval x):=by
 cases x with
 | tmp t=>simp [Z0] at h;subst h;exact he.2 t
 | const c=>exact ofVal_pvr h
 | global g=>
  simp only [Z0,Y3] at h;obtain ⟨cs,hc,rfl⟩:=h;exact hG g cs hc
 | func f=>simp [Z0] at h;subst h;exact .v (.fn f)
theorem Z4o (hG:Zg X s) (he:EnvR s n e a):∀ {xs:List Operand} {ys:List PV},ZC X e xs=some ys ->
  ys.length=xs.length/\∀ (i:Nat) (y:PV),ys[i]? = some y->∃ o,xs[i]? = some o/\PVR s y (a.eval o)
 | [],ys,h=>by simp [ZC] at h;subst h;simp
 | x::xs,ys,h=>by
  simp only [ZC,Y9,YA] at h;obtain ⟨y,hy,zs,hzs,rfl⟩:=h;obtain ⟨h1,h2⟩:=Z4o hG he hzs;refine ⟨by simp [h1],λi z hi=>?_⟩
  cases i with
  | zero=>simp at hi;subst hi;exact ⟨x,by simp,Z5 hG he hy⟩
  | succ i=>simp at hi;simpa using h2 i z hi
def PVRs (s:St) (xs:List PV) (vs:Array Value):Prop:=xs.length=vs.size/\∀ (i:Nat) (x:PV),xs[i]? = some x->PVR s x (vs.getD i Go.undef)
theorem PVRs.mono {s':St} {xs:List PV} {vs:Array Value} (h:PVRs s xs vs) (hev:Ev s s'):PVRs s' xs vs:=⟨h.1,λi x hi=>hev.pvr (h.2 i x hi)⟩
theorem Z0w (hG:Zg X s) (he:EnvR s n e a) {xs:Array Operand} {ys:List PV} (h:ZC X e xs.toList=some ys):PVRs s ys (xs.map a.eval):=by
 obtain ⟨h1,h2⟩:=Z4o hG he h
 refine ⟨by simpa using h1,λi y hi=>?_⟩
 obtain ⟨o,ho,hp⟩:=h2 i y hi
 simp only [Y08] at ho
 simpa [YC,ho] using hp
def Nx (X:Ctx) (s:St) (a:Act) (dst:Option Tmp) (x:PV) (G':Heap) (a':Act) (w':World):Prop :=
 ∃ D' v,a'=a.put dst v/\Inv ⟨w',s.Y,G',D'⟩/\Ev s ⟨w',s.Y,G',D'⟩/\PVR ⟨w',s.Y,G',D'⟩ x v
def Gives (X:Ctx) (s:St) (x:PV) (G':Heap) (r:Result Value):Prop :=
 ∃ D' v w',r = .ok v w'/\Inv ⟨w',s.Y,G',D'⟩/\Ev s ⟨w',s.Y,G',D'⟩/\PVR ⟨w',s.Y,G',D'⟩ x v
theorem Gives.same {x:PV} {v:Value} (hi:Inv s) (h:PVR s x v):Gives X s x s.G (.ok v s.w) :=
 ⟨s.D,v,s.w,rfl,hi,Ev.refl s,h⟩
theorem Zk {P:Program} {t:TypeId} {d:TypeDesc} (w:World) (h:P.underlying t=some d):(underlying t).run P w = .ok d w:=by
 simp [underlying,h]
theorem info_of {P:Program} {t:TypeId} {i:TypeInfo} (w:World) (h:P.info? t=some i):(typeInfo t).run P w = .ok i w:=by
 simp [typeInfo,h]
theorem Z0S {P:Program} {t:TypeId} {k:Nat} (w:World) (h:tsize P t=some k):(sizeOf t).run P w = .ok k w:=by
 simp only [tsize,Y3] at h
 obtain ⟨i,hi,rfl⟩:=h
 simp [sizeOf,info_of w hi]
theorem Z4q {P:Program} {t:TypeId} {b:Bool} (w:World) (h:tagg P t=some b):(isAgg t).run P w = .ok b w:=by
 simp only [tagg,Y3] at h
 obtain ⟨d,hd,rfl⟩:=h
 simp only [isAgg,Sem.run_bind,Zk w hd,Result.andThen_ok]
 cases d<;>rfl
theorem Z04 {P:Program} {t e:TypeId} (h:tslice P t=some e):P.underlying t=some (.slice e):=by
 unfold tslice at h
 split at h
 ·simp at h;subst h;assumption
 ·simp at h
theorem Z2w {P:Program} {t:TypeId} {r:Nat×TypeId} (h:tarray P t=some r):P.underlying t=some (.array r.1 r.2):=by
 unfold tarray at h
 split at h
 ·simp at h;subst h;assumption
 ·simp at h
theorem tstr_run {P:Program} {t:TypeId} (h:tstr P t=true):P.underlying t=some .string:=by
 unfold tstr at h
 split at h
 ·assumption
 ·simp at h
theorem Z13 {x:PV} {i:Nat} (h:Z2C x=some i) {v:Value} (hv:PVR s x v):∃ k,v = .int k (i:Int):=by
 unfold Z2C at h
 split at h
 ·rename_i k m
  split at h
  ·rename_i h0;simp at h;subst h;cases hv with
   | v hv=>cases hv;exact ⟨k,by congr 1;omega⟩
  ·simp at h
 ·simp at h
theorem Z4X {G:Heap} {id k:Nat} (h:G.cur id k=true):G.Z3A id/\G.ver id=k:=by
 unfold Heap.cur at h
 split at h
 ·rename_i el cells lv he;simp at h;exact ⟨⟨el,cells,lv,he⟩,by simp [Heap.ver,he,h]⟩
 ·simp at h
theorem PVR.Z2v {x:PV} {v:Value} (h:PVR s x v) (hx:∀ cs,x ≠ .agg cs) (ht:∀ vs,x ≠ .tup vs) (hu:x ≠ .undef):v.oneCell'=true:=by
 cases h with
 | undef=>exact absurd rfl hu
 | v h=>exact h.Z2v
 | nils=>rfl
 | full h=>rfl
 | buf hb hv ho h=>obtain ⟨_,_,rfl,_⟩:=ho;rfl
 | view hb hv ho h=>obtain ⟨_,_,rfl,_⟩:=ho;rfl
 | ptr hb hv ho h=>exact ho
 | fptr himm hcell=>rfl
 | clo hf hc h1 h2=>rfl
 | yld h=>rfl
 | mp h=>rfl
 | agg hs h ho=>exact absurd rfl (hx _)
 | tup hs h=>exact absurd rfl (ht _)
theorem Z50 {x:PV} {ys:List PV} {v:Value} (hc:x.cells=some ys) (h:PVR s x v) :
  ys.length=v.cells.size/\∀ (i:Nat) (y:PV),ys[i]? = some y->∃ u,v.cells[i]? = some u/\PVR s y u/\u.oneCell'=true:=by
 have one:∀ {x:PV} {v:Value},PVR s x v->(∀ cs,x ≠ .agg cs)->(∀ vs,x ≠ .tup vs)->x ≠ .undef->ys=[x] ->
   ys.length=v.cells.size/\∀ (i:Nat) (y:PV),ys[i]? = some y->∃ u,v.cells[i]? = some u/\PVR s y u/\u.oneCell'=true:=by
  intro x v h h1 h2 h3 hy;subst hy;have ho:=h.Z2v h1 h2 h3;have hv:v.cells = #[v]:=by cases v<;>first|rfl|simp [Value.oneCell'] at ho
  rw [hv];refine ⟨rfl,λi y hi=>?_⟩
  cases i with
  | zero=>simp at hi;subst hi;exact ⟨v,rfl,h,ho⟩
  | succ i=>simp at hi
 cases x with
 | undef=>simp [PV.cells] at hc
 | tup _=>simp [PV.cells] at hc
 | agg cs=>
  simp [PV.cells] at hc;subst hc;cases h with
  | @agg _ cv hs h ho=>
   refine ⟨hs,λi y hi=>?_⟩;have hl:i<cv.size:=by rw [<- hs];exact (List.getElem?_eq_some_iff.1 hi).1
   refine ⟨cv[i],by simp [Value.cells,hl],?_,ho i _ (Ye hl)⟩
   have:=h i y hi
   simpa [YC,hl] using this
 | v y=>simp [PV.cells] at hc;exact one h (by simp) (by simp) (by simp) hc.symm
 | nils=>simp [PV.cells] at hc;exact one h (by simp) (by simp) (by simp) hc.symm
 | full y=>simp [PV.cells] at hc;exact one h (by simp) (by simp) (by simp) hc.symm
 | buf _ _ _=>simp [PV.cells] at hc;exact one h (by simp) (by simp) (by simp) hc.symm
 | ptr _ _ _=>simp [PV.cells] at hc;exact one h (by simp) (by simp) (by simp) hc.symm
 | fptr _=>simp [PV.cells] at hc;exact one h (by simp) (by simp) (by simp) hc.symm
 | clo _ _ _=>simp [PV.cells] at hc;exact one h (by simp) (by simp) (by simp) hc.symm
 | yld _=>simp [PV.cells] at hc;exact one h (by simp) (by simp) (by simp) hc.symm
 | mp _=>simp [PV.cells] at hc;exact one h (by simp) (by simp) (by simp) hc.symm
 | view _ _ _ _ _=>simp [PV.cells] at hc;exact one h (by simp) (by simp) (by simp) hc.symm
end Go.Dn

namespace Go.Dn
open Go
theorem Z6 {α:Type} (f:Nat->α) (i:Nat) (x:α):upd f i x i=x:=by simp [upd]
theorem ZF {α:Type} (f:Nat->α) {i j:Nat} (x:α) (h:j≠i):upd f i x j=f j:=by simp [upd,h]
theorem Z0Q {G:Heap} {id:Nat} {en:Ent} {id':Nat} (h:id'≠id):Live (G.put id en) id'↔Live G id':=by
 simp [Live,Heap.Z5C,Heap.isMap,Heap.put,upd,h]
structure Put (s:St) (id:Nat) (el:TypeId) (cells':List PV) (g:Nat) (w':World) (cs':Array Value):Prop where
 old:s.G.ent id = .none\/∃ cells,s.G.ent id = .blk el cells true/\cells.length<=cells'.length/\(cells'.length=cells.length->g=s.D id)
 place:s.w.heap.size<=g\/(g=s.D id/\(∃ cells,s.G.ent id = .blk el cells true)/\∀ cs e fr,s.w.heap[g]? = some (.cells cs e fr)->cs'.size=cs.size)
 size:s.w.heap.size<=w'.heap.size
 others:∀ b,b<s.w.heap.size->b≠g->w'.heap[b]? = s.w.heap[b]?
 here:w'.heap[g]? = some (.cells cs' el (0,0))
 len:cells'.length<=cs'.size
 cells:∀ (j:Nat) (x:PV),cells'[j]? = some x->∃ u,cs'[j]? = some u/\PVR s x u/\u.oneCell'=true
 nx:id<s.G.nx
 os:w'.os=s.w.os
 tape:w'.tape=s.w.tape
 output:w'.output=s.w.output
def St.put (s:St) (id:Nat) (el:TypeId) (cells':List PV) (g:Nat) (w':World):St:=⟨w',s.Y,s.G.put id (.blk el cells' true),upd s.D id g⟩
theorem Put.old_elem {s:St} (hi:Inv s) {id:Nat} {el:TypeId} {cells:List PV} {lv:Bool} (h:s.G.ent id = .blk el cells lv):∃ cs fr,s.w.heap[s.D id]? = some (.cells cs el fr):=by
 have:=hi.ent id
 rw [h] at this
 obtain ⟨cs,fr,h1,_⟩:=this
 exact ⟨cs,fr,h1⟩
theorem Put.ev {s:St} {id:Nat} {el:TypeId} {cells':List PV} {g:Nat} {w':World} {cs':Array Value} (hi:Inv s) (h:Put s id el cells' g w' cs') :
  Ev s (s.put id el cells' g w') where
 Y:=rfl
 size:=h.size
 keep:=λb hb hl=>by
  refine h.others b hb λe=>?_;rcases h.place with hp|⟨hp,⟨cells,hc⟩,_⟩
  ·omega
  ·exact hl id (.inl ⟨el,cells,hc⟩) (by rw [e,hp])
 live:=λid' hid hlt=>by
  by_cases e:id'=id
  ·subst e;simp only [St.put,Z6] at hlt ⊢;rcases h.place with hp|⟨hp,⟨cells,hc⟩,_⟩
   ·omega
   ·exact ⟨id',.inl ⟨el,cells,hc⟩,hp.symm⟩
  ·simp only [St.put,ZF _ _ e] at hlt ⊢;exact ⟨id',(Z0Q e).1 hid,rfl⟩
 blk:=λid' el' cells lv hb=>by
  by_cases e:id'=id
  ·subst e;rcases h.old with ho|⟨c0,ho,hle,hg⟩
   ·rw [ho] at hb;cases hb
   ·rw [ho] at hb;cases hb;refine ⟨cells',true,by simp [St.put,Heap.put,Z6],hle,λheq=>?_⟩
    have hg':=hg heq;subst hg';refine ⟨by simp [St.put,Z6],λcs e fr hcs=>?_⟩
    obtain ⟨cs0,fr0,h0⟩:=Put.old_elem hi ho;rw [h0] at hcs;cases hcs;refine ⟨cs',(0,0),by rw [<- h.here];rfl,?_⟩
    rcases h.place with hp|⟨_,_,hsz⟩
    ·have:=(Array.getElem?_eq_some_iff.1 h0).1;omega
    ·exact hsz _ _ _ h0
  ·refine ⟨cells,lv,by simp [St.put,Heap.put,ZF _ _ e,hb],YG _,λ_=>⟨by simp [St.put,ZF _ _ e],λcs e' fr hcs=>?_⟩⟩
   refine ⟨cs,fr,?_,rfl⟩;rw [<- hcs];refine h.others _ (Array.getElem?_eq_some_iff.1 hcs).1 λhg=>?_;rcases h.place with hp|⟨hp,⟨c,hc⟩,_⟩
   ·have:=(Array.getElem?_eq_some_iff.1 hcs).1;omega
   ·cases lv with
    | true=>exact e (hi.inj id' id (.inl ⟨el',cells,hb⟩) (.inl ⟨el,c,hc⟩) (hg.trans hp))
    | false=>exact (hi.fz id' el' cells hb).2.2 id (.inl ⟨el,c,hc⟩) (hp▸hg.symm)
 loop:=λid' fn e n ps as_ bo st pend hl=>by
  by_cases e':id'=id
  ·subst e';rcases h.old with ho|⟨c0,ho,_⟩<;>rw [ho] at hl<;>cases hl
  ·exact ⟨⟨st,pend,by simp [St.put,Heap.put,ZF _ _ e',hl]⟩,by simp [St.put,ZF _ _ e']⟩
 map:=λid' kv hl=>by
  by_cases e':id'=id
  ·subst e';rcases h.old with ho|⟨c0,ho,_⟩<;>rw [ho] at hl<;>cases hl
  ·exact ⟨⟨kv,by simp [St.put,Heap.put,ZF _ _ e',hl]⟩,by simp [St.put,ZF _ _ e']⟩
 os:=h.os
 tape:=h.tape
 output:=h.output
theorem Put.ne {s:St} {id:Nat} {el:TypeId} {cells':List PV} {g:Nat} {w':World} {cs':Array Value} (hi:Inv s) (h:Put s id el cells' g w' cs')
  {id':Nat} (hne:id'≠id) (hl:Live s.G id'):s.D id'≠g:=by
 intro e
 rcases h.place with hp|⟨hp,⟨c,hc⟩,_⟩
 ·have:=hl.lt hi;omega
 ·exact hne (hi.inj id' id hl (.inl ⟨el,c,hc⟩) (e.trans hp))
theorem Put.inv {s:St} {id:Nat} {el:TypeId} {cells':List PV} {g:Nat} {w':World} {cs':Array Value} (hi:Inv s) (h:Put s id el cells' g w' cs') :
  Inv (s.put id el cells' g w'):=by
 have hev:=h.ev hi
 refine ⟨λid'=>?_,λid1 id2 h1 h2 he=>?_,λid' hl=>?_,λid' el' c hb=>?_,λid' hn=>?_,λb hb=>YN (hi.Ylt b hb) h.size⟩
 ·by_cases e:id'=id
  ·subst e;have:(s.put id' el cells' g w').G.ent id' = .blk el cells' true:=by simp [St.put,Heap.put,Z6]
   rw [this];refine ⟨cs',(0,0),by simp only [St.put,Z6];exact h.here,h.len,λ_=>rfl,λj x hj=>?_⟩
   obtain ⟨u,hu,hp,ho⟩:=h.cells j x hj;exact ⟨u,hu,hev.pvr hp,ho⟩
  ·have h1:(s.put id el cells' g w').G.ent id'=s.G.ent id':=by simp [St.put,Heap.put,ZF _ _ e]
   have h2:(s.put id el cells' g w').D id'=s.D id':=by simp [St.put,ZF _ _ e]
   rw [h1];have he:=hi.ent id'
   cases hent:s.G.ent id' with
   | none=>trivial
   | blk el' c lv=>
    rw [hent] at he;obtain ⟨cs,fr,q1,q2,q3,q4⟩:=he;refine ⟨cs,fr,?_,q2,q3,λj x hj=>?_⟩
    ·rw [h2,<- q1];refine h.others _ (Array.getElem?_eq_some_iff.1 q1).1 λhg=>?_
     cases lv with
     | true=>exact h.ne hi e (.inl ⟨el',c,hent⟩) hg
     | false=>
      rcases h.place with hp|⟨hp,⟨c',hc⟩,_⟩
      ·have:=(Array.getElem?_eq_some_iff.1 q1).1;omega
      ·exact (hi.fz id' el' c hent).2.2 id (.inl ⟨el,c',hc⟩) (hp▸hg.symm)
    ·obtain ⟨u,hu,hp,ho⟩:=q4 j x hj;exact ⟨u,hu,hev.pvr hp,ho⟩
   | loop fn e' n ps as_ bo st pend=>
    rw [hent] at he;obtain ⟨fn2,tmps,defers,q1,q2,q3⟩:=he;refine ⟨fn2,tmps,defers,?_,q2,λt=>hev.pvr (q3 t)⟩;rw [h2,<- q1];exact h.others _ (Array.getElem?_eq_some_iff.1 q1).1 (h.ne hi e (.inr (.inl ⟨_,_,_,_,_,_,_,_,hent⟩)))
   | map kv=>
    rw [hent] at he;show w'.heap[_]? = _;rw [h2,<- he];exact h.others _ (Array.getElem?_eq_some_iff.1 he).1 (h.ne hi e (.inr (.inr ⟨_,hent⟩)))
 ·by_cases e1:id1=id<;>by_cases e2:id2=id
  ·rw [e1,e2]
  ·subst e1;simp only [St.put,Z6,ZF _ _ e2] at he;exact absurd he.symm (h.ne hi e2 ((Z0Q e2).1 h2))
  ·subst e2;simp only [St.put,Z6,ZF _ _ e1] at he;exact absurd he (h.ne hi e1 ((Z0Q e1).1 h1))
  ·simp only [St.put,ZF _ _ e1,ZF _ _ e2] at he;exact hi.inj id1 id2 ((Z0Q e1).1 h1) ((Z0Q e2).1 h2) he
 ·by_cases e:id'=id
  ·subst e;simp only [St.put,Z6];intro hy;rcases h.place with hp|⟨hp,⟨c,hc⟩,_⟩
   ·have:=hi.Ylt _ hy;omega
   ·rw [hp] at hy;exact hi.notY id' (.inl ⟨el,c,hc⟩) hy
  ·simp only [St.put,ZF _ _ e];exact hi.notY id' ((Z0Q e).1 hl)
 ·by_cases e:id'=id
  ·subst e;simp [St.put,Heap.put,Z6] at hb
  ·have hb':s.G.ent id' = .blk el' c false:=by simpa [St.put,Heap.put,ZF _ _ e] using hb
   have:(s.put id el cells' g w').D id'=s.D id':=by simp [St.put,ZF _ _ e]
   rw [this];exact (hev.imm _ (hi.fz id' el' c hb')).1
 ·have hne:id'≠id:=by
   intro e;subst e;have:=h.nx;simp only [St.put,Heap.put] at hn;omega
  simp only [St.put,Heap.put,ZF _ _ hne];exact hi.nx id' hn
theorem Z18 {s:St} (hi:Inv s) {id:Nat} (hid:s.G.ent id = .none) (hnx:id<s.G.nx) (el:TypeId) (cells:List PV) (cs:Array Value) (w':World)
  (hw:w'.heap=s.w.heap.push (.cells cs el (0,0))) (hos:w'.os=s.w.os) (ht:w'.tape=s.w.tape) (ho:w'.output=s.w.output)
  (hl:cells.length<=cs.size) (hc:∀ (j:Nat) (x:PV),cells[j]? = some x->∃ u,cs[j]? = some u/\PVR s x u/\u.oneCell'=true) :
  Put s id el cells s.w.heap.size w' cs where
 old:=.inl hid
 place:=.inl (YG _)
 size:=by rw [hw];simp
 others:=λb hb _=>by rw [hw,Array.getElem?_push];simp;omega
 here:=by rw [hw];simp
 len:=hl
 cells:=hc
 nx:=hnx
 os:=hos
 tape:=ht
 output:=ho
end Go.Dn

namespace Go.Dn
open Go
variable {X:Ctx} {s:St} {n:Nat} {e:Env} {a:Act} {P:Program}
theorem Z1J (b o j:Nat):(⟨b,o,none⟩ : Addr).add j=⟨b,o+j,none⟩:=by
 unfold Addr.add;split<;>simp_all
theorem loadCells_pvr (b o:Nat) (xs:List PV) (h:∀ (j:Nat) (x:PV),xs[j]? = some x->∃ u,s.w.cell? ⟨b,o+j,none⟩=some u/\PVR s x u/\u.oneCell'=true) :
  ∃ cs:Array Value,(loadCells ⟨b,o,none⟩ xs.length).run P s.w = .ok cs s.w/\PVR s (.agg xs) (.agg cs):=by
 let f:Nat->Value:=λj=>(s.w.cell? ⟨b,o+j,none⟩).getD Go.undef
 have hf:∀ j,j<xs.length->s.w.cell? ⟨b,o+j,none⟩=some (f j):=λj hj=>by
  obtain ⟨u,hu,_⟩:=h j xs[j] (YB hj);simp [f,hu]
 have hr:=run_loadCells_list (P:=P) s.w ⟨b,o,none⟩ ((List.range xs.length).map f) (λj v hv=>by
  rw [Z1J];simp only [YP,Y3] at hv;obtain ⟨k,hk,rfl⟩:=hv;obtain ⟨hlt,rfl⟩:=List.getElem?_eq_some_iff.1 hk
  simp only [List.getElem_range] at *
  exact hf _ (by simpa using hlt))
 simp only [Yl,List.length_range] at hr
 refine ⟨_,hr,.agg (by simp) (λi x hi=>?_) (λi u hu=>?_)⟩
 ·have hl:i<xs.length:=(List.getElem?_eq_some_iff.1 hi).1;obtain ⟨u,hu,hp,_⟩:=h i x hi;have:f i=u:=by simp [f,hu]
  simpa [YC,hl,this] using hp
 ·simp only [Y0M,YP,Y3] at hu;obtain ⟨k,hk,rfl⟩:=hu;obtain ⟨hlt,rfl⟩:=List.getElem?_eq_some_iff.1 hk
  simp only [List.getElem_range] at *
  have hl:i<xs.length:=by simpa using hlt
  obtain ⟨u,hu,_,ho⟩:=h i xs[i] (YB hl);have:f i=u:=by simp [f,hu]
  rw [this];exact ho
theorem Z2V (hi:Inv s) {id:Nat} {el:TypeId} {cells:List PV} {lv:Bool} (hb:s.G.ent id = .blk el cells lv) (j:Nat) (x:PV) (hj:cells[j]? = some x) :
  ∃ u,s.w.cell? ⟨s.D id,j,none⟩=some u/\PVR s x u/\u.oneCell'=true:=by
 have:=hi.ent id
 rw [hb] at this
 obtain ⟨cs,fr,h1,_,_,h4⟩:=this
 obtain ⟨u,hu,hp,ho⟩:=h4 j x hj
 exact ⟨u,by simp [World.cell?,h1,hu],hp,ho⟩
theorem Z5h {t:TypeId} {k b o:Nat} (ha:tagg P t=some true) (hs:tsize P t=some k) (xs:List PV) (hl:xs.length=k)
  (h:∀ (j:Nat) (x:PV),xs[j]? = some x->∃ u,s.w.cell? ⟨b,o+j,none⟩=some u/\PVR s x u/\u.oneCell'=true) :
  ∃ v,(loadVar t ⟨b,o,none⟩).run P s.w = .ok v s.w/\PVR s (.agg xs) v:=by
 obtain ⟨cs,h1,h2⟩:=loadCells_pvr (P:=P) b o xs h
 refine ⟨.agg cs,?_,h2⟩
 subst hl
 simp [loadVar,Z4q s.w ha,Z0S s.w hs,h1]
theorem Z5j {t:TypeId} {b o:Nat} {u:Value} (ha:tagg P t=some false) (h:s.w.cell? ⟨b,o,none⟩=some u) :
  (loadVar t ⟨b,o,none⟩).run P s.w = .ok u s.w:=by
 simp [loadVar,Z4q s.w ha,h]
theorem load_ok (hi:Inv s) {t:TypeId} {p x:PV} {v:Value} (hp:PVR s p v) (h:Z05 P s.G t p=some x) :
  ∃ ad u,v = .pointer (some ad)/\(loadVar t ad).run P s.w = .ok u s.w/\PVR s x u:=by
 unfold Z05 at h
 split at h
 ·rename_i id ver off
  split at h
  ·rename_i el cells lv hb
   split at h
   ·rename_i hver;cases hp with
    | ptr hbk hv ho hk=>
     have hvv:=hk (by simp [Heap.ver,hb,hver])
     subst hvv
     split at h
     ·rename_i k ha hs
      split at h
      ·rename_i hle;simp at h;subst h;obtain ⟨u,h1,h2⟩:=Z5h (s:=s) (P:=P) (b:=s.D id) (o:=off) ha hs ((cells.drop off).take k) (by simp;omega) (λj x hj=>by
        rw [YO] at hj
        split at hj
        ·rw [YY] at hj;exact Z2V hi hb _ x hj
        ·cases hj)
       exact ⟨_,u,rfl,h1,h2⟩
      ·simp at h
     ·rename_i ha;obtain ⟨u,h1,h2,_⟩:=Z2V hi hb off x h;exact ⟨_,u,rfl,Z5j ha h1,h2⟩
     ·simp at h
   ·simp at h
  ·simp at h
 ·rename_i cells;cases hp with
  | @fptr _ b off himm hc=>
   have hc':∀ (j:Nat) (x:PV),(vs cells)[j]? = some x->∃ u,s.w.cell? ⟨b,off+j,none⟩=some u/\PVR s x u/\u.oneCell'=true:=λj x hj=>by
    simp only [vs,YP,Y3] at hj;obtain ⟨y,hy,rfl⟩:=hj;obtain ⟨u,h1,h2⟩:=hc j y hy;exact ⟨u,h1,.v h2,h2.Z2v⟩
   split at h
   ·rename_i k ha hs
    split at h
    ·rename_i hle;simp at h;subst h;obtain ⟨u,h1,h2⟩:=Z5h (s:=s) (P:=P) (b:=b) (o:=off) ha hs (vs (cells.take k)) (by simp [vs];omega) (λj x hj=>by
      refine hc' j x ?_;simp only [vs,List.map_take,YO] at hj ⊢
      split at hj
      ·exact hj
      ·cases hj)
     exact ⟨_,u,rfl,h1,h2⟩
    ·simp at h
   ·rename_i ha;simp only [Y3] at h;obtain ⟨y,hy,rfl⟩:=h;obtain ⟨u,h1,h2⟩:=hc 0 y hy;exact ⟨_,u,rfl,Z5j ha (by simpa using h1),.v h2⟩
   ·simp at h
 ·simp at h
theorem load_gives (hi:Inv s) {t:TypeId} {p x:PV} {v:Value} (hp:PVR s p v) (h:Z05 P s.G t p=some x) :
  Gives X s x s.G ((Instr.loadAt t v).run P s.w):=by
 obtain ⟨ad,u,rfl,h1,h2⟩:=load_ok hi hp h
 simp only [Instr.loadAt,Instr.sureAddr,Sem.run_bind,Sem.run_pure,Result.andThen_ok,h1]
 exact .same hi h2
theorem Z6Z (xs ys:List PV) (off:Nat) (h:off+ys.length<=xs.length) (j:Nat) :
  (splice xs off ys)[j]? = if j<off then xs[j]? else if j<off+ys.length then ys[j-off]? else xs[j]?:=by
 unfold splice
 rw [Yu,Y0P]
 simp only [Yr]
 have:min off xs.length=off:=by omega
 rw [this]
 split
 ·rename_i hj;rw [YO];simp [hj]
 ·rename_i hj;rw [Y0P]
  split
  ·rename_i hk;have:j<off+ys.length:=by omega
   simp [this]
  ·rename_i hk;have:¬ j<off+ys.length:=by omega
   simp only [this,if_false,YY]
   congr 1;omega
theorem Z1b (xs ys:List PV) (off:Nat) (h:off+ys.length<=xs.length):(splice xs off ys).length=xs.length:=by
 simp [splice];omega
theorem Z3Y (cs:Array Value) (ys:List Value) (off:Nat) (h:off+ys.length<=cs.size) (j:Nat) :
  ((cs.toList.take off++ys++cs.toList.drop (off+ys.length)).toArray)[j]? = if j<off then cs[j]? else if j<off+ys.length then ys[j-off]? else cs[j]?:=by
 simp only [Y0M]
 rw [Yu,Y0P]
 simp only [Yr,Y04]
 have:min off cs.size=off:=by omega
 rw [this]
 split
 ·rename_i hj;rw [YO];simp [hj]
 ·rename_i hj;rw [Y0P]
  split
  ·rename_i hk;have:j<off+ys.length:=by omega
   simp [this]
  ·rename_i hk;have:¬ j<off+ys.length:=by omega
   simp only [this,if_false,YY,Y08]
   congr 1;omega
theorem Z2j (hi:Inv s) {id:Nat} {el:TypeId} {cells:List PV} (hb:s.G.ent id = .blk el cells true) (hnx:id<s.G.nx)
  (ys:List PV) (us:List Value) (off:Nat) (hl:ys.length=us.length) (hle:off+ys.length<=cells.length)
  (hy:∀ (j:Nat) (y:PV),ys[j]? = some y->∃ u,us[j]? = some u/\PVR s y u/\u.oneCell'=true)
  {cs:Array Value} (hcs:s.w.heap[s.D id]? = some (.cells cs el (0,0))) :
  Put s id el (splice cells off ys) (s.D id) (s.w.setRow (s.D id) (cs.toList.take off++us++cs.toList.drop (off+us.length)).toArray)
   (cs.toList.take off++us++cs.toList.drop (off+us.length)).toArray:=by
 have he:=hi.ent id
 rw [hb] at he
 obtain ⟨cs0,fr,h1,h2,_,h4⟩:=he
 rw [h1] at hcs
 simp only [YA,Obj.cells.injEq] at hcs
 obtain ⟨rfl,_,rfl⟩:=hcs
 have hsz:(cs0.toList.take off++us++cs0.toList.drop (off+us.length)).toArray.size=cs0.size:=by simp;omega
 refine ⟨.inr ⟨cells,hb,by rw [Z1b _ _ _ hle];exact YG _,λ_=>rfl⟩,.inr ⟨rfl,⟨cells,hb⟩,λcs e fr hc=>?_⟩,by simp,λb _ hne=>setRow_other _ _ _ _ hne,
  setRow_heap _ _ _ _ _ _ h1,by rw [Z1b _ _ _ hle,hsz];exact h2,λj x hj=>?_,hnx,rfl,rfl,rfl⟩
 ·rw [h1] at hc;cases hc;exact hsz
 ·rw [Z6Z _ _ _ hle] at hj;rw [Z3Y _ _ _ (by omega)]
  rw [<- hl]
  split
  ·rename_i hlt;rw [if_pos hlt] at hj;exact h4 j x hj
  ·rename_i hlt;rw [if_neg hlt] at hj
   split
   ·rename_i hk;rw [if_pos hk] at hj;exact hy _ x hj
   ·rename_i hk;rw [if_neg hk] at hj;exact h4 j x hj
theorem Z3T (hi:Inv s) {id:Nat} {el:TypeId} {cells:List PV} (hb:s.G.ent id = .blk el cells true):∃ cs,s.w.heap[s.D id]? = some (.cells cs el (0,0))/\cells.length<=cs.size:=by
 have he:=hi.ent id
 rw [hb] at he
 obtain ⟨cs0,fr,h1,h2,h3,h4⟩:=he
 rw [h3 rfl] at h1
 exact ⟨cs0,h1,h2⟩
theorem nx_of (hi:Inv s) {id:Nat} (h:s.G.ent id ≠ .none):id<s.G.nx:=by
 rcases YT id s.G.nx with h'|h'
 ·exact h'
 ·exact absurd (hi.nx id h') h
theorem store_ok (hi:Inv s) {t:TypeId} {p x:PV} {v u:Value} {G':Heap} (hp:PVR s p v) (hx:PVR s x u) (h:Z0N P s.G t x p=some G') :
  ∃ D' w',(Instr.storeAt t v u).run P s.w = .ok () w'/\Inv ⟨w',s.Y,G',D'⟩/\Ev s ⟨w',s.Y,G',D'⟩:=by
 unfold Z0N at h
 split at h
 ·rename_i id ver off
  split at h
  ·rename_i el cells hb
   split at h
   ·rename_i hver;cases hp with
    | ptr hbk hv ho hk=>
     have hvv:=hk (by simp [Heap.ver,hb,hver])
     subst hvv
     split at h
     ·rename_i k ys hs hc
      split at h
      ·rename_i hle;simp at h;subst h;obtain ⟨hl1,hle⟩:=hle;obtain ⟨c1,c2⟩:=Z50 hc hx;obtain ⟨cs,hcs,hcl⟩:=Z3T hi hb;have hput:=Z2j hi hb (nx_of hi (by rw [hb];simp)) ys u.cells.toList off (by simpa using c1) (by omega)
        (λj y hj=>by obtain ⟨q,q1,q2,q3⟩:=c2 j y hj;exact ⟨q,by simpa using q1,q2,q3⟩) hcs
       have hst:=run_storeCells_at P (s.D id) off el u.cells.toList 0 cs s.w hcs (by simp;omega) (λq hq=>by
        obtain ⟨j,hj,rfl⟩:=Y0D hq;have hj':j<ys.length:=by rw [c1];simpa using hj
        obtain ⟨q',q1,_,q3⟩:=c2 j ys[j] (YB hj');have:u.cells[j]? = some (u.cells.toList[j]):=by simp
        rw [this] at q1;cases q1;exact q3)
       simp only [Y0A] at hst;refine ⟨_,_,?_,hput.inv hi,hput.ev hi⟩;have hne:(u.cells.size≠k)=False:=by simp;omega
       simp [Instr.storeAt,Instr.sureAddr,storeVar,Z0S s.w hs,hst,<- c1,hl1]
      ·simp at h
     ·simp at h
   ·simp at h
  ·simp at h
 ·simp at h
theorem tzero_ok {t:TypeId} {z:List PV} (h:tzero P t=some z):∃ v,(∀ w,(zeroValue t).run P w = .ok v w)/\z.length=v.cells.size /\
  ∀ (i:Nat) (y:PV),z[i]? = some y->∃ u,v.cells[i]? = some u/\PVR s y u/\u.oneCell'=true:=by
 simp only [tzero,Y9] at h
 obtain ⟨v,⟨i,hi,hz⟩,hc⟩:=h
 obtain ⟨h1,h2⟩:=Z2D (s:=s) hc
 refine ⟨v,λw=>by simp [zeroValue,info_of w hi,hz],by simpa using h1,λi y hy=>?_⟩
 obtain ⟨u,q1,q2,q3⟩:=h2 i y hy
 exact ⟨u,by simpa using q1,q2,q3⟩
theorem Z4Z (hi:Inv s) {id0:Nat} (hid:s.G.ent id0 = .none) (hnx:id0<s.G.nx) {t:TypeId} {cells:List PV} {v:Value} (hl:cells.length=v.cells.size)
  (hc:∀ (i:Nat) (y:PV),cells[i]? = some y->∃ u,v.cells[i]? = some u/\PVR s y u/\u.oneCell'=true) :
  Gives X s (newD s.G id0 t cells).1 (newD s.G id0 t cells).2 ((do pure (Value.pointer (some (<- newVar t v))):Sem Value).run P s.w):=by
 have hput:=Z18 hi hid hnx t cells v.cells { s.w with heap:=s.w.heap.push (.cells v.cells t) } rfl rfl rfl rfl (by omega) hc
 refine ⟨_,_,_,rfl,hput.inv hi,hput.ev hi,?_⟩
 refine .ptr ⟨t,cells,true,by simp [newD,Heap.put,Z6]⟩ (by simp [newD,Heap.ver,Heap.put,Z6]) rfl λ_=>?_
 simp [Z6]
end Go.Dn

namespace Go.Dn
open Go
variable {X:Ctx} {s:St} {n:Nat} {e:Env} {a:Act} {P:Program}
def Z1G (s:St) (xs:List PV) (cs:Array Value):Prop :=
 xs.length=cs.size/\∀ (i:Nat) (x:PV),xs[i]? = some x->∃ u,cs[i]? = some u/\PVR s x u/\u.oneCell'=true
theorem Z1G.agg {xs:List PV} {cs:Array Value} (h:Z1G s xs cs):PVR s (.agg xs) (.agg cs):=by
 refine .agg h.1 (λi x hi=>?_) (λi u hu=>?_)
 ·obtain ⟨u,hu,hp,_⟩:=h.2 i x hi
  simpa [YC,hu] using hp
 ·have hl:i<xs.length:=by rw [h.1];exact (Array.getElem?_eq_some_iff.1 hu).1
  obtain ⟨u',hu',_,ho⟩:=h.2 i xs[i] (YB hl);rw [hu] at hu';cases hu';exact ho
theorem Z2x {xs:List PV} {v:Value} (h:PVR s (.agg xs) v):∃ cs,v = .agg cs/\Z1G s xs cs:=by
 cases h with
 | @agg _ cs hs h ho=>
  refine ⟨cs,rfl,hs,λi x hi=>?_⟩;have hl:i<cs.size:=by rw [<- hs];exact (List.getElem?_eq_some_iff.1 hi).1
  refine ⟨cs[i],by simp [hl],?_,ho i _ (Ye hl)⟩
  simpa [YC,hl] using h i x hi
theorem Z3c (off:Nat):∀ (l:List (Value×Nat)) (cells:Array Value),(l.foldl (λcs (c,j)=>cs.setIfInBounds (off+j) c) cells).size=cells.size
 | [],_=>rfl
 | (c,j)::l,cells=>by rw [List.foldl_cons,Z3c off l];simp
theorem Z41 (off:Nat):∀ (l:List Value) (b:Nat) (cells:Array Value),off+b+l.length<=cells.size->∀ k,
  ((l.zipIdx b).foldl (λcs (c,j)=>cs.setIfInBounds (off+j) c) cells)[k]? = if off+b<=k/\k<off+b+l.length then l[k-(off+b)]? else cells[k]?
 | [],b,cells,_,k=>by simp;omega
 | c::l,b,cells,h,k=>by
  simp only [List.zipIdx_cons,List.foldl_cons];rw [Z41 off l (b+1) _ (by simp at h ⊢;omega) k]
  simp only [YX] at h ⊢
  by_cases hk:k=off+b
  ·subst hk;have h1:¬ (off+(b+1)<=off+b/\off+b<off+(b+1)+l.length):=by omega
   have h2:off+b<=off+b/\off+b<off+b+(l.length+1):=by omega
   rw [if_neg h1,if_pos h2];have h3:off+b<cells.size:=by omega
   simp [h3]
  ·by_cases h3:off+(b+1)<=k/\k<off+(b+1)+l.length
   ·have h2:off+b<=k/\k<off+b+(l.length+1):=by omega
    rw [if_pos h3,if_pos h2];have:k-(off+b)=(k-(off+(b+1)))+1:=by omega
    rw [this];simp
   ·have h2:¬ (off+b<=k/\k<off+b+(l.length+1)):=by omega
    rw [if_neg h3,if_neg h2];rw [Array.getElem?_setIfInBounds_ne (by omega)]
def Z1l (s:St):List (Nat×PV)->List (Nat×Value)->Prop
 | [],[]=>True
 | (i,x)::xs,(j,v)::vs=>i=j/\PVR s x v/\Z1l s xs vs
 | _,_=>False
theorem fill_ok {place:Nat->Option (Nat×Nat)}:∀ {ps:List (Nat×PV)} {vs:List (Nat×Value)} {cells out:List PV} {cs:Array Value},Z1l s ps vs->Z1G s cells cs ->
  Z38 place cells ps=some out->∃ cs',Instr.fill place cs vs=some cs'/\Z1G s out cs'
 | [],[],cells,out,cs,_,hc,h=>by
  simp [Z38] at h;subst h;exact ⟨cs,rfl,hc⟩
 | (i,x)::ps,(j,v)::vs,cells,out,cs,hp,hc,h=>by
  obtain ⟨rfl,hx,hp⟩:=hp;simp only [Z38] at h
  split at h
  ·rename_i off k ys hpl hcl
   split at h
   ·rename_i hle;obtain ⟨hl1,hle⟩:=hle;obtain ⟨c1,c2⟩:=Z50 hcl hx;have hcs:Z1G s (splice cells off ys) (v.cells.zipIdx.foldl (λcs (c,j)=>cs.setIfInBounds (off+j) c) cs):=by
     have hz:v.cells.zipIdx.foldl (λ(cs:Array Value) (c,j)=>cs.setIfInBounds (off+j) c) cs=(v.cells.toList.zipIdx 0).foldl (λ(cs:Array Value) (c,j)=>cs.setIfInBounds (off+j) c) cs:=by
      rw [<- Y0X];simp
     rw [hz];refine ⟨by rw [Z1b _ _ _ (by omega),Z3c];exact hc.1,λq y hq=>?_⟩
     rw [Z6Z _ _ _ (by omega)] at hq
     rw [Z41 off v.cells.toList 0 cs (by simp;rw [<- hc.1];omega) q]
     simp only [Y0A,Y04,<- c1]
     split at hq
     ·rename_i hlt;rw [if_neg (by omega)]
      exact hc.2 q y hq
     ·rename_i hlt
      split at hq
      ·rename_i hk;rw [if_pos (by omega)]
       obtain ⟨u,q1,q2,q3⟩:=c2 _ y hq;exact ⟨u,by simpa using q1,q2,q3⟩
      ·rename_i hk;rw [if_neg (by omega)]
       exact hc.2 q y hq
    obtain ⟨cs',h1,h2⟩:=fill_ok hp hcs h;refine ⟨cs',?_,h2⟩;simp only [Instr.fill,hpl];rw [if_neg (by simp;rw [<- c1,<- hc.1];omega)]
    exact h1
   ·simp at h
  ·simp at h
 | [],_::_,_,_,_,hp,_,_=>hp.elim
 | _::_,[],_,_,_,hp,_,_=>hp.elim
theorem parts_ok (hG:Zg X s) (he:EnvR s n e a):∀ {xs:List (Nat×Operand)} {ps:List (Nat×PV)},Z1D X e xs=some ps->Z1l s ps (xs.map λ(i,x)=>(i,a.eval x))
 | [],ps,h=>by simp [Z1D] at h;subst h;trivial
 | (i,x)::xs,ps,h=>by
  simp only [Z1D,Y9,YA] at h;obtain ⟨y,hy,ys,hys,rfl⟩:=h;exact ⟨rfl,Z5 hG he hy,parts_ok hG he hys⟩
theorem Z2B {t:TypeId} {z:List PV} (h:tzero P t=some z):∃ i v,P.info? t=some i/\i.zero=some v/\Z1G s z v.cells:=by
 simp only [tzero,Y9] at h
 obtain ⟨v,⟨i,hi,hz⟩,hc⟩:=h
 obtain ⟨h1,h2⟩:=Z2D (s:=s) hc
 refine ⟨i,v,hi,hz,by simpa using h1,λi y hy=>?_⟩
 obtain ⟨u,q1,q2,q3⟩:=h2 i y hy
 exact ⟨u,by simpa using q1,q2,q3⟩
theorem build_ok (hG:Zg X s) (he:EnvR s n e a) {t:TypeId} {parts:Array (Nat×Operand)} {x:PV} (h:Z5J X e t parts.toList=some x) :
  ∃ v,(Instr.build t (parts.map λ(i,x)=>(i,a.eval x))).run X.P s.w = .ok v s.w/\PVR s x v:=by
 unfold Z5J at h
 split at h
 ·rename_i z ps hz hps;have hp:=parts_ok hG he hps;obtain ⟨i,v,hi,hzv,hcz⟩:=Z2B (s:=s) hz
  split at h
  ·rename_i pl hpl;simp only [Y3] at h;obtain ⟨cs,hf,rfl⟩:=h;obtain ⟨cs',h1,h2⟩:=fill_ok hp hcz hf;refine ⟨.agg cs',run_build s.w t _ cs' ?_,h2.agg⟩;unfold tplaces at hpl
   split at hpl
   ·rename_i fs hu;unfold Program.built;simp only [hi,hu,hzv,hpl]
    simpa using h1
   ·simp at hpl
  ·split at h
   ·rename_i r len el harr;simp only [Y9,Y3] at h;obtain ⟨k,hk,cs,hf,rfl⟩:=h;obtain ⟨cs',h1,h2⟩:=fill_ok hp hcz hf;refine ⟨.agg cs',run_build s.w t _ cs' ?_,h2.agg⟩;have hu:=Z2w harr;simp only [tsize,Y3] at hk;obtain ⟨ie,hie,rfl⟩:=hk;unfold Program.built;simp only [hi,hu,hzv,hie]
    simpa using h1
   ·simp at h
 ·simp at h
theorem part_ok {t:TypeId} {xs:List PV} {off:Nat} {x:PV} {cs:Array Value} (hc:Z1G s xs cs) (h:partD P t xs off=some x) :
  ∃ v,(∀ w,(part t cs off).run P w = .ok v w)/\PVR s x v:=by
 unfold partD at h
 split at h
 ·rename_i k ha hk
  split at h
  ·rename_i hle;simp at h;subst h;refine ⟨.agg (cs.extract off (off+k)),λw=>by simp [part,Z4q w ha,Z0S w hk],Z1G.agg ⟨by simp;rw [<- hc.1];omega,λi y hi=>?_⟩⟩
   rw [YO] at hi
   split at hi
   ·rename_i hlt;rw [YY] at hi;obtain ⟨u,h1,h2,h3⟩:=hc.2 _ y hi;refine ⟨u,?_,h2,h3⟩;rw [Array.getElem?_extract,if_pos (by rw [<- hc.1];omega)]
    exact h1
   ·cases hi
  ·simp at h
 ·rename_i ha;obtain ⟨u,h1,h2,_⟩:=hc.2 off x h;exact ⟨u,λw=>by simp [part,Z4q w ha,h1],h2⟩
 ·simp at h
theorem Z6Q {t:TypeId} {f:Nat} {r:Nat×TypeId} (h:tfield P t f=some r):∃ fs fd,P.underlying t=some (.struct fs)/\fs[f]? = some fd/\fd.offset=r.1/\fd.type=r.2:=by
 unfold tfield at h
 split at h
 ·rename_i fs hu;simp only [Y3] at h;obtain ⟨fd,h1,rfl⟩:=h;exact ⟨fs,fd,hu,h1,rfl,rfl⟩
 ·simp at h
theorem field_ok {t:TypeId} {p x:PV} {f:Nat} {v:Value} (hp:PVR s p v) (h:fieldD P t p f=some x):∃ u,(Instr.field t v f).run P s.w = .ok u s.w/\PVR s x u:=by
 unfold fieldD at h
 split at h
 ·rename_i off ft cs hf;obtain ⟨fs,fd,hu,hfd,e1,e2⟩:=Z6Q hf;obtain ⟨arr,rfl,hc⟩:=Z2x hp;obtain ⟨u,h1,h2⟩:=part_ok hc h;refine ⟨u,?_,h2⟩;simp only at e1 e2;subst e1 e2;simp [Instr.field,Zk s.w hu,hfd,asAgg,h1 s.w]
 ·simp at h
theorem ptr_inv {id ver off:Nat} {v:Value} (h:PVR s (.ptr id ver off) v) (hc:s.G.cur id ver=true):v = .pointer (some ⟨s.D id,off,none⟩):=by
 cases h with
 | ptr hb hv ho hk=>exact hk (Z4X hc).2
theorem fieldAddr_ok {t:TypeId} {p x:PV} {f:Nat} {v:Value} (hp:PVR s p v) (h:Z02 P s.G t p f=some x):∃ u,(Instr.fieldAt t v f).run P s.w = .ok u s.w/\PVR s x u:=by
 unfold Z02 at h
 split at h
 ·simp at h
 ·rename_i off ft hf;obtain ⟨fs,fd,hu,hfd,e1,e2⟩:=Z6Q hf;simp only at e1 e2;subst e1 e2
  split at h
  ·simp at h
  ·simp at h
  ·rename_i k hk1 hk;have hk0:k≠0:=hk1;have hplace:∀ b o,(fieldPlace ⟨b,o,none⟩ fd).run P s.w = .ok ⟨b,o+fd.offset,none⟩ s.w:=λb o=>by
    simp [fieldPlace,Z0S s.w hk,hk0,Z1J]
   split at h
   ·rename_i id ver o
    split at h
    ·rename_i hc;simp at h;subst h;have hv:=ptr_inv hp hc;subst hv;refine ⟨_,by simp [Instr.fieldAt,Zk s.w hu,hfd,Instr.sureAddr,hplace];rfl,?_⟩
     cases hp with
     | ptr hb hv ho hk=>exact .ptr hb hv rfl λ_=>rfl
    ·simp at h
   ·rename_i cells;simp at h;subst h;cases hp with
    | @fptr _ b o himm hcell=>
     refine ⟨_,by simp [Instr.fieldAt,Zk s.w hu,hfd,Instr.sureAddr,hplace];rfl,.fptr himm λj y hj=>?_⟩
     rw [YY] at hj;obtain ⟨u,h1,h2⟩:=hcell _ y hj;exact ⟨u,by rw [<- h1];congr 2;omega,h2⟩
   ·simp at h
end Go.Dn

namespace Go.Dn
open Go
variable {X:Ctx} {s:St} {n:Nat} {e:Env} {a:Act} {P:Program}
theorem Z0c {k:IntKind} {m:Int} {v:Value} (h:PVR s (.v (.int k m)) v):v = .int k m:=by cases h with|v h=>cases h;rfl
theorem Z0j {b:Bool} {v:Value} (h:PVR s (.v (.bool b)) v):v = .bool b:=by cases h with|v h=>cases h;rfl
theorem Z3j {b:ByteArray} {v:Value} (h:PVR s (.v (.str b)) v):v = .string b:=by cases h with|v h=>cases h;rfl
theorem Z2Z {v:Value} (h:PVR s .nils v):v = .slice none 0 0:=by cases h;rfl
theorem Z34 {id len sz:Nat} {v:Value} (h:PVR s (.buf id len sz) v) (hc:s.G.cur id (len*sz)=true) :
  ∃ cap cs el fr,v = .slice (some ⟨s.D id,0,none⟩) len cap/\len<=cap/\s.w.heap[s.D id]? = some (.cells cs el fr)/\cs.size=cap*sz/\cap<=maxLen:=by
 cases h with
 | buf hb hv ho hk=>exact hk (Z4X hc).2
theorem view_inv {id tot off len sz:Nat} {v:Value} (h:PVR s (.view id tot off len sz) v) (hc:s.G.cur id (tot*sz)=true):∃ cap,v = .slice (some ⟨s.D id,off*sz,none⟩) len cap:=by
 cases h with
 | view hb hv ho hk=>exact hk (Z4X hc).2
theorem tfields_run {t:TypeId} {l:List (String×Nat×TypeId)} (h:tfields P t=some l):∃ fs,P.underlying t=some (.struct fs)/\P.stoodInHeld t=false/\l=fs.toList.map λf=>(f.name,f.offset,f.type):=by
 unfold tfields at h
 split at h
 ·rename_i fs hu
  by_cases hs:P.stoodInHeld t=true
  ·rw [if_pos hs] at h;cases h
  ·rw [if_neg hs] at h;cases h;exact ⟨fs,hu,by simpa using hs,rfl⟩
 ·cases h
theorem eqF_ok {eq:TypeId->PV->PV->Option Bool} {d:Nat} (ih:∀ {t:TypeId} {x y:PV} {r:Bool} {v u:Value},eq t x y=some r->PVR s x v->PVR s y u->∀ k,d<=k->(Op.equalIn k t v u).run P s.w = .ok r s.w) :
  ∀ {fs:List Field} {xs ys:List PV} {cs ds:Array Value} {r:Bool},eqFields P eq xs ys (fs.map λf=>(f.name,f.offset,f.type))=some r->Z1G s xs cs->Z1G s ys ds ->
  ∀ k,d<=k->(Op.eqFields k cs ds fs).run P s.w = .ok r s.w
 | [],xs,ys,cs,ds,r,h,_,_=>by
  intro k _;simp [eqFields] at h;subst h;simp [Op.eqFields]
 | f::fs,xs,ys,cs,ds,r,h,hx,hy=>by
  intro k hk;simp only [Y0C,eqFields] at h
  split at h
  ·simp at h
  ·rename_i hn
   split at h
   ·rename_i a b ha hb;simp only [Y9,YA] at h;obtain ⟨q,hq,z,hz,rfl⟩:=h;obtain ⟨va,h1,h2⟩:=part_ok hx ha;obtain ⟨vb,h3,h4⟩:=part_ok hy hb;have h5:=ih hq h2 h4 k hk;have h6:=eqF_ok ih hz hx hy k hk;simp only [Op.eqFields,ne_eq,hn,not_false_eq_true,if_true,Sem.run_bind,h1,h3,h5,Result.andThen_ok];cases q
    ·simp
    ·simpa using h6
   ·simp at h
theorem eq_ok:∀ (d:Nat) {t:TypeId} {x y:PV} {r:Bool} {v u:Value},eqD P d t x y=some r->PVR s x v->PVR s y u->∀ k,d<=k->(Op.equalIn k t v u).run P s.w = .ok r s.w
 | 0,_,_,_,_,_,_,h,_,_=>by simp [eqD] at h
 | d+1,t,x,y,r,v,u,h,hv,hu=>by
  intro k hk;obtain ⟨k,rfl⟩ : ∃ m,k=m+1:=⟨k-1,by omega⟩
  unfold eqD at h
  split at h
  ·have:=Z0j hv;have:=Z0j hu;subst_vars
   split at h
   ·rename_i hty;simp at h;subst h;exact run_equalIn_bool' s.w k t _ _ hty
   ·simp at h
  ·have:=Z0c hv;have:=Z0c hu;subst_vars
   split at h
   ·rename_i kk hty
    split at h
    ·rename_i hkk;subst hkk;simp at h;subst h;exact run_equalIn_int s.w k t _ _ _ _ hty
    ·simp at h
   ·simp at h
  ·have:=Z3j hv;have:=Z3j hu;subst_vars
   split at h
   ·rename_i hty;simp at h;subst h;simp [Op.equalIn,Zk s.w hty]
   ·simp at h
  ·simp only [Y9] at h;obtain ⟨l,hl,hf⟩:=h;obtain ⟨fs,hfs,hst,rfl⟩:=tfields_run hl;obtain ⟨xs,rfl,hx⟩:=Z2x hv;obtain ⟨ys,rfl,hy⟩:=Z2x hu;have hfo:P.fieldsOf t=fs:=by simp [Program.fieldsOf,hfs]
   rw [run_equalIn_struct (P:=P) s.w k t xs ys (by rw [hfo];exact hfs) hst,hfo]
   exact eqF_ok (λh1 h2 h3=>eq_ok d h1 h2 h3) hf hx hy k (by omega)
  ·simp at h
theorem intBin_ok {op:BinOp} {k:IntKind} {x y:Int} {r:FV} (h:Z3O op k x y=some r) (t:TypeId) :
  ∃ u,(∀ w,(binOp op t (.int k x) (.int k y)).run P w = .ok u w)/\PVR s (.v r) u:=by
 unfold Z3O at h
 split at h
 case h_4=>
  by_cases hy:y=0
  ·rw [if_pos hy] at h;cases h
  ·rw [if_neg hy] at h;cases h;refine ⟨_,λw=>?_,.v (.int _ _)⟩;simp [binOp,Op.intDiv,hy]
 case h_5=>
  by_cases hy:y=0
  ·rw [if_pos hy] at h;cases h
  ·rw [if_neg hy] at h;cases h;refine ⟨_,λw=>?_,.v (.int _ _)⟩;simp [binOp,Op.intDiv,hy]
 case h_1=>cases h;refine ⟨_,λw=>?_,.v (.int _ _)⟩;simp [binOp,Op.intArith]
 case h_2=>cases h;refine ⟨_,λw=>?_,.v (.int _ _)⟩;simp [binOp,Op.intArith]
 case h_3=>cases h;refine ⟨_,λw=>?_,.v (.int _ _)⟩;simp [binOp,Op.intArith]
 case h_6=>cases h;refine ⟨_,λw=>?_,.v (.int _ _)⟩;simp [binOp,Op.intBits]
 case h_7=>cases h;refine ⟨_,λw=>?_,.v (.int _ _)⟩;simp [binOp,Op.intBits]
 case h_8=>cases h;refine ⟨_,λw=>?_,.v (.int _ _)⟩;simp [binOp,Op.intBits]
 case h_9=>cases h;refine ⟨_,λw=>?_,.v (.int _ _)⟩;simp [binOp,Op.intBits]
 case h_10=>cases h;refine ⟨_,λw=>?_,.v (.bool _)⟩;simp [binOp,Op.intCmp]
 case h_11=>cases h;refine ⟨_,λw=>?_,.v (.bool _)⟩;simp [binOp,Op.intCmp]
 case h_12=>cases h;refine ⟨_,λw=>?_,.v (.bool _)⟩;simp [binOp,Op.intCmp]
 case h_13=>cases h;refine ⟨_,λw=>?_,.v (.bool _)⟩;simp [binOp,Op.intCmp]
 case h_14=>cases h;refine ⟨_,λw=>?_,.v (.bool _)⟩;simp [binOp,Op.intCmp]
 case h_15=>cases h;refine ⟨_,λw=>?_,.v (.bool _)⟩;simp [binOp,Op.intCmp]
 all_goals cases h
theorem eqNil (d:Nat) {t el:TypeId} (hu:P.underlying t=some (.slice el)) (o:Option Addr) (l c:Nat) (w:World) :
  (Op.equalIn (d+1) t (.slice o l c) (.slice none 0 0)).run P w = .ok o.isNone w:=by
 cases o<;>simp [Op.equalIn,Zk w hu]
theorem eqNilP (d:Nat) {t el:TypeId} (hu:P.underlying t=some (.pointer el)) (o:Option Addr) (w:World) :
  (Op.equalIn (d+1) t (.pointer o) (.pointer none)).run P w = .ok o.isNone w:=by
 cases o<;>simp [Op.equalIn,Zk w hu]
theorem Z4c {t el:TypeId} (h:tpointer P t=some el):P.underlying t=some (.pointer el):=by
 unfold tpointer at h
 split at h
 ·rename_i e he;cases h;exact he
 ·cases h
theorem Z0z {t:TypeId} {v u:Value} {r:Bool} {w:World} (h:(Op.equalIn 10000 t v u).run P w = .ok r w)
  (hv:(∃ a b,v = .bool a/\u = .bool b)\/(∃ a b,v = .agg a/\u = .agg b)\/(∃ o l c o' l' c',v = .slice o l c/\u = .slice o' l' c')\/(∃ a b,v = .pointer a/\u = .pointer b)) :
  (binOp .eql t v u).run P w = .ok (.bool r) w/\(binOp .neq t v u).run P w = .ok (.bool (!r)) w:=by
 have h':(Op.equal t v u).run P w = .ok r w:=h
 rcases hv with ⟨a,b,rfl,rfl⟩|⟨a,b,rfl,rfl⟩|⟨o,l,c,o',l',c',rfl,rfl⟩|⟨a,b,rfl,rfl⟩<;>simp only [binOp,Sem.run_bind,h',Result.andThen_ok,Sem.run_pure,and_self]
theorem bin_ok {op:BinOp} {t:TypeId} {x y:PV} {r:FV} {v u:Value} (hx:PVR s x v) (hy:PVR s y u) (h:binD P s.G op t x y=some r) (o1 o2:Operand) :
  ∃ z,(do eqGuard op t o1 o2 v u;binOp op t v u:Sem Value).run P s.w = .ok z s.w/\PVR s (.v r) z:=by
 unfold binD at h
 split at h
 ·rename_i k a k' b;have:=Z0c hx;have:=Z0c hy;subst_vars;have hg:(eqGuard op t o1 o2 (.int k a) (.int k' b)).run P s.w = .ok () s.w:=by cases op<;>simp [eqGuard]
  simp only [Sem.run_bind,hg,Result.andThen_ok]
  split at h
  ·by_cases hb:b<0
   ·rw [if_pos hb] at h;cases h
   ·rw [if_neg hb] at h;cases h;refine ⟨_,?_,.v (.int _ _)⟩;simp [binOp,Op.shift,hb]
  ·by_cases hb:b<0
   ·rw [if_pos hb] at h;cases h
   ·rw [if_neg hb] at h;cases h;refine ⟨_,?_,.v (.int _ _)⟩;simp [binOp,Op.shift,hb]
  ·by_cases hk:k=k'
   ·subst hk;rw [if_pos rfl] at h;obtain ⟨z,h1,h2⟩:=intBin_ok (s:=s) (P:=P) h t;exact ⟨z,h1 s.w,h2⟩
   ·rw [if_neg hk] at h;cases h
 ·rename_i a b;have:=Z3j hx;have:=Z3j hy;subst_vars;have hg:(eqGuard op t o1 o2 (.string a) (.string b)).run P s.w = .ok () s.w:=by cases op<;>simp [eqGuard]
  simp only [Sem.run_bind,hg,Result.andThen_ok]
  split at h
  ·cases h;refine ⟨_,?_,.v (.bool _)⟩;simp [binOp,Op.stringOp]
  ·cases h;refine ⟨_,?_,.v (.bool _)⟩;simp [binOp,Op.stringOp]
  ·cases h
 ·have:=Z2Z hy;subst_vars;have key:∀ b,Z36 s.G x=some b->∃ o l c,v = .slice o l c/\o.isNone=b:=by
   intro b hb;unfold Z36 at hb
   split at hb
   ·cases hb;exact ⟨_,_,_,Z2Z hx,rfl⟩
   ·cases hb;cases hx with
    | v hx=>cases hx with|sl=>exact ⟨_,_,_,rfl,rfl⟩
   ·rename_i id len sz
    by_cases hc:s.G.cur id (len*sz)=true
    ·rw [if_pos hc] at hb;cases hb;obtain ⟨cap,_,_,_,h1,_⟩:=Z34 hx hc;exact ⟨_,_,_,h1,rfl⟩
    ·rw [if_neg hc] at hb;cases hb
   ·cases hb
  split at h
  ·rename_i el hel;simp only [Y3] at h;obtain ⟨b,hb,rfl⟩:=h;obtain ⟨o,l,c,rfl,rfl⟩:=key b hb;have hg:(eqGuard .eql t o1 o2 (.slice o l c) (.slice none 0 0)).run P s.w = .ok () s.w:=by simp [eqGuard]
   refine ⟨_,?_,.v (.bool _)⟩;simp only [Sem.run_bind,hg,Result.andThen_ok];exact (Z0z (eqNil 9999 (Z04 hel) o l c s.w) (.inr (.inr (.inl ⟨_,_,_,_,_,_,rfl,rfl⟩)))).1
  ·rename_i el hel;simp only [Y3] at h;obtain ⟨b,hb,rfl⟩:=h;obtain ⟨o,l,c,rfl,rfl⟩:=key b hb;have hg:(eqGuard .neq t o1 o2 (.slice o l c) (.slice none 0 0)).run P s.w = .ok () s.w:=by simp [eqGuard]
   refine ⟨_,?_,.v (.bool _)⟩;simp only [Sem.run_bind,hg,Result.andThen_ok];exact (Z0z (eqNil 9999 (Z04 hel) o l c s.w) (.inr (.inr (.inl ⟨_,_,_,_,_,_,rfl,rfl⟩)))).2
  ·cases h
 ·have hu:u = .pointer none:=by
   cases hy with
   | v hy=>cases hy;rfl
  subst hu;have key:∀ b,Z25 s.G x=some b->∃ o,v = .pointer o/\o.isNone=b:=by
   intro b hb;unfold Z25 at hb
   split at hb
   ·cases hb;cases hx with
    | v hx=>cases hx;exact ⟨_,rfl,rfl⟩
   ·rename_i id ver off
    by_cases hc:s.G.cur id ver=true
    ·rw [if_pos hc] at hb;cases hb;exact ⟨_,ptr_inv hx hc,rfl⟩
    ·rw [if_neg hc] at hb;cases hb
   ·cases hb
  split at h
  ·rename_i el hel;simp only [Y3] at h;obtain ⟨b,hb,rfl⟩:=h;obtain ⟨o,rfl,rfl⟩:=key b hb;have hg:(eqGuard .eql t o1 o2 (.pointer o) (.pointer none)).run P s.w = .ok () s.w:=by simp [eqGuard]
   refine ⟨_,?_,.v (.bool _)⟩;simp only [Sem.run_bind,hg,Result.andThen_ok];exact (Z0z (eqNilP 9999 (Z4c hel) o s.w) (.inr (.inr (.inr ⟨_,_,rfl,rfl⟩)))).1
  ·rename_i el hel;simp only [Y3] at h;obtain ⟨b,hb,rfl⟩:=h;obtain ⟨o,rfl,rfl⟩:=key b hb;have hg:(eqGuard .neq t o1 o2 (.pointer o) (.pointer none)).run P s.w = .ok () s.w:=by simp [eqGuard]
   refine ⟨_,?_,.v (.bool _)⟩;simp only [Sem.run_bind,hg,Result.andThen_ok];exact (Z0z (eqNilP 9999 (Z4c hel) o s.w) (.inr (.inr (.inr ⟨_,_,rfl,rfl⟩)))).2
  ·cases h
 ·rename_i x' y' hn1 hn2 hn3 hn4
  by_cases hgf:Z3h P t x=true
  ·rw [if_pos hgf] at h;have main:∀ r0,eqD P 6 t x y=some r0->(∃ a b,x = .v (.bool a)/\y = .v (.bool b))\/(∃ a b,x = .agg a/\y = .agg b):=by
    intro r0 h0;unfold eqD at h0
    split at h0
    ·exact .inl ⟨_,_,rfl,rfl⟩
    ·first|exact (hn1 _ _ _ _ rfl rfl).elim|exact (hn2 _ _ _ _ rfl rfl).elim|exact (hn3 _ _ _ _ rfl rfl).elim|exact (x' _ _ _ _ rfl rfl).elim|exact (y' _ _ _ _ rfl rfl).elim
    ·first|exact (hn1 _ _ rfl rfl).elim|exact (hn2 _ _ rfl rfl).elim|exact (hn3 _ _ rfl rfl).elim|exact (hn4 _ _ rfl rfl).elim|exact (x' _ _ rfl rfl).elim|exact (y' _ _ rfl rfl).elim
    ·exact .inr ⟨_,_,rfl,rfl⟩
    ·cases h0
   have fin:∀ r0,eqD P 6 t x y=some r0->(op = .eql\/op = .neq)->(eqGuard op t o1 o2 v u).run P s.w = .ok () s.w/\(binOp .eql t v u).run P s.w = .ok (.bool r0) s.w/\(binOp .neq t v u).run P s.w = .ok (.bool (!r0)) s.w:=by
    intro r0 h0 hop;have heq:=eq_ok 6 h0 hx hy 10000 (by omega)
    rcases main r0 h0 with ⟨a,b,rfl,rfl⟩|⟨a,b,rfl,rfl⟩
    ·have:=Z0j hx;have:=Z0j hy;subst_vars;exact ⟨by rcases hop with rfl|rfl<;>simp [eqGuard],Z0z heq (.inl ⟨_,_,rfl,rfl⟩)⟩
    ·obtain ⟨xs,rfl,hx'⟩:=Z2x hx;obtain ⟨ys,rfl,hy'⟩:=Z2x hy;have hg:P.eqGuardType P.depth t=false:=by simpa [Z3h] using hgf
     exact ⟨run_eqGuard_agg s.w _ t o1 o2 xs ys hg,Z0z heq (.inr (.inl ⟨_,_,rfl,rfl⟩))⟩
   split at h
   ·simp only [Y3] at h;obtain ⟨b,hb,rfl⟩:=h;obtain ⟨f1,f2,f3⟩:=fin b hb (.inl rfl);exact ⟨_,by simp only [Sem.run_bind,f1,Result.andThen_ok];exact f2,.v (.bool _)⟩
   ·simp only [Y3] at h;obtain ⟨b,hb,rfl⟩:=h;obtain ⟨f1,f2,f3⟩:=fin b hb (.inr rfl);exact ⟨_,by simp only [Sem.run_bind,f1,Result.andThen_ok];exact f3,.v (.bool _)⟩
   ·cases h
  ·rw [if_neg hgf] at h;cases h
theorem un_ok {op:UnOp} {x:PV} {r:FV} {v:Value} (hx:PVR s x v) (h:unD op x=some r):∃ z,(Op.unary op v).run P s.w = .ok z s.w/\PVR s (.v r) z:=by
 unfold unD at h
 split at h
 ·have:=Z0c hx;subst_vars;cases h;refine ⟨_,?_,.v (.int _ _)⟩;simp [Op.unary,Op.intArith]
 ·have:=Z0j hx;subst_vars;cases h;refine ⟨_,?_,.v (.bool _)⟩;simp [Op.unary]
 ·cases h
theorem tint_run {t:TypeId} {k:IntKind} (h:tint P t=some k):P.underlying t=some (.int k):=by
 unfold tint at h
 split at h
 ·cases h;assumption
 ·cases h
theorem conv_ok {src dst:TypeId} {x:PV} {r:FV} {v:Value} (hx:PVR s x v) (h:convD P src dst x=some r):∃ z,(convert src dst v).run P s.w = .ok z s.w/\PVR s (.v r) z:=by
 unfold convD at h
 split at h
 ·have:=Z0c hx;subst_vars
  split at h
  ·rename_i d k hs hd;cases h;refine ⟨_,?_,.v (.int _ _)⟩;simp only [convert,Sem.run_bind,Zk s.w hs,Zk s.w (tint_run hd),Result.andThen_ok,Conv.intToInt,Sem.run_pure]
  ·cases h
 ·cases h
theorem len_ok {t ty:TypeId} {ts:Array TypeId} (hts:ts[0]? = some t) {x:PV} {r:FV} {v:Value} (hx:PVR s x v) (h:lenD P s.G t x=some r) :
  ∃ z,(Builtin.len_ ts ty #[v]).run P s.w = .ok z s.w/\PVR s (.v r) z:=by
 unfold lenD at h
 split at h
 ·rename_i el hel;have hu:=Z04 hel;have main:∀ (o:Option Addr) (l c:Nat),(Builtin.len_ ts ty #[.slice o l c]).run P s.w = .ok (.int .i64 l) s.w:=λo l c=>by
   simp [Builtin.len_,hts,Zk s.w hu,goInt]
  split at h
  ·cases h;cases hx with
   | v hx=>cases hx with
    | nil=>exact ⟨_,main _ _ _,.v (.int _ _)⟩
    | empty=>exact ⟨_,main _ _ _,.v (.int _ _)⟩
    | sl=>exact ⟨_,main _ _ _,.v (.int _ _)⟩
  ·cases h;cases hx with
   | full=>exact ⟨_,main _ _ _,.v (.int _ _)⟩
  ·cases h;have:=Z2Z hx;subst_vars;exact ⟨_,main _ _ _,.v (.int _ _)⟩
  ·rename_i id k sz
   by_cases hc:s.G.cur id (k*sz)=true
   ·rw [if_pos hc] at h;cases h;obtain ⟨cap,_,_,_,rfl,_⟩:=Z34 hx hc;exact ⟨_,main _ _ _,.v (.int _ _)⟩
   ·rw [if_neg hc] at h;cases h
  ·cases h
 ·split at h
  ·rename_i b
   by_cases hc:tstr P t=true
   ·rw [if_pos hc] at h;cases h;have:=Z3j hx;subst_vars;refine ⟨_,?_,.v (.int _ _)⟩;simp [Builtin.len_,hts,Zk s.w (tstr_run hc),goInt]
   ·rw [if_neg hc] at h;cases h
  ·cases h
theorem Z40 {t el:TypeId} {k:IntKind} {b off len cap i sz:Nat} (hu:P.underlying t=some (.slice el)) (hs:tsize P el=some sz) (hi:i<len) (w:World) :
  (Instr.indexAt t (.slice (some ⟨b,off,none⟩) len cap) (.int k (i:Int))).run P w = .ok (.pointer (some ⟨b,off+i*sz,none⟩)) w:=by
 have h1:(0:Int)<=(i:Int)/\(i:Int)<(len:Int):=by omega
 have h2:¬ len<=i:=by omega
 simp [Instr.indexAt,asIntOf,Zk w hu,Z0S w hs,h1,h2,Z1J]
theorem Z47 {t el:TypeId} {k:IntKind} {b off len i sz:Nat} (hu:P.underlying t=some (.array len el)) (hs:tsize P el=some sz) (hi:i<len) (w:World) :
  (Instr.indexAt t (.pointer (some ⟨b,off,none⟩)) (.int k (i:Int))).run P w = .ok (.pointer (some ⟨b,off+i*sz,none⟩)) w:=by
 have h1:(0:Int)<=(i:Int)/\(i:Int)<(len:Int):=by omega
 have h2:¬ len<=i:=by omega
 simp [Instr.indexAt,asIntOf,Zk w hu,Z0S w hs,h1,h2,Z1J,Instr.sureAddr]
theorem sl_elem {xs:List (List FV)} {v:Value} (h:FVR s.w s.imm (.sl xs) v) {i:Nat} {e:List FV} (he:xs[i]? = some e) :
  ∃ b off cap sz,v = .slice (some ⟨b,off,none⟩) xs.length cap/\e.length=sz/\(∀ e∈xs,e.length=sz)/\PVR s (.fptr e) (.pointer (some ⟨b,off+i*sz,none⟩)):=by
 cases h with
 | nil=>simp at he
 | empty a cap=>simp at he
 | sl xs b off cap sz vals himm hcap hsz hcell hval=>
  have hlt:=(List.getElem?_eq_some_iff.1 he).1;have hm:e∈xs:=YH he;refine ⟨b,off,cap,sz,rfl,hsz e hm,hsz,.fptr himm λj x hj=>?_⟩;have hj':j<sz:=by rw [<- hsz e hm];exact (List.getElem?_eq_some_iff.1 hj).1
  exact ⟨_,hcell i j hlt hj',hval i j e x he hj⟩
end Go.Dn

namespace Go.Dn
open Go
variable {X:Ctx} {s:St} {n:Nat} {e:Env} {a:Act} {P:Program}
theorem indexAddr_ok (hi:Inv s) {t:TypeId} {x i y:PV} {v u:Value} (hx:PVR s x v) (hy:PVR s i u) (h:Zo P s.G t x i=some y) :
  ∃ z,(Instr.indexAt t v u).run P s.w = .ok z s.w/\PVR s y z:=by
 unfold Zo at h
 split at h
 ·cases h
 ·rename_i j hj;obtain ⟨k,rfl⟩:=Z13 hj hy
  split at h
  ·rename_i xs
   split at h
   ·rename_i sz el hel hxe
    by_cases hl:el.length=sz
    ·rw [if_pos hl] at h;cases h;simp only [Y9] at hel;obtain ⟨et,hu,hs⟩:=hel
     cases hx with
     | v hx=>
      obtain ⟨b,off,cap,sz',rfl,h1,h2,h3⟩:=sl_elem hx hxe;have:sz'=sz:=by omega
      subst this;exact ⟨_,Z40 (Z04 hu) hs (List.getElem?_eq_some_iff.1 hxe).1 s.w,h3⟩
    ·rw [if_neg hl] at h;cases h
   ·cases h
  ·rename_i id len sz
   split at h
   ·rename_i et hu
    by_cases hc:(s.G.cur id (len*sz)&&tsize P et==some sz&&decide (j<len))=true
    ·rw [if_pos hc] at h;cases h;simp only [YD,beq_iff_eq,decide_eq_true_eq] at hc;obtain ⟨⟨hc1,hc2⟩,hc3⟩:=hc;obtain ⟨cap,cs,el,fr,rfl,h2,h3,h4,h5⟩:=Z34 hx hc1;refine ⟨_,Z40 (Z04 hu) hc2 hc3 s.w,?_⟩;obtain ⟨q1,q2⟩:=Z4X hc1;refine .ptr q1 (by omega) rfl λ_=>by simp
    ·rw [if_neg hc] at h;cases h
   ·cases h
  ·rename_i cells
   split at h
   ·rename_i len et ha
    by_cases hc:j<len
    ·rw [if_pos hc] at h;simp only [Y9] at h;obtain ⟨sz,hs,h⟩:=h
     by_cases hl:(j+1)*sz<=cells.length
     ·rw [if_pos hl] at h;cases h;cases hx with
      | @fptr _ b off himm hcell=>
       refine ⟨_,Z47 (Z2w ha) hs hc s.w,.fptr himm λq x hq=>?_⟩;rw [YY] at hq;have:=hcell _ x hq
       rwa [<- Nat.add_assoc] at this
     ·rw [if_neg hl] at h;cases h
    ·rw [if_neg hc] at h;cases h
   ·cases h
  ·rename_i id ver off
   split at h
   ·rename_i len et ha
    by_cases hc:(s.G.cur id ver&&decide (j<len))=true
    ·rw [if_pos hc] at h;simp only [YD,decide_eq_true_eq] at hc;simp only [Y3] at h;obtain ⟨sz,hs,rfl⟩:=h;have hv:=ptr_inv hx hc.1;subst hv;refine ⟨_,Z47 (Z2w ha) hs hc.2 s.w,?_⟩;obtain ⟨q1,q2⟩:=Z4X hc.1;exact .ptr q1 (by omega) rfl λ_=>rfl
    ·rw [if_neg hc] at h;cases h
   ·cases h
  ·cases h
theorem index_ok {t:TypeId} {x i y:PV} {v u:Value} (hx:PVR s x v) (hy:PVR s i u) (h:indexD P t x i=some y) :
  ∃ z,(Instr.index t v u).run P s.w = .ok z s.w/\PVR s y z:=by
 unfold indexD at h
 split at h
 ·cases h
 ·rename_i j hj;obtain ⟨k,rfl⟩:=Z13 hj hy
  split at h
  ·rename_i cs
   split at h
   ·rename_i len et ha
    by_cases hc:j<len
    ·rw [if_pos hc] at h;simp only [Y9] at h;obtain ⟨sz,hs,hp⟩:=h;obtain ⟨arr,rfl,hcs⟩:=Z2x hx;obtain ⟨z,h1,h2⟩:=part_ok hcs hp;refine ⟨z,?_,h2⟩;have h3:(0:Int)<=(j:Int)/\(j:Int)<(len:Int):=by omega
     simp only [Instr.index,asIntOf,Sem.run_bind,Sem.run_pure,Result.andThen_ok,Zk s.w (Z2w ha),h3,and_self,if_true,Z0S s.w hs,Int.toNat_natCast,h1]
    ·rw [if_neg hc] at h;cases h
   ·cases h
  ·rename_i b
   by_cases hc:tstr P t=true
   ·rw [if_pos hc] at h;simp only [Y3] at h;obtain ⟨c,hc1,rfl⟩:=h;have:=Z3j hx;subst_vars;refine ⟨_,?_,.v (.int _ _)⟩;simp [Instr.index,asIntOf,Zk s.w (tstr_run hc),hc1]
   ·rw [if_neg hc] at h;cases h
  ·cases h
theorem Z5G {len cap l h m:Nat} {lo hi mx:Option Value} (hlo:(lo=none/\l=0)\/∃ k,lo=some (.int k (l:Int))) (hh:(hi=none/\h=len/\mx=none)\/∃ k,hi=some (.int k (h:Int)))
  (hm:(mx=none/\m=cap)\/∃ k,mx=some (.int k (m:Int))) (h1:l<=h) (h2:h<=m) (h3:m<=cap) (w:World) :
  (Instr.sliceBounds true len cap lo hi mx).run P w = .ok (l,h,m) w:=by
 have e1:(0:Int)<=(l:Int):=by omega
 have e2:(0:Int)<=(h:Int):=by omega
 have e3:(0:Int)<=(m:Int):=by omega
 rcases hlo with ⟨rfl,rfl⟩|⟨kl,rfl⟩<;>rcases hh with ⟨rfl,rfl,rfl⟩|⟨kh,rfl⟩<;>rcases hm with ⟨hmm,rfl⟩|⟨km,hmm⟩<;>first|(cases hmm;done)|(try subst hmm)
 all_goals simp [Instr.sliceBounds,run_sliceBound,h1,h2,h3,e1,e2,e3]
 all_goals (try (rw [run_sliceBound _ _ _ _ _ (by omega) (by omega)]))
 all_goals (try simp)
 all_goals (try (rw [run_sliceBound _ _ _ _ _ (by omega) (by omega)]))
 all_goals (try simp)
 all_goals (try (rw [run_sliceBound _ _ _ _ _ (by omega) (by omega)]))
 all_goals (try simp)
theorem sl_slice {xs:List (List FV)} {o:Option Addr} {cap l h m sz:Nat} (hx:FVR s.w s.imm (.sl xs) (.slice o xs.length cap)) (h1:l<=h) (h2:h<=xs.length) (h3:h<=m) (h4:m<=cap)
  (h5:∀ y,xs[l]? = some y->y.length=sz):FVR s.w s.imm (.sl ((xs.take h).drop l)) (.slice (if m=l then o else o.map (·.add (l*sz))) (h-l) (m-l)):=by
 have hlen:((xs.take h).drop l).length=h-l:=by simp;omega
 generalize hv:Value.slice o xs.length cap=v at hx
 cases hx with
 | nil=>
  simp only [Value.slice.injEq,Ym] at hv;obtain ⟨rfl,_,rfl⟩:=hv;have:m=l:=by simp at h2;omega
  subst this;simp only [Ym,Nat.le_zero_eq] at h2;subst h2;have:m=0:=by omega
  subst this
  simpa using FVR.nil
 | empty a cap'=>
  simp only [Value.slice.injEq,Ym] at hv;obtain ⟨rfl,_,rfl⟩:=hv;simp only [Ym,Nat.le_zero_eq] at h2;subst h2;have hl:l=0:=by omega
  subst hl;simp only [List.take_nil,List.drop_nil]
  by_cases hml:m=0
  ·rw [if_pos hml];exact FVR.empty _ _
  ·rw [if_neg hml];exact FVR.empty _ _
 | sl xs b off cap' sz' vals himm hcap hsz hcell hval=>
  simp only [Value.slice.injEq] at hv;obtain ⟨rfl,_,rfl⟩:=hv
  by_cases hml:m=l
  ·have hl:h=l:=by omega
   subst hl;have:(xs.take h).drop h=[]:=by simp
   rw [this,if_pos hml];have:=FVR.sl (w:=s.w) (Imm:=s.imm) [] b off (m-h) sz' vals himm (by simp) (by simp) (by simp) (by simp)
   simpa using this
  ·rw [if_neg hml];simp only [YE,Z1J];rw [<- hlen];refine FVR.sl _ b (off+l*sz) (m-l) sz' (λi j=>vals (l+i) j) himm (by omega) (λe he=>hsz e (Y0B (List.mem_of_mem_drop he))) (λi j hi hj=>?_) (λi j e x he hj=>?_)
   ·have hll:l<xs.length:=by simp at hi;omega
    have hszz:sz'=sz:=by
     rw [<- hsz xs[l] (Y0F hll)];exact h5 _ (YB hll)
    subst hszz;have:=hcell (l+i) j (by simp at hi;omega) hj
    rw [<- this]
    congr 2
    rw [Yh];omega
   ·rw [YY,YO] at he
    split at he
    ·exact hval _ j e x he hj
    ·cases he
theorem full_fvr {xs:List (List FV)} {v:Value} (h:PVR s (.full xs) v):PVR s (.v (.sl xs)) v:=by
 cases h with
 | full h=>exact .v h
theorem sl_inv {xs:List (List FV)} {v:Value} (h:PVR s (.v (.sl xs)) v):∃ o cap,v = .slice o xs.length cap/\xs.length<=cap/\FVR s.w s.imm (.sl xs) (.slice o xs.length cap):=by
 cases h with
 | v h=>
  cases h with
  | nil=>exact ⟨none,0,rfl,YG _,.nil⟩
  | empty a cap=>exact ⟨_,cap,rfl,Y0I _,.empty a cap⟩
  | sl xs b off cap sz vals himm hcap hsz hcell hval=>exact ⟨_,cap,rfl,hcap,.sl xs b off cap sz vals himm hcap hsz hcell hval⟩
def OptR (s:St):Option PV->Option Value->Prop
 | none,none=>True
 | some x,some v=>PVR s x v
 | _,_=>False
theorem slice_ok {t:TypeId} {x y:PV} {v:Value} {lo hi mx:Option PV} {lo' hi' mx':Option Value} (hx:PVR s x v) (h1:OptR s lo lo') (h2:OptR s hi hi') (h3:OptR s mx mx')
  (h:sliceD P t x lo hi mx=some y):∃ z,(Instr.sliceAt t v lo' hi' mx').run P s.w = .ok z s.w/\PVR s y z:=by
 unfold sliceD at h
 simp only at h
 split at h
 ·rename_i xs
  split at h
  ·cases h
  ·rename_i sz hsz;simp only [Y9] at hsz;obtain ⟨et,hu,hs⟩:=hsz;have hu':=Z04 hu;have hel:P.elem t=et:=by simp [Program.elem,hu']
   obtain ⟨o,cap,rfl,hcap,hf⟩:=sl_inv hx
   split at h
   ·rename_i l h' hl hh
    by_cases hc:l<=h'/\h'<=xs.length/\elemLen xs l sz=true
    ·rw [if_pos hc] at h;obtain ⟨c1,c2,c3⟩:=hc;have c3':∀ y,xs[l]? = some y->y.length=sz:=λy hy=>by simpa [elemLen,hy] using c3
     have hlo:(lo'=none/\l=0)\/∃ k,lo'=some (.int k (l:Int)):=by
      cases lo with
      | none=>cases lo' with
       | none=>simp at hl;exact .inl ⟨rfl,hl.symm⟩
       | some _=>exact h1.elim
      | some lo=>cases lo' with
       | none=>exact h1.elim
       | some lo'=>
        obtain ⟨k,rfl⟩:=Z13 hl h1;exact .inr ⟨k,rfl⟩
     have hrun:∀ m,(Instr.sliceBounds true xs.length cap lo' hi' mx').run P s.w = .ok (l,h',m) s.w ->
       (Instr.sliceAt t (.slice o xs.length cap) lo' hi' mx').run P s.w = .ok (.slice (if m=l then o else o.map (·.add (l*sz))) (h'-l) (m-l)) s.w:=λm hb=>by
      rw [run_sliceAt_slice s.w t _ lo' hi' mx' (by rw [hel];exact hu'),run_slice_any s.w t o xs.length cap (by rw [hel];exact hu') lo' hi' mx',hb]
      simp only [Result.andThen_ok,hel,Z0S s.w hs,sliced]
     split at h
     ·cases h;have hmx:mx'=none:=by cases mx' with
       | none=>rfl
       | some _=>exact h3.elim
      subst hmx;have hhi:(hi'=none/\h'=xs.length/\(none:Option Value)=none)\/∃ k,hi'=some (.int k (h':Int)):=by
       cases hi with
       | none=>cases hi' with
        | none=>simp at hh;exact .inl ⟨rfl,hh.symm,rfl⟩
        | some _=>exact h2.elim
       | some hi=>cases hi' with
        | none=>exact h2.elim
        | some hi'=>
         obtain ⟨k,rfl⟩:=Z13 hh h2;exact .inr ⟨k,rfl⟩
      exact ⟨_,hrun cap (Z5G hlo hhi (.inl ⟨rfl,rfl⟩) c1 (by omega) (YG _) s.w),.v (sl_slice hf c1 c2 (by omega) (YG _) c3')⟩
     ·rename_i m
      by_cases hm:Z2C m=some h'/\hi.isSome=true
      ·rw [if_pos hm] at h;cases h;cases mx' with
       | none=>exact h3.elim
       | some mx'=>
        obtain ⟨k,rfl⟩:=Z13 hm.1 h3
        cases hi with
        | none=>exact absurd hm.2 (by simp)
        | some hi=>
         cases hi' with
         | none=>exact h2.elim
         | some hi'=>
          obtain ⟨k2,rfl⟩:=Z13 hh h2;refine ⟨_,hrun h' (Z5G hlo (.inr ⟨k2,rfl⟩) (.inr ⟨k,rfl⟩) c1 (YG _) (by omega) s.w),?_⟩
          have hfv:=sl_slice hf c1 c2 (YG _) (by omega) c3'
          have hlen:((xs.take h').drop l).length=h'-l:=by simp;omega
          rw [<- hlen] at hfv ⊢;exact .full hfv
      ·rw [if_neg hm] at h;cases h
    ·rw [if_neg hc] at h;cases h
   ·cases h
 ·cases h
theorem view_ok {t:TypeId} {id len sz:Nat} {y:PV} {v:Value} {lo hi mx:Option PV} {lo' hi' mx':Option Value} (hx:PVR s (.buf id len sz) v) (h1:OptR s lo lo') (h2:OptR s hi hi') (h3:OptR s mx mx')
  (h:viewD P t id len sz lo hi mx=some y):∃ z,(Instr.sliceAt t v lo' hi' mx').run P s.w = .ok z s.w/\PVR s y z:=by
 unfold viewD at h
 split at h
 ·cases h
 ·have hmx:mx'=none:=by cases mx' with
   | none=>rfl
   | some _=>exact h3.elim
  subst hmx
  split at h
  ·rename_i sz' l h' hsz hl hh
   by_cases hc:sz'=sz/\l<h'/\h'<=len
   ·rw [if_pos hc] at h;cases h;obtain ⟨rfl,c1,c2⟩:=hc;simp only [Y9] at hsz;obtain ⟨et,hu,hs⟩:=hsz;have hu':=Z04 hu;have hel:P.elem t=et:=by simp [Program.elem,hu']
    cases hx with
    | buf hb hv ho hk=>
    obtain ⟨a,cap,rfl,hcap⟩:=ho;have hlo:(lo'=none/\l=0)\/∃ k,lo'=some (.int k (l:Int)):=by
     cases lo with
     | none=>cases lo' with
      | none=>simp at hl;exact .inl ⟨rfl,hl.symm⟩
      | some _=>exact h1.elim
     | some lo=>cases lo' with
      | none=>exact h1.elim
      | some lo'=>
       obtain ⟨k,rfl⟩:=Z13 hl h1;exact .inr ⟨k,rfl⟩
    have hhi:(hi'=none/\h'=len/\(none:Option Value)=none)\/∃ k,hi'=some (.int k (h':Int)):=by
     cases hi with
     | none=>cases hi' with
      | none=>simp at hh;exact .inl ⟨rfl,hh.symm,rfl⟩
      | some _=>exact h2.elim
     | some hi=>cases hi' with
      | none=>exact h2.elim
      | some hi'=>
       obtain ⟨k,rfl⟩:=Z13 hh h2;exact .inr ⟨k,rfl⟩
    have hrun:(Instr.sliceAt t (.slice (some a) len cap) lo' hi' none).run P s.w = .ok (.slice (some (a.add (l*sz'))) (h'-l) (cap-l)) s.w:=by
     rw [run_sliceAt_slice s.w t _ lo' hi' none (by rw [hel];exact hu'),run_slice_any s.w t (some a) len cap (by rw [hel];exact hu') lo' hi' none,Z5G hlo hhi (.inl ⟨rfl,rfl⟩) (Nat.le_of_lt c1) (by omega) (YG _) s.w]
     simp only [Result.andThen_ok,hel,Z0S s.w hs,sliced];rw [if_neg (by omega)]
     rfl
    refine ⟨_,hrun,.view hb hv ⟨_,_,rfl,by omega⟩ λe=>?_⟩
    obtain ⟨cap',cs,el,fr,q1,_⟩:=hk e;simp only [Value.slice.injEq,YA] at q1;rw [q1.1];exact ⟨cap-l,by rw [Z1J,Yv]⟩
   ·rw [if_neg hc] at h;cases h
  ·cases h
end Go.Dn

namespace Go.Dn
open Go
variable {X:Ctx} {s:St} {n:Nat} {e:Env} {a:Act} {P:Program}
theorem Z5U {sz:Nat}:∀ {ys:List (List FV)},(∀ e∈ys,e.length=sz)->ys.flatten.length=ys.length*sz
 | [],_=>by simp
 | y::ys,h=>by
  simp only [Yb,Yd,YX];rw [h y (by simp),Z5U (λe he=>h e (by simp [he])),Yh]
  omega
theorem Z5V {sz:Nat}:∀ {ys:List (List FV)},(∀ e∈ys,e.length=sz)->∀ {k:Nat} {x:FV},ys.flatten[k]? = some x ->
  ∃ i j e,k=i*sz+j/\j<sz/\ys[i]? = some e/\e[j]? = some x
 | [],_,k,x,h=>by simp at h
 | y::ys,hl,k,x,h=>by
  simp only [Yb] at h
  by_cases hk:k<y.length
  ·rw [YM hk] at h;exact ⟨0,k,y,by simp,by rw [<- hl y (by simp)];exact hk,by simp,h⟩
  ·rw [YS (by omega)] at h
   obtain ⟨i,j,e,h1,h2,h3,h4⟩:=Z5V (λe he=>hl e (by simp [he])) h
   refine ⟨i+1,j,e,?_,h2,by simpa using h3,h4⟩
   rw [hl y (by simp)] at h1 hk
   rw [Yh];omega
structure Brings (s:St) (sz:Nat) (ys:List PV) (n:Nat) (u:Value) (o:Option Addr) (c:Nat) (news:List Value):Prop where
 val:u = .slice o n c
 len:ys.length=n*sz
 nlen:news.length=n*sz
 rel:∀ (j:Nat) (x:PV),ys[j]? = some x->∃ z,news[j]? = some z/\PVR s x z/\z.oneCell'=true
 cell:n=0\/∃ ad,o=some ad/\∀ (j:Nat) (z:Value),news[j]? = some z->s.w.cell? (ad.add j)=some z
theorem Z5R {sz n:Nat} {ys:List PV} {b off cap:Nat} (hl:ys.length=n*sz)
  (h:∀ (j:Nat) (x:PV),ys[j]? = some x->∃ z,s.w.cell? ⟨b,off+j,none⟩=some z/\PVR s x z/\z.oneCell'=true) :
  ∃ o c news,Brings s sz ys n (.slice (some ⟨b,off,none⟩) n cap) o c news:=by
 let f:Nat->Value:=λj=>(s.w.cell? ⟨b,off+j,none⟩).getD Go.undef
 have hf:∀ j,j<ys.length->s.w.cell? ⟨b,off+j,none⟩=some (f j):=λj hj=>by
  obtain ⟨z,hz,_⟩:=h j ys[j] (YB hj);simp [f,hz]
 refine ⟨_,cap,(List.range ys.length).map f,rfl,hl,by simp [hl],λj x hj=>?_,.inr ⟨_,rfl,λj z hz=>?_⟩⟩
 ·obtain ⟨z,hz,hp,ho⟩:=h j x hj;have hlt:=(List.getElem?_eq_some_iff.1 hj).1;exact ⟨f j,by simp [hlt],by simpa [f,hz] using hp,by simpa [f,hz] using ho⟩
 ·simp only [YP,Y3] at hz;obtain ⟨k,hk,rfl⟩:=hz;obtain ⟨hlt,rfl⟩:=List.getElem?_eq_some_iff.1 hk
  simp only [List.getElem_range,Z1J] at *
  exact hf _ (by simpa using hlt)
theorem Z4W (hi:Inv s) {sz:Nat} {y:PV} {u:Value} {r:List PV×Nat} (hy:PVR s y u) (h:Z1H s.G sz y=some r) :
  ∃ o c news,Brings s sz r.1 r.2 u o c news:=by
 unfold Z1H at h
 have slc:∀ ys:List (List FV),PVR s (.v (.sl ys)) u->(∀ e∈ys,e.length=sz)->∃ o c news,Brings s sz (vs ys.flatten) ys.length u o c news:=by
  intro ys hy hl;cases hy with
  | v hy=>
   cases hy with
   | nil=>exact ⟨none,0,[],rfl,by simp [vs],by simp,by simp [vs],.inl rfl⟩
   | empty a cap=>exact ⟨some a,cap,[],rfl,by simp [vs],by simp,by simp [vs],.inr ⟨a,rfl,by simp⟩⟩
   | sl ys b off cap sz' vals himm hcap hsz hcell hval=>
    refine Z5R (by simp only [vs,Yl,Z5U hl]) (λk x hk=>?_)
    simp only [vs,YP,Y3] at hk;obtain ⟨z,hz,rfl⟩:=hk;obtain ⟨i,j,e,rfl,h2,h3,h4⟩:=Z5V hl hz;have hszz:sz'=sz:=by rw [<- hsz e (YH h3),hl e (YH h3)]
    subst hszz;have hv:=hval i j e z h3 h4;exact ⟨_,by rw [<- hcell i j (List.getElem?_eq_some_iff.1 h3).1 h2];congr 2;omega,.v hv,hv.Z2v⟩
 split at h
 ·rename_i ys
  by_cases hc:(ys.all λy=>y.length==sz)=true
  ·rw [if_pos hc] at h;cases h;exact slc ys hy (by simpa using hc)
  ·rw [if_neg hc] at h;cases h
 ·rename_i ys
  by_cases hc:(ys.all λy=>y.length==sz)=true
  ·rw [if_pos hc] at h;cases h;exact slc ys (full_fvr hy) (by simpa using hc)
  ·rw [if_neg hc] at h;cases h
 ·cases h;have:=Z2Z hy;subst_vars;exact ⟨none,0,[],rfl,by simp,by simp,by simp,.inl rfl⟩
 ·rename_i id len sz'
  split at h
  ·rename_i el cells lv hb
   by_cases hc:sz'=sz/\cells.length=len*sz'
   ·rw [if_pos hc] at h;cases h;obtain ⟨rfl,hc⟩:=hc;obtain ⟨cap,cs,el,fr,rfl,h2,h3,h4,h5⟩:=Z34 hy (by simp [Heap.cur,hb,hc])
    refine Z5R hc λj x hj=>?_;have:=Z2V hi hb j x hj
    simpa using this
   ·rw [if_neg hc] at h;cases h
  ·cases h
 ·rename_i id tot l n sz'
  split at h
  ·rename_i el cells lv hb
   by_cases hc:sz'=sz/\cells.length=tot*sz'/\l+n<=tot
   ·rw [if_pos hc] at h;cases h;obtain ⟨rfl,hc,hle⟩:=hc;obtain ⟨cap,rfl⟩:=view_inv hy (by simp [Heap.cur,hb,hc])
    have hm:(l+n)*sz'<=tot*sz':=YQ _ hle;rw [Yh] at hm;refine Z5R (by simp only [Yr,Y0T,hc];omega) λj x hj=>?_
    rw [YO] at hj
    split at hj
    ·rw [YY] at hj;exact Z2V hi hb _ x hj
    ·cases hj
   ·rw [if_neg hc] at h;cases h
  ·cases h
 ·cases h
theorem tinfo_run {t:TypeId} {k b:Nat} (h1:tsize P t=some k) (h2:tbytes P t=some b):∃ i,P.info? t=some i/\i.size=k/\i.bytes=b:=by
 simp only [tsize,Y3] at h1
 obtain ⟨i,hi,rfl⟩:=h1
 simp only [tbytes,hi,YE,YA] at h2
 exact ⟨i,hi,rfl,h2⟩
theorem Z3M {t ty el:TypeId} {i:TypeInfo} (hu:P.underlying t=some (.slice el)) (hi:P.info? el=some i) (o o':Option Addr) (l c c':Nat) (hle:l<=c) (w:World)
  (ho:o'=none\/∃ ad,o'=some ad):(Builtin.append_ #[t,t] ty #[.slice o l c,.slice o' 0 c']).run P w = .ok (.slice o l c) w:=by
 have hf:(Builtin.firstCells i.size 0 (.slice o' 0 c')).run P w = .ok #[] w:=by
  rcases ho with rfl|⟨ad,rfl⟩
  ·simp [Builtin.firstCells]
  ·simp [Builtin.firstCells,loadCells,loadCellsFrom]
 cases o with
 | none=>simp [Builtin.append_,Zk w hu,sizeOf,typeInfo,hi,Builtin.lenOf,hle,hf]
 | some ad=>simp [Builtin.append_,Zk w hu,sizeOf,typeInfo,hi,Builtin.lenOf,hle,hf,storeCells]
theorem Z4Q {el:TypeId} {sz n m:Nat} {xs ys:List PV} {olds news:List Value} (hi:Inv s) {id0:Nat} (hid:s.G.ent id0 = .none) (hnx:id0<s.G.nx)
  (hx:xs.length=n*sz) (hxo:olds.length=n*sz) (hxr:∀ (j:Nat) (x:PV),xs[j]? = some x->∃ z,olds[j]? = some z/\PVR s x z/\z.oneCell'=true)
  (hy:ys.length=m*sz) (hyn:news.length=m*sz) (hyr:∀ (j:Nat) (x:PV),ys[j]? = some x->∃ z,news[j]? = some z/\PVR s x z/\z.oneCell'=true)
  (z:Array Value) (hz:z.size=sz) (cap:Nat) (hcap:n+m<=cap) (hcm:cap<=maxLen) {w':World}
  (hw:w'.heap=s.w.heap.push (.cells (olds.toArray++news.toArray++Builtin.zeroCells z (cap-(n+m))) el)) (hos:w'.os=s.w.os) (ht:w'.tape=s.w.tape) (ho:w'.output=s.w.output) :
  Gives X s (.buf id0 (n+m) sz) (s.G.put id0 (.blk el (xs++ys) true)) (.ok (.slice (some ⟨s.w.heap.size,0,none⟩) (n+m) cap) w'):=by
 have hl:(xs++ys).length=(n+m)*sz:=by simp [hx,hy,Yh]
 have hput:=Z18 hi hid hnx el (xs++ys) (olds.toArray++news.toArray++Builtin.zeroCells z (cap-(n+m))) w' hw hos ht ho (by simp [hx,hy,hxo,hyn]) (λj x hj=>by
  by_cases hlt:j<xs.length
  ·rw [YM hlt] at hj;obtain ⟨q,h1,h2,h3⟩:=hxr j x hj;refine ⟨q,?_,h2,h3⟩;have hlo:=(List.getElem?_eq_some_iff.1 h1).1;rw [Yk (by simp;omega),Yk (by simp;omega)]
   simpa using h1
  ·rw [YS (by omega)] at hj
   obtain ⟨q,h1,h2,h3⟩:=hyr _ x hj;refine ⟨q,?_,h2,h3⟩;have hlo:=(List.getElem?_eq_some_iff.1 h1).1;rw [Yk (by simp;omega),Array.getElem?_append_right (by simp;omega)]
   simp only [Yn,hxo,<- hx]
   simpa using h1)
 refine ⟨_,_,_,rfl,hput.inv hi,hput.ev hi,?_⟩
 refine .buf ⟨el,xs++ys,true,by simp [Heap.put,Z6]⟩ (by simp only [Heap.ver,Heap.put,Z6];omega) ⟨_,_,rfl,hcap⟩ λ_=>?_
 refine ⟨cap,_,el,(0,0),by simp [Z6],hcap,by simp only [Z6];exact hput.here,?_,hcm⟩
 have e:cap*sz=(n*sz+m*sz)+(cap-(n+m))*sz:=by
  rw [<- Yh,<- Yh];congr 1;omega
 simp only [Y0O,Yn,size_zeroCells,hz,hxo,hyn,e]
theorem Z2G {k b:Nat} (h:k*b<=room) (hb:0<b):k<=maxLen:=by
 have:=Nat.le_mul_of_pos_right k hb
 simp only [room,maxLen] at *
 omega
theorem append_ok (hi:Inv s) {id0:Nat} (hid:s.G.ent id0 = .none) (hnx:id0<s.G.nx) {t ty:TypeId} {x y z:PV} {v u:Value} {G':Heap} (hx:PVR s x v) (hy:PVR s y u)
  (h:Z0D P s.G id0 t x y=some (z,G')):Gives X s z G' ((Builtin.append_ #[t,t] ty #[v,u]).run P s.w):=by
 unfold Z0D at h
 split at h
 ·cases h
 ·rename_i el hel;have hu:=Z04 hel
  split at h
  ·rename_i sz by_ hsz hby;obtain ⟨i,hinfo,hisz,hiby⟩:=tinfo_run hsz hby
   split at h
   ·cases h
   ·rename_i ys m hbr;obtain ⟨o,c,news,B⟩:=Z4W hi hy hbr;have hval:=B.val;simp only at hval;subst hval;have ho':o=none\/∃ ad,o=some ad:=by cases o<;>simp
    by_cases hz0:(sz=0\/by_=0\/(tzero P el).map List.length≠some sz)
    ·rw [if_pos hz0] at h;cases h
    ·rw [if_neg hz0] at h;simp only [not_or] at hz0;obtain ⟨hz1,hz2,hz3⟩:=hz0;simp only [ne_eq,Decidable.not_not,Y3] at hz3;obtain ⟨zl,hzl,hzlen⟩:=hz3;obtain ⟨i',zv,hi1,hi2,hi3⟩:=Z2B (s:=s) hzl;rw [hinfo] at hi1;cases hi1
     split at h
     ·have:=Z2Z hx;subst_vars
      by_cases hm:m=0
      ·rw [if_pos hm] at h;cases h;subst hm;rw [Z3M hu hinfo none o 0 0 c (YG _) s.w ho'];exact .same hi .nils
      ·rw [if_neg hm] at h
       by_cases hr:m*i.bytes<=room
       ·rw [if_pos hr] at h;cases h;rcases B.cell with h0|⟨ad,rfl,hcell⟩
        ·exact absurd h0 hm
        have hml:=Z2G hr (by omega)
        have hrun:=run_append_nil (P:=P) s.w t ty el i zv hu hinfo hi2 ad m c news B.nlen hcell (by omega) (by simp only [maxLen] at hml;omega) (by simp only [room] at hr;omega)
        rw [hrun];have:=Z4Q (X:=X) (el:=el) (sz:=i.size) (n:=0) (m:=m) (xs:=[]) (ys:=ys) (olds:=[]) (news:=news) hi hid hnx (by simp) (by simp) (by simp) B.len B.nlen B.rel
         zv.cells (by have:=hi3.1;omega) (grownCap s.w m 0 el) (by have:=grownCap_ge s.w m 0 el;omega) (grownCap_le_maxLen _ _ _ _ hml) (w':=s.w.drew.alloc (.cells (news.toArray++Builtin.zeroCells zv.cells (grownCap s.w m 0 el-m)) el)) (by simp only [Y0Y,Yv];rfl) rfl rfl rfl
        simpa using this
       ·rw [if_neg hr] at h;cases h
     ·rename_i xs
      by_cases hm:m=0
      ·rw [if_pos hm] at h;cases h
      ·rw [if_neg hm] at h
       by_cases hr:(xs.length+m)*by_<=room/\(xs.all λy=>y.length==sz)=true
       ·rw [if_pos hr] at h;cases h;obtain ⟨hr,hall⟩:=hr;have hall:∀ e∈xs,e.length=sz:=by simpa using hall
        rcases B.cell with h0|⟨ad,rfl,hcell⟩
        ·exact absurd h0 hm
        have hml:=Z2G hr (by omega)
        have hxb:=Z4W (sz:=sz) (r:=(vs xs.flatten,xs.length)) hi (full_fvr hx) (by simp only [Z1H];rw [if_pos (by simpa using hall)])
        obtain ⟨o2,c2,olds,B2⟩:=hxb
        cases hx with
        | @full _ o hfv=>
         have hv2:=B2.val;simp only [Value.slice.injEq] at hv2;obtain ⟨ho2,_,hc2⟩:=hv2
         subst ho2 hc2;subst hisz hiby;cases o with
         | none=>
          have hxs:xs=[]:=by
           generalize hv:Value.slice none xs.length xs.length=v at hfv;cases hfv with
           | nil=>rfl
           | empty=>simp at hv
           | sl=>simp at hv
          subst hxs;have hrun:=run_append_nil (P:=P) s.w t ty el i zv hu hinfo hi2 ad m c news B.nlen hcell (by omega) (by simp only [maxLen] at hml;simp at hml;omega) (by simp only [room] at hr;simp at hr;omega)
          simp only [Ym];rw [hrun];have:=Z4Q (X:=X) (el:=el) (sz:=i.size) (n:=0) (m:=m) (xs:=[]) (ys:=ys) (olds:=[]) (news:=news) hi hid hnx (by simp) (by simp) (by simp) B.len B.nlen B.rel
           zv.cells (by have:=hi3.1;omega) (grownCap s.w m 0 el) (by have:=grownCap_ge s.w m 0 el;omega) (grownCap_le_maxLen _ _ _ _ (by simpa using hml)) (w':=s.w.drew.alloc (.cells (news.toArray++Builtin.zeroCells zv.cells (grownCap s.w m 0 el-m)) el)) (by simp only [Y0Y,Yv];rfl) rfl rfl rfl
          simpa [vs] using this
         | some ax=>
          have hcell2:∀ (j:Nat) (z:Value),olds[j]? = some z->s.w.cell? (ax.add j)=some z:=by
           rcases B2.cell with h0|⟨ad2,had,hc⟩
           ·intro j z hz;have:=B2.nlen;simp only at h0;rw [h0] at this;simp at this;subst this;simp at hz
           ·cases had;exact hc
          have hrun:=run_append_grow (P:=P) s.w t ty el i zv hu hinfo hi2 ax xs.length xs.length olds B2.nlen hcell2 ad m c news B.nlen hcell (by omega) (by simp only [maxLen] at hml;omega)
           (growslice_fits (by omega) (by simp only [room] at hr;omega))
          rw [hrun];exact Z4Q (X:=X) (el:=el) (sz:=i.size) (n:=xs.length) (m:=m) (olds:=olds) (news:=news) hi hid hnx B2.len B2.nlen B2.rel B.len B.nlen B.rel
           zv.cells (by have:=hi3.1;omega) (grownCap s.w (xs.length+m) xs.length el) (grownCap_ge _ _ _ _) (grownCap_le_maxLen _ _ _ _ hml) rfl rfl rfl rfl
       ·rw [if_neg hr] at h;cases h
     ·rename_i id len sz'
      split at h
      ·rename_i el' cells hb
       by_cases hr:sz'=sz/\el'=el/\cells.length=len*sz/\(len+m)*by_<=room
       ·rw [if_pos hr] at h;cases h;obtain ⟨rfl,rfl,hcl,hr⟩:=hr;have hml:=Z2G hr (by omega)
        obtain ⟨cap,cs,el2,fr,hv,h2,h3,h4,h5⟩:=Z34 hx (by simp [Heap.cur,hb,hcl])
        subst hv;obtain ⟨cs',hcs',hcl'⟩:=Z3T hi hb;rw [hcs'] at h3;simp only [YA,Obj.cells.injEq] at h3;obtain ⟨rfl,rfl,rfl⟩:=h3;have hrel:∀ (j:Nat) (x:PV),cells[j]? = some x->∃ z,(cs'.toList.take (len*sz'))[j]? = some z/\PVR s x z/\z.oneCell'=true:=λj x hj=>by
         have he:=hi.ent id;rw [hb] at he;obtain ⟨cs0,fr0,q1,q2,_,q4⟩:=he;rw [hcs'] at q1;simp only [YA,Obj.cells.injEq] at q1;obtain ⟨rfl,_,_⟩:=q1;obtain ⟨z,z1,z2,z3⟩:=q4 j x hj;have hlt:=(List.getElem?_eq_some_iff.1 hj).1;exact ⟨z,by rw [YO,if_pos (by omega)];simpa using z1,z2,z3⟩
        by_cases hroom:len+m<=cap
        ·by_cases hm:m=0
         ·subst hm;rw [Z3M hu hinfo (some _) o len cap c (by omega) s.w ho']
          have hy0:ys=[]:=Y0J (by have:=B.len;simpa using this)
          subst hy0;have hsame:s.G.put id (.blk el' (cells++[]) true)=s.G:=by
           have:upd s.G.ent id (.blk el' (cells++[]) true)=s.G.ent:=by
            funext k
            by_cases hk:k=id
            ·subst hk;simp [Z6,hb]
            ·simp [ZF _ _ hk]
           simp only [Heap.put,this]
          rw [hsame];exact .same hi (by simpa using hx)
         ·rcases B.cell with h0|⟨ad,rfl,hcell⟩
          ·exact absurd h0 hm
          subst hisz hiby;have hone:∀ z∈news,z.oneCell'=true:=λz hz=>by
           obtain ⟨j,hj,rfl⟩:=Y0D hz;have hj':j<ys.length:=by rw [B.len];have:=B.nlen;omega
           obtain ⟨q,q1,_,q3⟩:=B.rel j ys[j] (YB hj');rw [YB hj] at q1;cases q1;exact q3
          have hfit:len*i.size+news.length<=cs'.size:=by rw [B.nlen,h4,<- Yh];exact YQ _ hroom
          rw [run_append_room (P:=P) s.w t ty el' i hu hinfo (s.D id) len cap cs' hcs' ad m c news B.nlen hcell hone hroom hfit];have hsz:(cs'.toList.take (len*i.size)++news++cs'.toList.drop (len*i.size+news.length)).toArray.size=cs'.size:=by simp;omega
          have hyl:ys.length=m*i.size:=B.len;have hnl:news.length=m*i.size:=B.nlen;have hput:Put s id el' (cells++ys) (s.D id) (s.w.setRow (s.D id) (cs'.toList.take (len*i.size)++news++cs'.toList.drop (len*i.size+news.length)).toArray)
            (cs'.toList.take (len*i.size)++news++cs'.toList.drop (len*i.size+news.length)).toArray:=by
           refine ⟨.inr ⟨cells,hb,by simp,λ_=>rfl⟩,.inr ⟨rfl,⟨cells,hb⟩,λcs e fr hc=>?_⟩,by simp,λb _ hne=>setRow_other _ _ _ _ hne,
            setRow_heap _ _ _ _ _ _ hcs',by rw [hsz];simp;omega,λj x hj=>?_,nx_of hi (by rw [hb];simp),rfl,rfl,rfl⟩
           ·rw [hcs'] at hc;cases hc;exact hsz
           ·rw [Z3Y _ _ _ hfit]
            by_cases hlt:j<cells.length
            ·rw [YM hlt] at hj;rw [if_pos (by omega)]
             obtain ⟨z,z1,z2,z3⟩:=hrel j x hj;rw [YO,if_pos (by omega)] at z1
             exact ⟨z,by simpa using z1,z2,z3⟩
            ·rw [YS (by omega)] at hj
             have:=(List.getElem?_eq_some_iff.1 hj).1;rw [if_neg (by omega),if_pos (by omega),<- hcl]
             exact B.rel _ x hj
          refine ⟨_,_,_,rfl,hput.inv hi,hput.ev hi,?_⟩;refine .buf ⟨el',cells++ys,true,by simp [Heap.put,Z6]⟩ (by simp only [Heap.ver,Heap.put,Z6,Yd,hcl,B.len,<- Yh];exact YG _) ⟨_,_,rfl,hroom⟩ λ_=>?_
          exact ⟨cap,_,el',(0,0),by simp [Z6],hroom,by simp only [Z6];exact hput.here,by rw [hsz];exact h4,h5⟩
        ·rcases B.cell with h0|⟨ad,rfl,hcell⟩
         ·simp only at h0;omega
         subst hisz hiby;have holds:∀ (j:Nat) (z:Value),(cs'.toList.take (len*i.size))[j]? = some z->s.w.cell? ((⟨s.D id,0,none⟩ : Addr).add j)=some z:=λj z hz=>by
          rw [Z1J];rw [YO] at hz
          split at hz
          ·simp only [World.cell?,Yv,hcs']
           simpa using hz
          ·cases hz
         have hol:(cs'.toList.take (len*i.size)).length=len*i.size:=by
          have:len*i.size<=cap*i.size:=YQ _ h2
          simp;omega
         have hrun:=run_append_grow (P:=P) s.w t ty el' i zv hu hinfo hi2 ⟨s.D id,0,none⟩ len cap (cs'.toList.take (len*i.size)) hol holds ad m c news B.nlen hcell (by omega) (by simp only [maxLen] at hml;omega)
          (growslice_fits (by omega) (by simp only [room] at hr;omega))
         rw [hrun];have hyl:ys.length=m*i.size:=B.len;have hnl:news.length=m*i.size:=B.nlen;have hcm:=grownCap_le_maxLen s.w (len+m) cap el' hml;have hge:=grownCap_ge s.w (len+m) cap el';have hm0:0<m:=by omega
         have hput:Put s id el' (cells++ys) s.w.heap.size (s.w.drew.alloc (.cells ((cs'.toList.take (len*i.size)).toArray++news.toArray++Builtin.zeroCells zv.cells (grownCap s.w (len+m) cap el'-(len+m))) el'))
           ((cs'.toList.take (len*i.size)).toArray++news.toArray++Builtin.zeroCells zv.cells (grownCap s.w (len+m) cap el'-(len+m))):=by
          refine ⟨.inr ⟨cells,hb,by simp,λheq=>?_⟩,.inl (YG _),by simp,λb hb' _=>heap_alloc_old s.w.drew _ b hb',heap_alloc_new s.w.drew _,?_,λj x hj=>?_,nx_of hi (by rw [hb];simp),rfl,rfl,rfl⟩
          ·simp only [Yd] at heq;have:m*i.size≠0:=by
            intro h0;rcases Nat.mul_eq_zero.1 h0 with h|h<;>omega
           omega
          ·simp only [Y0O,Yn,Yd];omega
          ·by_cases hlt:j<cells.length
           ·rw [YM hlt] at hj;obtain ⟨z,z1,z2,z3⟩:=hrel j x hj;refine ⟨z,?_,z2,z3⟩;rw [Yk (by simp only [Y0O,Yn];omega),Yk (by simp only [Yn];omega)]
            simpa using z1
           ·rw [YS (by omega)] at hj
            obtain ⟨z,z1,z2,z3⟩:=B.rel _ x hj;refine ⟨z,?_,z2,z3⟩;have:=(List.getElem?_eq_some_iff.1 z1).1;rw [Yk (by simp only [Y0O,Yn];omega),Array.getElem?_append_right (by simp only [Yn];omega)]
            rw [Yn,hol,<- hcl]
            simpa using z1
         refine ⟨_,_,_,rfl,hput.inv hi,hput.ev hi,?_⟩;refine .buf ⟨el',cells++ys,true,by simp [Heap.put,Z6]⟩ (by simp only [Heap.ver,Heap.put,Z6,Yd,hcl,B.len,<- Yh];exact YG _) ⟨_,_,rfl,hge⟩ λ_=>?_
         refine ⟨grownCap s.w (len+m) cap el',_,el',(0,0),by simp [Z6],hge,by simp only [Z6];exact hput.here,?_,hcm⟩
         have e:grownCap s.w (len+m) cap el'*i.size=(len*i.size+m*i.size)+(grownCap s.w (len+m) cap el'-(len+m))*i.size:=by
          rw [<- Yh,<- Yh];congr 1;omega
         have hzc:zv.cells.size=i.size:=by have:=hi3.1;omega
         simp only [Y0O,Yn,size_zeroCells,hzc,hol,hnl,e]
       ·rw [if_neg hr] at h;cases h
      ·cases h
     ·cases h
  ·cases h
end Go.Dn

namespace Go.Dn
open Go
variable {X:Ctx} {s:St} {n:Nat} {e:Env} {a:Act} {P:Program}
theorem rep_get {α:Type} {z:List α}:∀ (k j:Nat),0<z.length->j<k*z.length->(List.replicate k z).flatten[j]? = z[j % z.length]?
 | 0,j,_,h=>by simp at h
 | k+1,j,hz,h=>by
  simp only [List.replicate_succ,Yb]
  by_cases hj:j<z.length
  ·rw [YM hj,Nat.mod_eq_of_lt hj]
  ·rw [YS (by omega),rep_get k (j-z.length) hz (by rw [Yh] at h;omega)]
   rw [Nat.mod_eq_sub_mod (by omega:j>=z.length)]
theorem rep_len {α:Type} (z:List α) (k:Nat):(List.replicate k z).flatten.length=k*z.length:=by simp
theorem Z6J {z:List PV} {zc:Array Value} {k sz:Nat} (h:Z1G s z zc) (hz:z.length=sz) (hs:sz≠0):Z1G s (List.replicate k z).flatten (madeCells zc (k*sz)):=by
 refine ⟨by rw [rep_len,size_madeCells,hz],λj x hj=>?_⟩
 have hlt:j<k*z.length:=by have:=(List.getElem?_eq_some_iff.1 hj).1;rwa [rep_len] at this
 rw [rep_get k j (by omega) hlt] at hj
 obtain ⟨u,h1,h2,h3⟩:=h.2 _ x hj
 refine ⟨u,?_,h2,h3⟩
 have hzs:zc.size=z.length:=h.1.symm
 have hlt':j<k*sz:=by rw [<- hz];exact hlt
 simp only [madeCells,Array.getElem?_map,Array.getElem?_range,hlt',if_true,YE,hzs]
 rw [YA]
 rw [getElem!_def,h1]
theorem make_ok (hi:Inv s) {id0:Nat} (hid:s.G.ent id0 = .none) (hnx:id0<s.G.nx) {t:TypeId} {x y z:PV} {v u:Value} {G':Heap} (hx:PVR s x v) (hy:PVR s y u)
  (h:makeD P s.G id0 t x y=some (z,G')):Gives X s z G' ((Instr.makeSlice t v u).run P s.w):=by
 unfold makeD at h
 split at h
 ·rename_i el l c hel;have:=Z0c hx;have:=Z0c hy;subst_vars;have hu:=Z04 hel
  split at h
  ·rename_i sz by_ zl hsz hby hzl;obtain ⟨i,hinfo,hisz,hiby⟩:=tinfo_run hsz hby;obtain ⟨i',zv,hi1,hi2,hi3⟩:=Z2B (s:=s) hzl;rw [hinfo] at hi1;cases hi1
   by_cases hc:l=c/\0<=l/\l.toNat*by_<=room/\zl.length=sz/\sz≠0/\by_≠0
   ·rw [if_pos hc] at h;cases h;obtain ⟨rfl,h0,hr,hz1,hz2,hz3⟩:=hc;subst hisz hiby;have hml:=Z2G hr (by omega)
    have hb':(i.bytes:Int)*l<=281474976710656:=by
     have h1:((l.toNat*i.bytes:Nat):Int)<=140737488355328:=by simp only [room] at hr;omega
     rw [Int.natCast_mul,Int.toNat_of_nonneg h0,Int.mul_comm] at h1;omega
    have hrun:=run_make (P:=P) s.w t el i zv hu hinfo hi2 .i64 .i64 l l h0 (Int.le_refl _) hb' (by simp only [maxLen] at hml;omega)
    rw [hrun];have hmc:=Z6J (k:=l.toNat) hi3 hz1 hz2;have hput:=Z18 hi hid hnx el _ _ (s.w.alloc (.cells (madeCells zv.cells (l.toNat*i.size)) el)) rfl rfl rfl rfl (by have:=hmc.1;omega) hmc.2
    refine ⟨_,_,_,rfl,hput.inv hi,hput.ev hi,?_⟩;have hlen:(List.replicate l.toNat zl).flatten.length=l.toNat*i.size:=by rw [rep_len,hz1]
    refine .buf ⟨el,_,true,Z6 _ _ _⟩ (by simp only [Heap.ver,Heap.put,Z6,hlen];exact YG _) ⟨_,_,rfl,YG _⟩ λ_=>?_
    exact ⟨l.toNat,_,el,(0,0),by simp [Z6],YG _,by simp only [Z6];exact hput.here,size_madeCells _ _,hml⟩
   ·rw [if_neg hc] at h;cases h
  ·cases h
 ·cases h
theorem Z4d {t el:TypeId} {i:TypeInfo} {zv:Value} {len:Nat} {parts:Array (Nat×Value)} {cs':Array Value} {w:World} (hu:P.underlying t=some (.slice el)) (hi1:P.info? el=some i) (hi2:i.zero=some zv)
  (hle:len*i.size<=16777216) (h1:Instr.fill (λj=>some (j*i.size,i.size)) (madeCells zv.cells (len*i.size)) parts.toList=some cs') :
  (Instr.buildSlice t len parts).run P w = .ok (.slice (some ⟨w.heap.size,0,none⟩) len len) { w with heap:=w.heap.push (.cells cs' el) }:=by
 have hle':¬ (16777216<len*i.size):=by omega
 by_cases h0:len*i.size=0
 ·have e:madeCells zv.cells (len*i.size)=(Array.range (len*i.size)).map ((#[] : Array Value)[· % (#[] : Array Value).size]!):=by rw [h0];simp [madeCells]
  rw [e] at h1;simp [Instr.buildSlice,Zk w hu,sizeOf,typeInfo,hi1,newRow,hle',h0] at h1 ⊢;simp [h1]
 ·simp only [madeCells] at h1;simp [Instr.buildSlice,Zk w hu,sizeOf,typeInfo,hi1,newRow,hle',h0,zeroValue,hi2] at h1 ⊢;simp [h1]
theorem Z6P (hi:Inv s) {id0:Nat} (hid:s.G.ent id0 = .none) (hnx:id0<s.G.nx) {t:TypeId} {len:Nat} {ps:List (Nat×PV)} {vals:Array (Nat×Value)} (hp:Z1l s ps vals.toList) {z:PV} {G':Heap}
  (h:Z0V X s.G id0 t len ps=some (z,G')):∃ len' sz el cs,z=(litR X.lit len' sz id0 el cs).1/\G'=s.G.put id0 (litR X.lit len' sz id0 el cs).2/\cs.length=len'*sz/\Gives X s (.buf id0 len' sz) (s.G.put id0 (.blk el cs true)) ((Instr.buildSlice t len vals).run X.P s.w):=by
 unfold Z0V at h
 split at h
 ·rename_i el hel;have hu:=Z04 hel
  split at h
  ·rename_i sz zl hsz hzl;obtain ⟨i,zv,hi1,hi2,hi3⟩:=Z2B (s:=s) hzl
   by_cases hc:zl.length=sz/\sz≠0/\len*sz<=1000000
   ·rw [if_pos hc] at h;obtain ⟨hz1,hz2,hz3⟩:=hc;simp only [Y3,Y5] at h;obtain ⟨cs,hf,rfl,rfl⟩:=h;have hmc:=Z6J (k:=len) hi3 hz1 hz2;obtain ⟨cs',h1,h2⟩:=fill_ok hp hmc hf;have hcs':cs'.size=len*sz:=by
     have:∀ {place:Nat->Option (Nat×Nat)} {ps:List (Nat×PV)} {cells out:List PV},Z38 place cells ps=some out->out.length=cells.length:=by
      intro place ps
      induction ps with
      | nil=>intro cells out h;simp [Z38] at h;rw [h]
      | cons p ps ih=>
       intro cells out h;obtain ⟨j,x⟩:=p;simp only [Z38] at h
       split at h
       ·split at h
        ·rename_i hle;rw [ih h,Z1b _ _ _ (by omega)]
        ·cases h
       ·cases h
     rw [<- h2.1,this hf,rep_len,hz1]
    have hrun:(Instr.buildSlice t len vals).run X.P s.w = .ok (.slice (some ⟨s.w.heap.size,0,none⟩) len len) { s.w with heap:=s.w.heap.push (.cells cs' el) }:=by
     simp only [tsize,Y3] at hsz;obtain ⟨i2,hi4,hi5⟩:=hsz;rw [hi1] at hi4;cases hi4;subst hi5;exact Z4d hu hi1 hi2 (by omega) h1
    rw [hrun];have hput:=Z18 hi hid hnx el _ _ { s.w with heap:=s.w.heap.push (.cells cs' el) } rfl rfl rfl rfl (by have:=h2.1;omega) h2.2
    have hcl:cs.length=len*sz:=by rw [h2.1,hcs']
    refine ⟨len,sz,el,cs,rfl,rfl,hcl,?_⟩;refine ⟨_,_,_,rfl,hput.inv hi,hput.ev hi,?_⟩;refine .buf ⟨el,_,true,Z6 _ _ _⟩ (by simp only [Heap.ver,Heap.put,Z6,hcl];exact YG _) ⟨_,_,rfl,YG _⟩ λ_=>?_
    exact ⟨len,_,el,(0,0),by simp [Z6],YG _,by simp only [Z6];exact hput.here,hcs',by
     have:=Nat.le_mul_of_pos_right len (Nat.pos_of_ne_zero hz2);simp only [maxLen];omega⟩
   ·rw [if_neg hc] at h;cases h
  ·cases h
 ·cases h
theorem copy_ok (hi:Inv s) {t t2 ty:TypeId} {x y z:PV} {v u:Value} {G':Heap} (hx:PVR s x v) (hy:PVR s y u)
  (h:Z3v P s.G t x y=some (z,G')):Gives X s z G' ((Builtin.copy_ #[t,t2] ty #[v,u]).run P s.w):=by
 unfold Z3v at h
 split at h
 ·cases h
 ·rename_i el hel;have hu:=Z04 hel
  split at h
  ·cases h
  ·rename_i sz hsz
   split at h
   ·rename_i ys m id len sz' hbr
    split at h
    ·rename_i el' cells hb
     by_cases hc:sz'=sz/\el'=el/\cells.length=len*sz
     ·rw [if_pos hc] at h;cases h;obtain ⟨rfl,rfl,hcl⟩:=hc;obtain ⟨o,c,news,B⟩:=Z4W hi hy hbr;have hval:=B.val;simp only at hval;subst hval;obtain ⟨cap,cs,el2,fr,rfl,h2,h3,h4,h5⟩:=Z34 hx (by simp [Heap.cur,hb,hcl])
      obtain ⟨cs',hcs',hcl'⟩:=Z3T hi hb;have hyl:ys.length=m*sz':=B.len;have hnl:news.length=m*sz':=B.nlen;have hk1:min m len*sz'<=m*sz':=YQ _ (Nat.min_le_left _ _);have hk2:min m len*sz'<=len*sz':=YQ _ (Nat.min_le_right _ _);have hput:=Z2j hi hb (nx_of hi (by rw [hb];simp)) (ys.take (min m len*sz')) (news.take (min m len*sz')) 0 (by simp;omega) (by simp;omega)
       (λj y hj=>by
        rw [YO] at hj ⊢
        split at hj
        ·rename_i hlt;rw [if_pos hlt];exact B.rel j y hj
        ·cases hj) hcs'
      have hone:∀ z∈news.take (min m len*sz'),z.oneCell'=true:=λz hz=>by
       have hz:=Y0B hz;obtain ⟨j,hj,rfl⟩:=Y0D hz;have hj':j<ys.length:=by omega
       obtain ⟨q,q1,_,q3⟩:=B.rel j ys[j] (YB hj');rw [YB hj] at q1;cases q1;exact q3
      have hf:(Builtin.firstCells sz' (min m len) (.slice o m c)).run P s.w = .ok (news.take (min m len*sz')).toArray s.w:=by
       rcases B.cell with h0|⟨ad,rfl,hcell⟩
       ·simp only at h0;subst h0;have hn0:news=[]:=Y0J (by simpa using hnl)
        subst hn0;cases o<;>simp [Builtin.firstCells,loadCells,loadCellsFrom]
       ·exact run_firstCells_some (P:=P) s.w sz' (min m len) ad m c _ (by simp;omega) (λj z hz=>by
         rw [YO] at hz
         split at hz
         ·exact hcell j z hz
         ·cases hz)
      have hst:=run_storeCells_at P (s.D id) 0 el' (news.take (min m len*sz')) 0 cs' s.w hcs' (by simp;omega) hone
      simp only [Y0A] at hst;have hrun:(Builtin.copy_ #[t,t2] ty #[.slice (some ⟨s.D id,0,none⟩) len cap,.slice o m c]).run P s.w = .ok (.int .i64 (min m len:Nat))
        (s.w.setRow (s.D id) (cs'.toList.take 0++news.take (min m len*sz')++cs'.toList.drop (0+(news.take (min m len*sz')).length)).toArray):=by
       have hmin:Nat.min m len=min m len:=rfl;simp only [Builtin.copy_,Y0M,List.getElem?_cons_zero,List.getElem?_cons_succ,Sem.run_bind,Zk s.w hu,Result.andThen_ok,Builtin.lenOf,Sem.run_pure,Z0S s.w hsz,hmin,hf,hst,goInt,Yv]
      rw [hrun];exact ⟨_,_,_,rfl,hput.inv hi,hput.ev hi,.v (.int _ _)⟩
     ·rw [if_neg hc] at h;cases h
    ·cases h
   ·rename_i ys m id tot l len sz' hbr
    split at h
    ·rename_i el' cells hb
     by_cases hc:sz'=sz/\el'=el/\cells.length=tot*sz/\l+len<=tot
     ·rw [if_pos hc] at h;cases h;obtain ⟨rfl,rfl,hcl,hlt⟩:=hc;have hmm:(l+len)*sz'<=tot*sz':=YQ _ hlt;rw [Yh] at hmm;obtain ⟨o,c,news,B⟩:=Z4W hi hy hbr;have hval:=B.val;simp only at hval;subst hval;obtain ⟨cap,rfl⟩:=view_inv hx (by simp [Heap.cur,hb,hcl])
      obtain ⟨cs',hcs',hcl'⟩:=Z3T hi hb;have hyl:ys.length=m*sz':=B.len;have hnl:news.length=m*sz':=B.nlen;have hk1:min m len*sz'<=m*sz':=YQ _ (Nat.min_le_left _ _);have hk2:min m len*sz'<=len*sz':=YQ _ (Nat.min_le_right _ _);have hput:=Z2j hi hb (nx_of hi (by rw [hb];simp)) (ys.take (min m len*sz')) (news.take (min m len*sz')) (l*sz') (by simp;omega) (by simp;omega)
       (λj y hj=>by
        rw [YO] at hj ⊢
        split at hj
        ·rename_i hlt;rw [if_pos hlt];exact B.rel j y hj
        ·cases hj) hcs'
      have hone:∀ z∈news.take (min m len*sz'),z.oneCell'=true:=λz hz=>by
       have hz:=Y0B hz;obtain ⟨j,hj,rfl⟩:=Y0D hz;have hj':j<ys.length:=by omega
       obtain ⟨q,q1,_,q3⟩:=B.rel j ys[j] (YB hj');rw [YB hj] at q1;cases q1;exact q3
      have hf:(Builtin.firstCells sz' (min m len) (.slice o m c)).run P s.w = .ok (news.take (min m len*sz')).toArray s.w:=by
       rcases B.cell with h0|⟨ad,rfl,hcell⟩
       ·simp only at h0;subst h0;have hn0:news=[]:=Y0J (by simpa using hnl)
        subst hn0;cases o<;>simp [Builtin.firstCells,loadCells,loadCellsFrom]
       ·exact run_firstCells_some (P:=P) s.w sz' (min m len) ad m c _ (by simp;omega) (λj z hz=>by
         rw [YO] at hz
         split at hz
         ·exact hcell j z hz
         ·cases hz)
      have hst:=run_storeCells_at P (s.D id) (l*sz') el' (news.take (min m len*sz')) 0 cs' s.w hcs' (by simp;omega) hone
      simp only [Y0A] at hst;have hrun:(Builtin.copy_ #[t,t2] ty #[.slice (some ⟨s.D id,l*sz',none⟩) len cap,.slice o m c]).run P s.w = .ok (.int .i64 (min m len:Nat))
        (s.w.setRow (s.D id) (cs'.toList.take (l*sz')++news.take (min m len*sz')++cs'.toList.drop (l*sz'+(news.take (min m len*sz')).length)).toArray):=by
       have hmin:Nat.min m len=min m len:=rfl;simp only [Builtin.copy_,Y0M,List.getElem?_cons_zero,List.getElem?_cons_succ,Sem.run_bind,Zk s.w hu,Result.andThen_ok,Builtin.lenOf,Sem.run_pure,Z0S s.w hsz,hmin,hf,hst,goInt]
      rw [hrun];exact ⟨_,_,_,rfl,hput.inv hi,hput.ev hi,.v (.int _ _)⟩
     ·rw [if_neg hc] at h;cases h
    ·cases h
   ·cases h
end Go.Dn

namespace Go.Dn
open Go
variable {X:Ctx} {s:St} {n:Nat} {e:Env} {a:Act} {P:Program}
def St.frz (s:St) (id:Nat) (el:TypeId) (cells:List PV):St:=⟨s.w,s.Y,s.G.put id (.blk el cells false),s.D⟩
theorem Z20 {id id':Nat} {el:TypeId} {cells:List PV} (h:Live (s.frz id el cells).G id'):Live s.G id'/\id'≠id:=by
 by_cases e:id'=id
 ·subst e;rcases h with ⟨el',c',h⟩|⟨fn,e',n,ps,as_,bo,st,pend,h⟩|⟨kv,h⟩
  ·simp [St.frz,Heap.put,Z6] at h
  ·simp [St.frz,Heap.put,Z6] at h
  ·simp [St.frz,Heap.put,Z6] at h
 ·exact ⟨(Z0Q e).1 h,e⟩
theorem frz_ev {id:Nat} {el:TypeId} {cells:List PV} {lv:Bool} (hb:s.G.ent id = .blk el cells lv):Ev s (s.frz id el cells) where
 Y:=rfl
 size:=YG _
 keep:=λ_ _ _=>rfl
 live:=λid' h _=>⟨id',(Z20 h).1,rfl⟩
 blk:=λid' el' c lv' h=>by
  by_cases e:id'=id
  ·subst e;rw [hb] at h;cases h;exact ⟨cells,false,by simp [St.frz,Heap.put,Z6],YG _,λ_=>⟨rfl,λcs e fr h=>⟨cs,fr,h,rfl⟩⟩⟩
  ·exact ⟨c,lv',by simp [St.frz,Heap.put,ZF _ _ e,h],YG _,λ_=>⟨rfl,λcs e fr h=>⟨cs,fr,h,rfl⟩⟩⟩
 loop:=λid' fn e n ps as_ bo st pend h=>by
  by_cases e':id'=id
  ·subst e';rw [hb] at h;cases h
  ·exact ⟨⟨st,pend,by simp [St.frz,Heap.put,ZF _ _ e',h]⟩,rfl⟩
 map:=λid' kv h=>by
  by_cases e':id'=id
  ·subst e';rw [hb] at h;cases h
  ·exact ⟨⟨kv,by simp [St.frz,Heap.put,ZF _ _ e',h]⟩,rfl⟩
 os:=rfl
 tape:=rfl
 output:=rfl
theorem frz_imm (hi:Inv s) {id:Nat} {el:TypeId} {cells:List PV} {lv:Bool} (hb:s.G.ent id = .blk el cells lv):(s.frz id el cells).imm (s.D id):=by
 have hlt:s.D id<s.w.heap.size:=by
  obtain ⟨cs,fr,h⟩:=Put.old_elem hi hb;exact (Array.getElem?_eq_some_iff.1 h).1
 cases lv with
 | true=>
  have hl:Live s.G id:=.inl ⟨el,cells,hb⟩;exact ⟨hlt,hi.notY id hl,λid' h e=>(Z20 h).2 (hi.inj id' id (Z20 h).1 hl e)⟩
 | false=>
  obtain ⟨h1,h2,h3⟩:=hi.fz id el cells hb;exact ⟨h1,h2,λid' h=>h3 id' (Z20 h).1⟩
theorem frz_inv (hi:Inv s) {id:Nat} {el:TypeId} {cells:List PV} {lv:Bool} (hb:s.G.ent id = .blk el cells lv):Inv (s.frz id el cells):=by
 have hev:=frz_ev hb
 refine ⟨λid'=>?_,λid1 id2 h1 h2 he=>hi.inj id1 id2 (Z20 h1).1 (Z20 h2).1 he,λid' h=>hi.notY id' (Z20 h).1,λid' el' c h=>?_,λid' hn=>?_,hi.Ylt⟩
 ·by_cases e:id'=id
  ·subst e;have h1:(s.frz id' el cells).G.ent id' = .blk el cells false:=by simp [St.frz,Heap.put,Z6]
   rw [h1];have he:=hi.ent id';rw [hb] at he;obtain ⟨cs,fr,q1,q2,q3,q4⟩:=he;exact ⟨cs,fr,q1,q2,λh=>(by cases h),λj x hj=>by obtain ⟨u,u1,u2,u3⟩:=q4 j x hj;exact ⟨u,u1,hev.pvr u2,u3⟩⟩
  ·have h1:(s.frz id el cells).G.ent id'=s.G.ent id':=by simp [St.frz,Heap.put,ZF _ _ e]
   rw [h1];have he:=hi.ent id'
   cases hent:s.G.ent id' with
   | none=>trivial
   | blk el' c lv'=>
    rw [hent] at he;obtain ⟨cs,fr,q1,q2,q3,q4⟩:=he;exact ⟨cs,fr,q1,q2,q3,λj x hj=>by obtain ⟨u,u1,u2,u3⟩:=q4 j x hj;exact ⟨u,u1,hev.pvr u2,u3⟩⟩
   | loop fn e' n ps as_ bo st pend=>
    rw [hent] at he;obtain ⟨fn2,tmps,defers,q1,q2,q3⟩:=he;exact ⟨fn2,tmps,defers,q1,q2,λt=>hev.pvr (q3 t)⟩
   | map kv=>rw [hent] at he;exact he
 ·by_cases e:id'=id
  ·subst e;exact frz_imm hi hb
  ·have h1:s.G.ent id' = .blk el' c false:=by simpa [St.frz,Heap.put,ZF _ _ e] using h
   exact (hev.imm _ (hi.fz id' el' c h1)).1
 ·have hne:id'≠id:=by
   intro e;subst e;have:=hi.nx id' hn;rw [hb] at this;cases this
  have:(s.frz id el cells).G.ent id'=s.G.ent id':=by simp [St.frz,Heap.put,ZF _ _ hne]
  rw [this];exact hi.nx id' hn
theorem Z2d (sz:Nat):∀ (n:Nat) (xs:List FV),(chunk sz n xs).length=n
 | 0,_=>rfl
 | n+1,xs=>by simp [chunk,Z2d sz n]
theorem Z5L (sz:Nat):∀ (n:Nat) (xs:List FV),n*sz<=xs.length->∀ i e,(chunk sz n xs)[i]? = some e->e.length=sz/\∀ j x,e[j]? = some x->j<sz/\xs[i*sz+j]? = some x
 | 0,_,_,i,e,h=>by simp [chunk] at h
 | n+1,xs,hl,i,e,h=>by
  rw [Yh] at hl;cases i with
  | zero=>
   simp [chunk] at h;subst h;refine ⟨by simp;omega,λj x hj=>?_⟩
   rw [YO] at hj
   split at hj
   ·rename_i hlt;exact ⟨hlt,by simpa using hj⟩
   ·cases hj
  | succ i=>
   simp [chunk] at h;obtain ⟨h1,h2⟩:=Z5L sz n (xs.drop sz) (by simp;omega) i e h
   refine ⟨h1,λj x hj=>?_⟩;obtain ⟨h3,h4⟩:=h2 j x hj;refine ⟨h3,?_⟩;rw [YY] at h4;rw [<- h4];congr 1;rw [Yh];omega
def Exp (s:St) (G':Heap):Prop:=Inv ⟨s.w,s.Y,G',s.D⟩/\Ev s ⟨s.w,s.Y,G',s.D⟩
theorem Exp.refl (hi:Inv s):Exp s s.G:=⟨hi,Ev.refl s⟩
theorem Exp.trans {G1 G2:Heap} (h1:Exp s G1) (h2:Exp ⟨s.w,s.Y,G1,s.D⟩ G2):Exp s G2:=⟨h2.1,h1.2.trans h2.2⟩
theorem Z3G {f:Heap->PV->Option (FV×Heap)} (hf:∀ (s:St) (x:PV) (y:FV) (G':Heap) (v:Value),f s.G x=some (y,G')->Inv s->PVR s x v->Exp s G'/\FVR s.w (Imm s.w s.Y G' s.D) y v) :
  ∀ (xs:List PV) (s:St) (us:Nat->Value) (ys:List FV) (G':Heap),ZQ f s.G xs=some (ys,G')->Inv s->(∀ (j:Nat) (x:PV),xs[j]? = some x->PVR s x (us j)) ->
   Exp s G'/\ys.length=xs.length/\∀ (j:Nat) (y:FV),ys[j]? = some y->FVR s.w (Imm s.w s.Y G' s.D) y (us j)
 | [],s,us,ys,G',h,hi,hx=>by
  simp [ZQ] at h;obtain ⟨rfl,rfl⟩:=h;exact ⟨Exp.refl hi,rfl,by simp⟩
 | x::xs,s,us,ys,G',h,hi,hx=>by
  simp only [ZQ,Y9,YA,Y5] at h;obtain ⟨⟨y,G1⟩,h1,⟨zs,G2⟩,h2,rfl,rfl⟩:=h;obtain ⟨e1,f1⟩:=hf s x y G1 (us 0) h1 hi (hx 0 x (by simp))
  obtain ⟨e2,l2,f2⟩:=Z3G hf xs ⟨s.w,s.Y,G1,s.D⟩ (λj=>us (j+1)) zs G2 h2 e1.1 (λj x hj=>e1.2.pvr (hx (j+1) x (by simpa using hj)))
  refine ⟨e1.trans e2,by simp [l2],λj y' hj=>?_⟩
  cases j with
  | zero=>
   simp at hj;subst hj;exact e2.2.fvr f1
  | succ j=>exact f2 j y' (by simpa using hj)
theorem Z4G:∀ (d:Nat) (s:St) (x:PV) (y:FV) (G':Heap) (v:Value),ZM d s.G x=some (y,G')->Inv s->PVR s x v->Exp s G'/\FVR s.w (Imm s.w s.Y G' s.D) y v
 | 0,_,_,_,_,_,h,_,_=>by simp [ZM] at h
 | d+1,s,x,y,G',v,h,hi,hx=>by
  unfold ZM at h
  split at h
  ·cases h;cases hx with
   | v hx=>exact ⟨Exp.refl hi,hx⟩
  ·cases h;have:=Z2Z hx;subst this;exact ⟨Exp.refl hi,.nil⟩
  ·cases h;cases hx with
   | full hx=>exact ⟨Exp.refl hi,hx⟩
  ·rename_i id len sz
   split at h
   ·rename_i el cells lv hb
    by_cases hc:cells.length=len*sz
    ·rw [if_pos hc] at h;simp only [Y9,YA,Y5] at h;obtain ⟨⟨ys,G2⟩,h1,rfl,rfl⟩:=h;obtain ⟨cap,cs,el2,fr,rfl,q2,q3,q4,q5⟩:=Z34 hx (by simp [Heap.cur,hb,hc])
     have he:=hi.ent id;rw [hb] at he;obtain ⟨cs0,fr0,r1,r2,_,r4⟩:=he;have hE1:Exp s (s.frz id el cells).G:=⟨frz_inv hi hb,frz_ev hb⟩
     let us:Nat->Value:=λj=>(cs0[j]?).getD Go.undef
     obtain ⟨e2,l2,f2⟩:=Z3G (f:=ZM d) (λs x y G' v=>Z4G d s x y G' v) cells (s.frz id el cells) us ys G2 h1 hE1.1 (λj x hj=>by
      obtain ⟨u,u1,u2,_⟩:=r4 j x hj;have:us j=u:=by simp [us,u1]
      rw [this];exact hE1.2.pvr u2)
     refine ⟨hE1.trans e2,?_⟩;have hlen:len=(chunk sz len ys).length:=(Z2d _ _ _).symm;have hcl:len*sz<=ys.length:=by omega
     have hmain:=FVR.sl (w:=s.w) (Imm:=Imm s.w s.Y G2 s.D) (chunk sz len ys) (s.D id) 0 cap sz (λi j=>us (i*sz+j)) (e2.2.imm _ (frz_imm hi hb)).1 (by rw [Z2d];exact q2)
      (λe he=>by
       obtain ⟨i,hlt,rfl⟩:=Y0D he;exact (Z5L sz len ys hcl i _ (YB hlt)).1)
      (λi j hi' hj=>by
       rw [Z2d] at hi';have hlt:i*sz+j<cells.length:=by
        rw [hc];have:(i+1)*sz<=len*sz:=YQ _ hi';rw [Yh] at this;omega
       obtain ⟨u,u1,_,_⟩:=r4 (i*sz+j) cells[i*sz+j] (YB hlt);simp only [World.cell?,r1,Yv];simp [us,u1])
      (λi j e x he hj=>by
       obtain ⟨_,c2⟩:=Z5L sz len ys hcl i e he;exact f2 _ x (c2 j x hj).2)
     rw [Z2d] at hmain;exact hmain
    ·rw [if_neg hc] at h;cases h
   ·cases h
  ·cases h
theorem exp6 {x:PV} {y:FV} {G':Heap} {v:Value} (h:ZM 6 s.G x=some (y,G')) (hi:Inv s) (hx:PVR s x v):Exp s G'/\FVR s.w (Imm s.w s.Y G' s.D) y v :=
 Z4G 6 s x y G' v h hi hx
theorem Z2S {x y:PV} {G':Heap} {v:Value} (h:Zx s.G x=some (y,G')) (hi:Inv s) (hx:PVR s x v):Exp s G'/\PVR ⟨s.w,s.Y,G',s.D⟩ y v:=by
 have one:∀ {x:PV},PVR s x v->(ZM 6 s.G x).bind (λr=>some (PV.v r.1,r.2))=some (y,G')->Exp s G'/\PVR ⟨s.w,s.Y,G',s.D⟩ y v:=by
  intro x hx h;simp only [Y9,YA,Y5] at h;obtain ⟨⟨z,G1⟩,h1,rfl,rfl⟩:=h;obtain ⟨e1,f1⟩:=exp6 h1 hi hx;exact ⟨e1,.v f1⟩
 unfold Zx at h
 split at h
 ·rename_i cs;simp only [Y9,YA,Y5] at h;obtain ⟨⟨ys,G1⟩,h1,rfl,rfl⟩:=h;obtain ⟨arr,rfl,hc⟩:=Z2x hx
  let us:Nat->Value:=λj=>(arr[j]?).getD Go.undef
  obtain ⟨e1,l1,f1⟩:=Z3G (f:=ZM 6) (λs x y G' v=>Z4G 6 s x y G' v) cs s us ys G1 h1 hi (λj x hj=>by
   obtain ⟨u,u1,u2,_⟩:=hc.2 j x hj;have:us j=u:=by simp [us,u1]
   rw [this];exact u2)
  refine ⟨e1,Z1G.agg ⟨by simp [vs,l1,hc.1],λi x hi'=>?_⟩⟩
  simp only [vs,YP,Y3] at hi';obtain ⟨q,hq,rfl⟩:=hi';have hlt:i<arr.size:=by rw [<- hc.1,<- l1];exact (List.getElem?_eq_some_iff.1 hq).1
  have:=f1 i q hq;simp only [us,Ye hlt,Y0G] at this;exact ⟨arr[i],by simp [hlt],.v this,this.Z2v⟩
 ·cases h;exact ⟨Exp.refl hi,hx⟩
 ·cases h;exact ⟨Exp.refl hi,hx⟩
 ·cases h
 ·exact one hx h
theorem Z6A:∀ (xs:List PV) (s:St) (us:Nat->Value) (ys:List PV) (G':Heap),Z0E s.G xs=some (ys,G')->Inv s->(∀ (j:Nat) (x:PV),xs[j]? = some x->PVR s x (us j)) ->
   Exp s G'/\ys.length=xs.length/\∀ (j:Nat) (y:PV),ys[j]? = some y->PVR ⟨s.w,s.Y,G',s.D⟩ y (us j)
 | [],s,us,ys,G',h,hi,hx=>by
  simp [Z0E] at h;obtain ⟨rfl,rfl⟩:=h;exact ⟨Exp.refl hi,rfl,by simp⟩
 | x::xs,s,us,ys,G',h,hi,hx=>by
  simp only [Z0E,Y9,YA,Y5] at h;obtain ⟨⟨y,G1⟩,h1,⟨zs,G2⟩,h2,rfl,rfl⟩:=h;obtain ⟨e1,f1⟩:=Z2S h1 hi (hx 0 x (by simp))
  obtain ⟨e2,l2,f2⟩:=Z6A xs ⟨s.w,s.Y,G1,s.D⟩ (λj=>us (j+1)) zs G2 h2 e1.1 (λj x hj=>e1.2.pvr (hx (j+1) x (by simpa using hj)))
  refine ⟨e1.trans e2,by simp [l2],λj y' hj=>?_⟩
  cases j with
  | zero=>
   simp at hj;subst hj;exact e2.2.pvr f1
  | succ j=>exact f2 j y' (by simpa using hj)
theorem Z3o {x y:PV} {G':Heap} {v:Value} (h:Zw s.G x=some (y,G')) (hi:Inv s) (hx:PVR s x v):Exp s G'/\PVR ⟨s.w,s.Y,G',s.D⟩ y v:=by
 unfold Zw at h
 split at h
 ·rename_i xs;simp only [Y9,YA,Y5] at h;obtain ⟨⟨ys,G1⟩,h1,rfl,rfl⟩:=h
  cases hx with
  | @tup _ vs hs hh=>
   obtain ⟨e1,l1,f1⟩:=Z6A xs s (λj=>vs.getD j Go.undef) ys G1 h1 hi hh;exact ⟨e1,.tup (by rw [l1];exact hs) f1⟩
 ·exact Z2S h hi hx
theorem expArg_ok {x y:PV} {G':Heap} {v:Value} (h:Z1Z s.G x=some (y,G')) (hi:Inv s) (hx:PVR s x v):Exp s G'/\PVR ⟨s.w,s.Y,G',s.D⟩ y v:=by
 unfold Z1Z at h
 split at h
 ·cases h;exact ⟨Exp.refl hi,hx⟩
 ·cases h;exact ⟨Exp.refl hi,hx⟩
 ·cases h;exact ⟨Exp.refl hi,hx⟩
 ·exact Z2S h hi hx
theorem Z4F:∀ (xs:List PV) (s:St) (us:Nat->Value) (ys:List PV) (G':Heap),Zq s.G xs=some (ys,G')->Inv s->(∀ (j:Nat) (x:PV),xs[j]? = some x->PVR s x (us j)) ->
   Exp s G'/\ys.length=xs.length/\∀ (j:Nat) (y:PV),ys[j]? = some y->PVR ⟨s.w,s.Y,G',s.D⟩ y (us j)
 | [],s,us,ys,G',h,hi,hx=>by
  simp [Zq] at h;obtain ⟨rfl,rfl⟩:=h;exact ⟨Exp.refl hi,rfl,by simp⟩
 | x::xs,s,us,ys,G',h,hi,hx=>by
  simp only [Zq,Y9,YA,Y5] at h;obtain ⟨⟨y,G1⟩,h1,⟨zs,G2⟩,h2,rfl,rfl⟩:=h;obtain ⟨e1,f1⟩:=expArg_ok h1 hi (hx 0 x (by simp))
  obtain ⟨e2,l2,f2⟩:=Z4F xs ⟨s.w,s.Y,G1,s.D⟩ (λj=>us (j+1)) zs G2 h2 e1.1 (λj x hj=>e1.2.pvr (hx (j+1) x (by simpa using hj)))
  refine ⟨e1.trans e2,by simp [l2],λj y' hj=>?_⟩
  cases j with
  | zero=>
   simp at hj;subst hj;exact e2.2.pvr f1
  | succ j=>exact f2 j y' (by simpa using hj)
theorem Z4y {d:Nat} {G:Heap}:∀ {cs:List PV} {fs:List FV},fvsOf cs=some fs->ZQ (ZM (d+1)) G cs=some (fs,G)
 | [],fs,h=>by simp [fvsOf] at h;subst h;rfl
 | x::xs,fs,h=>by
  cases x<;>simp only [fvsOf,reduceCtorEq] at h;rw [Y3] at h;obtain ⟨gs,hg,rfl⟩:=h;have h1:∀ (y:FV),ZM (d+1) G (.v y)=some (y,G):=λy=>rfl;simp only [ZQ,h1,Y4,Z4y hg]
theorem put_put (G:Heap) (id:Nat) (a b:Ent):(G.put id a).put id b=G.put id b:=by
 simp only [Heap.put,Heap.mk.injEq,true_and]
 funext j
 by_cases h:j=id
 ·subst h;rw [Z6,Z6]
 ·rw [ZF _ _ h,ZF _ _ h,ZF _ _ h]
theorem Z5e {d id len sz:Nat} {G:Heap} {el:TypeId} {cells:List PV} {lv:Bool} {r:List FV×Heap} (hb:G.ent id = .blk el cells lv) (hc:cells.length=len*sz)
  (he:ZQ (ZM d) (G.put id (.blk el cells false)) cells=some r):ZM (d+1) G (.buf id len sz)=some (.sl (chunk sz len r.1),r.2):=by
 unfold ZM
 simp only [hb,if_pos hc,he,Y4]
theorem Z1l.ev {s s':St} (hv:Ev s s'):∀ {ps:List (Nat×PV)} {vs:List (Nat×Value)},Z1l s ps vs->Z1l s' ps vs
 | [],[],_=>trivial
 | (i,x)::ps,(j,v)::vs,h=>⟨h.1,hv.pvr h.2.1,Z1l.ev hv h.2.2⟩
 | [],_::_,h=>h.elim
 | _::_,[],h=>h.elim
theorem Z5a {d:Nat} {G G':Heap} {x y:PV} (h:Z1F G x=some (y,G')):∃ f,y = .v f/\ZM (d+2) G x=some (f,G'):=by
 cases x<;>simp only [Z1F] at h<;>(try (cases h;done))
 ·cases h;exact ⟨_,rfl,rfl⟩
 ·cases h;exact ⟨_,rfl,rfl⟩
 ·cases h;exact ⟨_,rfl,rfl⟩
 ·rename_i id len sz
  split at h
  ·rename_i el cells lv hb
   split at h
   ·rename_i hc;rw [Y3] at h;obtain ⟨fs,hfs,h⟩:=h;cases h;exact ⟨_,rfl,Z5e (d:=d+1) hb hc (Z4y (d:=d) hfs)⟩
   ·cases h
  ·cases h
theorem Z4b {d:Nat}:∀ {xs ys:List PV} {G G':Heap},Z0o G xs=some (ys,G')->∃ fs,ys=vs fs/\ZQ (ZM (d+2)) G xs=some (fs,G')
 | [],ys,G,G',h=>by
  simp only [Z0o,YA,Y5] at h;obtain ⟨rfl,rfl⟩:=h;exact ⟨[],rfl,rfl⟩
 | x::xs,ys,G,G',h=>by
  simp only [Z0o,Y9,YA,Y5] at h;obtain ⟨⟨y,G1⟩,h1,⟨zs,G2⟩,h2,rfl,rfl⟩:=h;obtain ⟨f,rfl,e1⟩:=Z5a (d:=d) h1;obtain ⟨fs,rfl,e2⟩:=Z4b (d:=d) h2;exact ⟨f::fs,rfl,by simp only [ZQ,e1,e2,Y4]⟩
theorem Z5y {G G':Heap} {x y:PV} (h:Z0f G x=some (y,G')):Zx G x=some (y,G'):=by
 cases x with
 | agg cs=>
  simp only [Z0f,Y9,YA,Y5] at h;obtain ⟨⟨ys,G1⟩,h1,rfl,rfl⟩:=h;obtain ⟨fs,rfl,e⟩:=Z4b (d:=4) h1;simp only [Zx,Z3n,e,Y4]
 | _=>
  first
   | (simp [Z0f,Z1F] at h;done)
   | (simp only [Z0f] at h;obtain ⟨f,rfl,e⟩:=Z5a (d:=4) h;simp only [Zx,e,Y4])
theorem Z3Z:∀ {ps qs:List (Nat×PV)} {s:St} {G':Heap} {vs:List (Nat×Value)},Zj s.G ps=some (qs,G')->Inv s->Z1l s ps vs->Exp s G'/\Z1l ⟨s.w,s.Y,G',s.D⟩ qs vs
 | [],qs,s,G',vs,h,hi,hp=>by
  simp only [Zj,YA,Y5] at h;obtain ⟨rfl,rfl⟩:=h;exact ⟨Exp.refl hi,hp⟩
 | (i,x)::ps,qs,s,G',[],h,hi,hp=>hp.elim
 | (i,x)::ps,qs,s,G',(j,v)::vs,h,hi,hp=>by
  obtain ⟨h1,h2,h3⟩:=hp;simp only [Zj] at h
  split at h
  ·simp only [Y9,YA,Y5] at h;obtain ⟨⟨y,G1⟩,e1,⟨q,G2⟩,e2,rfl,rfl⟩:=h;obtain ⟨⟨a1,a2⟩,a3⟩:=Z2S (Z5y e1) hi h2;obtain ⟨⟨b1,b2⟩,b3⟩:=Z3Z (s:=⟨s.w,s.Y,G1,s.D⟩) e2 a1 (h3.ev a2);exact ⟨⟨b1,a2.trans b2⟩,h1,b2.pvr a3,b3⟩
  ·simp only [Y9,YA,Y5] at h;obtain ⟨⟨q,G2⟩,e2,rfl,rfl⟩:=h;obtain ⟨⟨b1,b2⟩,b3⟩:=Z3Z e2 hi h3;exact ⟨⟨b1,b2⟩,h1,b2.pvr h2,b3⟩
theorem frzPs_ok {b:Bool} {ps qs:List (Nat×PV)} {s:St} {G':Heap} {vs:List (Nat×Value)} (h:Z43 b s.G ps=some (qs,G')) (hi:Inv s) (hp:Z1l s ps vs):Exp s G'/\Z1l ⟨s.w,s.Y,G',s.D⟩ qs vs:=by
 cases b with
 | false=>exact Z3Z h hi hp
 | true=>
  simp only [Z43,YA,Y5] at h;obtain ⟨rfl,rfl⟩:=h;exact ⟨Exp.refl hi,hp⟩
def Tame (G:Heap) (id0:Option Nat) (G':Heap):Prop:=G.nx<=G'.nx/\∀ k,k<G.nx->some k≠id0->G.ent k = .none->G'.ent k = .none
theorem Tame.refl (G:Heap) (id0:Option Nat):Tame G id0 G:=⟨YG _,λ_ _ _ h=>h⟩
theorem Tame.trans {G G1 G2:Heap} {id0:Option Nat} (h1:Tame G id0 G1) (h2:Tame G1 id0 G2):Tame G id0 G2 :=
 ⟨YW h1.1 h2.1,λk hk hne h=>h2.2 k (YN hk h1.1) hne (h1.2 k hk hne h)⟩
theorem Tame.Z18 (G:Heap) (id:Nat) (en:Ent):Tame G (some id) (G.put id en) :=
 ⟨YG _,λk _ hne h=>by
  have:k≠id:=λe=>hne (by rw [e])
  simp [Heap.put,ZF _ _ this,h]⟩
theorem Tame.Z4n {G:Heap} {id:Nat} {en:Ent} (id0:Option Nat) (h0:G.ent id ≠ .none):Tame G id0 (G.put id en) :=
 ⟨YG _,λk _ _ h=>by
  have:k≠id:=λe=>h0 (e▸h);simp [Heap.put,ZF _ _ this,h]⟩
def Zy (call:ZK):Prop:=∀ c args G r G',call c args G=some (r,G')->Tame G none G'
theorem Tame.weak {G G':Heap} {id0:Option Nat} (h:Tame G none G'):Tame G id0 G':=⟨h.1,λk hk _ hn=>h.2 k hk (by simp) hn⟩
theorem Z2J {f:Heap->PV->Option (FV×Heap)} (hf:∀ G x y G',f G x=some (y,G')->Tame G none G'):∀ (xs:List PV) (G:Heap) (ys:List FV) (G':Heap),ZQ f G xs=some (ys,G')->Tame G none G'
 | [],G,ys,G',h=>by simp [ZQ] at h;rw [<- h.2];exact Tame.refl _ _
 | x::xs,G,ys,G',h=>by
  simp only [ZQ,Y9,YA,Y5] at h;obtain ⟨⟨y,G1⟩,h1,⟨zs,G2⟩,h2,_,rfl⟩:=h;exact (hf _ _ _ _ h1).trans (Z2J hf xs _ _ _ h2)
theorem Z1t:∀ (d:Nat) (G:Heap) (x:PV) (y:FV) (G':Heap),ZM d G x=some (y,G')->Tame G none G'
 | 0,_,_,_,_,h=>by simp [ZM] at h
 | d+1,G,x,y,G',h=>by
  unfold ZM at h
  split at h
  ·cases h;exact Tame.refl _ _
  ·cases h;exact Tame.refl _ _
  ·cases h;exact Tame.refl _ _
  ·rename_i id len sz
   split at h
   ·rename_i el cells lv hb
    by_cases hc:cells.length=len*sz
    ·rw [if_pos hc] at h;simp only [Y9,YA,Y5] at h;obtain ⟨⟨ys,G2⟩,h1,_,rfl⟩:=h;exact (Tame.Z4n none (by rw [hb];simp)).trans (Z2J (Z1t d) _ _ _ _ h1)
    ·rw [if_neg hc] at h;cases h
   ·cases h
  ·cases h
theorem Z2I {G:Heap} {x y:PV} {G':Heap} (h:Zx G x=some (y,G')):Tame G none G':=by
 unfold Zx at h
 split at h
 ·simp only [Y9,YA,Y5] at h;obtain ⟨⟨ys,G1⟩,h1,_,rfl⟩:=h;exact Z2J (Z1t 6) _ _ _ _ h1
 ·cases h;exact Tame.refl _ _
 ·cases h;exact Tame.refl _ _
 ·cases h
 ·simp only [Y9,YA,Y5] at h;obtain ⟨⟨ys,G1⟩,h1,_,rfl⟩:=h;exact Z1t 6 _ _ _ _ h1
theorem Z2L:∀ {ps qs:List (Nat×PV)} {G G':Heap},Zj G ps=some (qs,G')->Tame G none G'
 | [],qs,G,G',h=>by
  simp only [Zj,YA,Y5] at h;obtain ⟨_,rfl⟩:=h;exact Tame.refl _ _
 | p::ps,qs,G,G',h=>by
  simp only [Zj] at h
  split at h
  ·simp only [Y9,YA,Y5] at h;obtain ⟨⟨y,G1⟩,e1,⟨q,G2⟩,e2,_,rfl⟩:=h;exact (Z2I (Z5y e1)).trans (Z2L e2)
  ·simp only [Y9,YA,Y5] at h;obtain ⟨⟨q,G2⟩,e2,_,rfl⟩:=h;exact Z2L e2
theorem Z5x {b:Bool} {ps qs:List (Nat×PV)} {G G':Heap} (h:Z43 b G ps=some (qs,G')):Tame G none G':=by
 cases b with
 | false=>exact Z2L h
 | true=>
  simp only [Z43,YA,Y5] at h;obtain ⟨_,rfl⟩:=h;exact Tame.refl _ _
theorem buildSlice_ok (hG:Zg X s) (he:EnvR s n e a) (hi:Inv s) {id0:Nat} (hid:s.G.ent id0 = .none) (hnx:id0<s.G.nx) {t:TypeId} {len:Nat} {parts:Array (Nat×Operand)} {z:PV} {G':Heap}
  (h:Z08 X e s.G id0 t len parts.toList=some (z,G')):Gives X s z G' ((Instr.buildSlice t len (parts.map λ(i,x)=>(i,a.eval x))).run X.P s.w):=by
 unfold Z08 at h
 simp only [Y9] at h
 obtain ⟨ps,hps,⟨qs,G1⟩,hq,h⟩:=h
 obtain ⟨⟨i0,e0⟩,hp⟩:=frzPs_ok (vs:=(parts.map λ(i,x)=>(i,a.eval x)).toList) hq hi (by rw [Array.toList_map];exact parts_ok hG he hps)
 have tm:=Z5x hq
 obtain ⟨len',sz,el,cs,rfl,rfl,hcl,D',v,w',hr,i1,e1,p1⟩:=Z6P (s:=⟨s.w,s.Y,G1,s.D⟩) i0 (tm.2 _ hnx (by simp) hid) (YN hnx tm.1) hp h
 have e1:=e0.trans e1
 unfold litR
 split
 ·rename_i fs _ hfs;have hx:Zx (G1.put id0 (.blk el cs true)) (.buf id0 len' sz)=some (.v (.sl (chunk sz len' fs)),G1.put id0 (.blk el cs false)):=by
   have h1:ZM 6 (G1.put id0 (.blk el cs true)) (.buf id0 len' sz)=some (.sl (chunk sz len' fs),G1.put id0 (.blk el cs false)):=by
    have:=Z5e (d:=5) (G:=G1.put id0 (.blk el cs true)) (id:=id0) (len:=len') (sz:=sz) (el:=el) (cells:=cs) (lv:=true) (by simp [Heap.put,Z6]) hcl (Z4y (d:=4) hfs)
    rw [put_put] at this;exact this
   show (ZM 6 _ _).bind _=_;rw [h1];rfl
  obtain ⟨⟨i2,e2⟩,p2⟩:=Z2S (s:=⟨w',s.Y,G1.put id0 (.blk el cs true),D'⟩) hx i1 p1;exact ⟨D',v,w',hr,i2,e1.trans e2,p2⟩
 ·exact ⟨D',v,w',hr,i1,e1,p1⟩
end Go.Dn

namespace Go.Dn
open Go
variable {X:Ctx} {s:St} {n:Nat} {e:Env} {a:Act}
def Fw (rd:Option Nat):Fence:={ Fence.wide with round:=rd }
structure ProgOK (P:Program):Prop where
 names : ∀ (f : FuncId) (fn : Func), P.funcs[f]? = some fn → (fn.name == "runtime.NumGoroutine") = false
 mixed:P.follows .mixedOrders=true
def Post (s:St) (x:PV) (G':Heap) (v:Value) (w':World):Prop :=
 ∃ D',Inv ⟨w',s.Y,G',D'⟩/\Ev s ⟨w',s.Y,G',D'⟩/\PVR ⟨w',s.Y,G',D'⟩ x v
def Z17 (X:Ctx) (call:ZK):Prop :=
 ∀ (c:Callee) (args:List PV) (r:PV) (G':Heap) (s:St),call c args s.G=some (r,G')->Inv s->Zg X s->∀ vs,PVRs s args vs ->
  match c with
  | .fn f=>(callFunc f vs).run X.P s.w = .ok (.enter f vs) s.w/\Calls X.P f vs s.w λen w'=>∃ v,en = .returned v/\Post s r G' v w'
  | .yld id=>∃ l fn tmps assign body,(Instr.yield (s.D id) vs).run X.P s.w = .ok (.round l fn tmps assign body) s.w /\
    ∀ m,RoundIn Fence.wide m X.P l fn tmps assign body s.w λen w'=>∃ v,en = .returned v/\Post s r G' v w'
def Z3b (s:St) (a:Act) (dst:Option Tmp) (x:PV) (G':Heap) (a':Act) (w':World):Prop:=∃ v,a'=a.put dst v/\Post s x G' v w'
variable {F:Fence} {m:Nat} {P:Program} {o:Oper} {Q:Exit->Act->World->Prop}
theorem Z0l {x:PV} {G':Heap} {q:Sem Value} (h:Gives X s x G' (q.run P s.w)) :
  o.uponIn F m P a (Z3b s a o.dst x G') Q ((do pure (Next.value (<- q)):Sem Next).run P s.w):=by
 obtain ⟨D',v,w',hr,h1,h2,h3⟩:=h
 simp only [Sem.run_bind,hr,Result.andThen_ok,Sem.run_pure,Oper.uponIn_value]
 exact ⟨v,rfl,D',h1,h2,h3⟩
theorem Z0P (hi:Inv s) {x:PV} {q:Sem Value} (h:∃ v,q.run P s.w = .ok v s.w/\PVR s x v) :
  o.uponIn F m P a (Z3b s a o.dst x s.G) Q ((do pure (Next.value (<- q)):Sem Next).run P s.w):=by
 obtain ⟨v,hr,hv⟩:=h
 exact Z0l (X:=⟨P,λ_=>none,λ_ _=>none,λ_=>false,λ_=>false,false,λ_=>false,λ_=>false,λ_=>false,λ_ _=>false,λ_=>none,λ_=>false⟩) (by rw [hr];exact Gives.same hi hv)
theorem Calls.wide {P:Program} {f:FuncId} {args:Array Value} {w:World} {R:Ending->World->Prop} (rd:Option Nat) (h:Calls P f args w R) (m:Nat):CallsIn (Fw rd) m P f args w R :=
 (callsIn_wide (n:=m)).2 h
theorem Z57 (rd:Option Nat) (m:Nat):((Fw rd).depth.isSome=true->1<=m):=λh=>by simp [Fw,Fence.wide] at h
theorem fold_min {k:IntKind}:∀ {xs:List PV} {vs:List Value} {x r:Int},(∀ (i:Nat) (y:PV),xs[i]? = some y->∃ u,vs[i]? = some u/\PVR s y u)->xs.length=vs.length ->
  Z1B (λx y=>if y<x then y else x) k x xs=some r->(vs.foldlM Builtin.min2 (.int k x)).run P s.w = .ok (.int k r) s.w
 | [],[],x,r,_,_,h=>by simp [Z1B] at h;subst h;simp
 | y::xs,v::vs,x,r,hr,hl,h=>by
  obtain ⟨u,hu,hp⟩:=hr 0 y (by simp)
  simp at hu;subst hu;unfold Z1B at h
  split at h
  ·rename_i heq;cases heq
  ·rename_i a' k' b xs' heq;simp only [List.cons.injEq] at heq;obtain ⟨rfl,rfl⟩:=heq;have:=Z0c hp;subst this
   by_cases hk:k=k'
   ·rw [if_pos hk] at h;subst hk;simp only [List.foldlM_cons,Builtin.min2,pure_bind];exact fold_min (λi y hy=>by simpa using hr (i+1) y (by simpa using hy)) (by simpa using hl) h
   ·rw [if_neg hk] at h;cases h
  ·cases h
 | [],_::_,_,_,_,hl,_=>by simp at hl
 | _::_,[],_,_,_,hl,_=>by simp at hl
theorem fold_max {k:IntKind}:∀ {xs:List PV} {vs:List Value} {x r:Int},(∀ (i:Nat) (y:PV),xs[i]? = some y->∃ u,vs[i]? = some u/\PVR s y u)->xs.length=vs.length ->
  Z1B (λx y=>if y>x then y else x) k x xs=some r->(vs.foldlM Builtin.max2 (.int k x)).run P s.w = .ok (.int k r) s.w
 | [],[],x,r,_,_,h=>by simp [Z1B] at h;subst h;simp
 | y::xs,v::vs,x,r,hr,hl,h=>by
  obtain ⟨u,hu,hp⟩:=hr 0 y (by simp)
  simp at hu;subst hu;unfold Z1B at h
  split at h
  ·rename_i heq;cases heq
  ·rename_i a' k' b xs' heq;simp only [List.cons.injEq] at heq;obtain ⟨rfl,rfl⟩:=heq;have:=Z0c hp;subst this
   by_cases hk:k=k'
   ·rw [if_pos hk] at h;subst hk;simp only [List.foldlM_cons,Builtin.max2,pure_bind];exact fold_max (λi y hy=>by simpa using hr (i+1) y (by simpa using hy)) (by simpa using hl) h
   ·rw [if_neg hk] at h;cases h
  ·cases h
 | [],_::_,_,_,_,hl,_=>by simp at hl
 | _::_,[],_,_,_,hl,_=>by simp at hl
theorem pvrs_one {x:PV} {vs:Array Value} (h:PVRs s [x] vs):∃ v,vs = #[v]/\PVR s x v:=by
 obtain ⟨h1,h2⟩:=h
 have hs:vs.size=1:=h1.symm
 refine ⟨vs[0],?_,?_⟩
 ·apply Array.ext
  ·simp [hs]
  ·intro i q1 q2;have:i=0:=by omega
   subst this;rfl
 ·have:=h2 0 x (by simp)
  simpa [YC,hs] using this
theorem pvrs_two {x y:PV} {vs:Array Value} (h:PVRs s [x,y] vs):∃ v u,vs = #[v,u]/\PVR s x v/\PVR s y u:=by
 obtain ⟨h1,h2⟩:=h
 have hs:vs.size=2:=h1.symm
 refine ⟨vs[0],vs[1],?_,?_,?_⟩
 ·apply Array.ext
  ·simp [hs]
  ·intro i q1 q2;have:i=0\/i=1:=by omega
   rcases this with rfl|rfl<;>rfl
 ·have:=h2 0 x (by simp)
  simpa [YC,hs] using this
 ·have:=h2 1 y (by simp)
  simpa [YC,hs] using this
theorem builtin_ok (hi:Inv s) {id0:Nat} (hid:s.G.ent id0 = .none) (hnx:id0<s.G.nx) {b:Builtin} {ts:Array TypeId} {ty:TypeId} {args:List PV} {vs:Array Value} {x:PV} {G':Heap}
  (hv:PVRs s args vs) (h:Zf P s.G id0 b ts.toList args=some (x,G')):∃ q:Sem Value,(∀ cs,builtin b ts ty cs vs=(do pure (Next.value (<- q))))/\Gives X s x G' (q.run P s.w):=by
 unfold Zf at h
 split at h
 ·rename_i t y hts;obtain ⟨v,rfl,hx⟩:=pvrs_one hv;simp only [Y3,Y5] at h;obtain ⟨r,hr,rfl,rfl⟩:=h;obtain ⟨z,h1,h2⟩:=len_ok (P:=P) (ty:=ty) (ts:=ts) (by rw [<- Y08,hts];rfl) hx hr
  exact ⟨_,λ_=>rfl,by rw [h1];exact .same hi h2⟩
 ·rename_i t t' y z hts;obtain ⟨v,u,rfl,hx,hy⟩:=pvrs_two hv
  by_cases ht:t=t'
  ·rw [if_pos ht] at h;subst ht;have hts':ts = #[t,t]:=by rw [<- Array.toArray_toList (xs:=ts),hts]
   subst hts';exact ⟨_,λ_=>rfl,append_ok hi hid hnx hx hy h⟩
  ·rw [if_neg ht] at h;cases h
 ·rename_i t t' y z hts;obtain ⟨v,u,rfl,hx,hy⟩:=pvrs_two hv;have hts':ts = #[t,t']:=by rw [<- Array.toArray_toList (xs:=ts),hts]
  subst hts';exact ⟨_,λ_=>rfl,copy_ok hi hx hy h⟩
 ·rename_i k x0 xs;simp only [Y3,Y5] at h;obtain ⟨r,hr,rfl,rfl⟩:=h;obtain ⟨h1,h2⟩:=hv;have hlt:0<vs.size:=by rw [<- h1];simp
  have h0:=h2 0 (.v (.int k x0)) (by simp)
  simp only [YC,Ye hlt,Y0G] at h0;have e0:=Z0c h0;obtain ⟨tl,htl⟩ : ∃ tl,vs.toList = .int k x0::tl:=by
   cases hl:vs.toList with
   | nil=>simp [<- Y04,hl] at hlt
   | cons q tl=>
    refine ⟨tl,?_⟩;have:vs[0]=q:=by simp [<- Array.getElem_toList,hl]
    rw [<- this,e0]
  refine ⟨_,λ_=>rfl,?_⟩;have hf:=fold_min (s:=s) (P:=P) (k:=k) (xs:=xs) (vs:=tl) (x:=x0) (r:=r) (λi y hy=>by
   have:=h2 (i+1) y (by simpa using hy)
   have hlt2:i+1<vs.size:=by rw [<- h1];have:=(List.getElem?_eq_some_iff.1 hy).1;simp;omega
   refine ⟨vs[i+1],?_,by simpa [YC,hlt2] using this⟩
   have e:vs.toList[i+1]? = some vs[i+1]:=by simp [hlt2]
   rw [htl] at e;simpa using e) (by
   have:vs.toList.length=tl.length+1:=by rw [htl];simp
   simp at h1 this;omega) hr
  simp only [Builtin.min_,htl,hf];exact .same hi (.v (.int _ _))
 ·rename_i k x0 xs;simp only [Y3,Y5] at h;obtain ⟨r,hr,rfl,rfl⟩:=h;obtain ⟨h1,h2⟩:=hv;have hlt:0<vs.size:=by rw [<- h1];simp
  have h0:=h2 0 (.v (.int k x0)) (by simp)
  simp only [YC,Ye hlt,Y0G] at h0;have e0:=Z0c h0;obtain ⟨tl,htl⟩ : ∃ tl,vs.toList = .int k x0::tl:=by
   cases hl:vs.toList with
   | nil=>simp [<- Y04,hl] at hlt
   | cons q tl=>
    refine ⟨tl,?_⟩;have:vs[0]=q:=by simp [<- Array.getElem_toList,hl]
    rw [<- this,e0]
  refine ⟨_,λ_=>rfl,?_⟩;have hf:=fold_max (s:=s) (P:=P) (k:=k) (xs:=xs) (vs:=tl) (x:=x0) (r:=r) (λi y hy=>by
   have:=h2 (i+1) y (by simpa using hy)
   have hlt2:i+1<vs.size:=by rw [<- h1];have:=(List.getElem?_eq_some_iff.1 hy).1;simp;omega
   refine ⟨vs[i+1],?_,by simpa [YC,hlt2] using this⟩
   have e:vs.toList[i+1]? = some vs[i+1]:=by simp [hlt2]
   rw [htl] at e;simpa using e) (by
   have:vs.toList.length=tl.length+1:=by rw [htl];simp
   simp at h1 this;omega) hr
  simp only [Builtin.max_,htl,hf];exact .same hi (.v (.int _ _))
 ·cases h
end Go.Dn

namespace Go.Dn
open Go
variable {X:Ctx} {s:St} {n:Nat} {e:Env} {a:Act} {o:Oper} {Q:Exit->Act->World->Prop} {m:Nat}
theorem Z2E {xs ys:List PV} {us vs:Array Value} (h1:PVRs s xs us) (h2:PVRs s ys vs):PVRs s (xs++ys) (us++vs):=by
 refine ⟨by simp [h1.1,h2.1],λi x hi=>?_⟩
 by_cases hlt:i<xs.length
 ·rw [YM hlt] at hi;have:=h1.2 i x hi;have hlt':i<us.size:=by rw [<- h1.1];exact hlt
  simpa [YC,Array.getElem?_append,hlt'] using this
 ·rw [YS (by omega)] at hi
  have:=h2.2 _ x hi;have hlt':¬ i<us.size:=by rw [<- h1.1];exact hlt
  simpa [YC,Array.getElem?_append,hlt',h1.1] using this
theorem clo_inv {f:FuncId} {first caps:List PV} {v:Value} (h:PVR s (.clo f first caps) v):∃ fv cv,v = .func (.func f) fv cv/\PVRs s first fv/\PVRs s caps cv:=by
 cases h with
 | clo hf hc h1 h2=>exact ⟨_,_,rfl,⟨hf,h1⟩,⟨hc,h2⟩⟩
theorem fn_inv {f:FuncId} {v:Value} (h:PVR s (.v (.fn f)) v):v = .func (.func f) #[] #[]:=by cases h with|v h=>cases h;rfl
theorem Z6M {f:FuncId} {vs:Array Value} {x:PV} {G':Heap} {rd:Option Nat} (h1:(callFunc f vs).run X.P s.w = .ok (.enter f vs) s.w)
  (h2:Calls X.P f vs s.w λen w'=>∃ v,en = .returned v/\Post s x G' v w') :
  o.uponIn (Fw rd) m X.P a (Z3b s a o.dst x G') Q ((callFunc f vs).run X.P s.w):=by
 rw [h1,Oper.uponIn_enter]
 refine ⟨Z57 rd m,(Calls.wide rd h2 (m-1)).mono λen w' hh=>?_⟩
 obtain ⟨v,rfl,hp⟩:=hh
 exact ⟨v,rfl,hp⟩
theorem Z1s (hG:Zg X s) (he:EnvR s n e a) {x:Option Operand} {y:Option PV} (h:optD X e x=some y):OptR s y (x.map a.eval):=by
 cases x with
 | none=>simp [optD] at h;subst h;trivial
 | some x=>
  simp only [optD,Y3] at h;obtain ⟨z,hz,rfl⟩:=h;exact Z5 hG he hz
theorem callop_ok {call:ZK} (hcall:Z17 X call) (hG:Zg X s) (he:EnvR s n e a) (hi:Inv s) {id0:Nat} (hid:s.G.ent id0 = .none) (hnx:id0<s.G.nx) {c:Call} (ho:o.op = .call c) {x:PV} {G':Heap}
  {rd:Option Nat} (h:ZO X call e s.G id0 c=some (x,G')):o.uponIn (Fw rd) m X.P a (Z3b s a o.dst x G') Q ((execOp a.eval o).run X.P s.w):=by
 unfold ZO at h
 split at h
 ·cases h
 ·rename_i args hargs;have hv:=Z0w hG he hargs;have hex:∀ d,resolve a.eval c o.type=pure d->(execOp a.eval o).run X.P s.w=(invoke d.target d.args).run X.P s.w:=λd hd=>by
   simp [execOp,ho,hd]
  split at h
  ·rename_i b hc;obtain ⟨q,hq,hg⟩:=builtin_ok (X:=X) (ty:=o.type) hi hid hnx hv h;rw [hex _ (by simp only [resolve,hc];rfl)]
   simp only [invoke];rw [hq];exact Z0l hg
  ·cases h
  ·rename_i f hc
   split at h
   ·rename_i fid hf;have hfv:=fn_inv (Z5 hG he hf);rw [hex { target:=.fn (.func fid) #[],args:=#[]++c.args.map a.eval } (by simp only [resolve,hc,hfv,Deferred.ofValue])]
    obtain ⟨h1,h2⟩:=hcall (.fn fid) args x G' s h hi hG (c.args.map a.eval) hv;simp only [invoke,Array.append_empty,Y0Y];exact Z6M h1 h2
   ·rename_i fid first caps hf;obtain ⟨fv,cv,hfv,hf1,hf2⟩:=clo_inv (Z5 hG he hf);rw [hex { target:=.fn (.func fid) cv,args:=fv++c.args.map a.eval } (by simp only [resolve,hc,hfv,Deferred.ofValue])]
    obtain ⟨h1,h2⟩:=hcall (.fn fid) (first++args++caps) x G' s h hi hG (fv++c.args.map a.eval++cv) (Z2E (Z2E hf1 hv) hf2);simp only [invoke];exact Z6M h1 h2
   ·rename_i id hf;have hyl:a.eval f = .func (.yield (s.D id)) #[] #[]:=by
     have:=Z5 hG he hf;cases hv2:a.eval f<;>rw [hv2] at this<;>cases this
     rfl
    rw [hex { target:=.fn (.yield (s.D id)) #[],args:=#[]++c.args.map a.eval } (by simp only [resolve,hc,hyl,Deferred.ofValue])]
    obtain ⟨l,fn,tmps,assign,body,h1,h2⟩:=hcall (.yld id) args x G' s h hi hG (c.args.map a.eval) hv;simp only [invoke,Y0Y];rw [h1,Oper.uponIn_round];refine ⟨Z57 rd m,?_⟩;have h3:=h2 (m-1);refine RoundIn.mono (F:=Fw rd) h3 λen w' hh=>?_;obtain ⟨v,rfl,hp⟩:=hh;exact ⟨v,rfl,hp⟩
   ·cases h
theorem step_ok {call:ZK} (hcall:Z17 X call) (hG:Zg X s) (he:EnvR s n e a) (hi:Inv s) {id0:Nat} (hid:s.G.ent id0 = .none) (hnx:id0<s.G.nx) {x:PV} {G':Heap}
  {rd:Option Nat} (h:Z1 X call e s.G id0 o.op=some (x,G')):o.uponIn (Fw rd) m X.P a (Z3b s a o.dst x G') Q ((o.semAt (Fw rd).round a.eval).run X.P s.w):=by
 have hnd:∀ c,o.op ≠ .defer c:=by
  intro c hc;rw [hc] at h;simp [Z1] at h
 rw [Oper.semAt_eq _ _ _ hnd]
 cases ho:o.op<;>rw [ho] at h<;>simp only [Z1] at h<;>(try (cases h;done))
 case move y=>
  simp only [Y3,Y5] at h;obtain ⟨z,hz,rfl,rfl⟩:=h;simp only [execOp,ho,Sem.run_pure,Oper.uponIn_value];exact ⟨_,rfl,s.D,hi,Ev.refl s,Z5 hG he hz⟩
 case assign y=>
  simp only [Y3,Y5] at h;obtain ⟨z,hz,rfl,rfl⟩:=h;simp only [execOp,ho,Sem.run_pure,Oper.uponIn_value];exact ⟨_,rfl,s.D,hi,Ev.refl s,Z5 hG he hz⟩
 case pick c y z=>
  split at h
  ·rename_i hc;have hcv:=Z0j (Z5 hG he hc);simp only [Y3,Y5] at h;obtain ⟨q,hq,rfl,rfl⟩:=h;simp only [execOp,ho,hcv,asBool,Sem.run_bind,Sem.run_pure,Result.andThen_ok,Oper.uponIn_value,if_true];exact ⟨_,rfl,s.D,hi,Ev.refl s,Z5 hG he hq⟩
  ·rename_i hc;have hcv:=Z0j (Z5 hG he hc);simp only [Y3,Y5] at h;obtain ⟨q,hq,rfl,rfl⟩:=h;simp only [execOp,ho,hcv,asBool,Sem.run_bind,Sem.run_pure,Result.andThen_ok,Oper.uponIn_value,YF,if_false];exact ⟨_,rfl,s.D,hi,Ev.refl s,Z5 hG he hq⟩
  ·cases h
 case alloc t=>
  simp only [Y3] at h;obtain ⟨z,hz,hzz⟩:=h;obtain ⟨v,h1,h2,h3⟩:=tzero_ok (s:=s) hz;have hg:=Z4Z (X:=X) (P:=X.P) hi hid hnx (t:=t) h2 h3;rw [hzz] at hg;simp only [execOp,ho];refine Z0l (X:=X) ?_;simp only [Instr.alloc,Sem.run_bind,h1,Result.andThen_ok]
  simpa using hg
 case box t y=>
  simp only [Y3,Y9] at h;obtain ⟨cs,⟨z,hz,hcs⟩,hzz⟩:=h;obtain ⟨c1,c2⟩:=Z50 hcs (Z5 hG he hz);have hg:=Z4Z (X:=X) (P:=X.P) hi hid hnx (t:=t) c1 c2;rw [hzz] at hg;simp only [execOp,ho];exact Z0l (X:=X) hg
 case build t parts=>
  simp only [Y3,Y5] at h;obtain ⟨z,hz,rfl,rfl⟩:=h;simp only [execOp,ho];exact Z0P hi (build_ok hG he hz)
 case buildSlice t len parts=>
  simp only [execOp,ho];exact Z0l (X:=X) (buildSlice_ok hG he hi hid hnx h)
 case load t y=>
  simp only [Y3,Y9,Y5] at h;obtain ⟨z,⟨p,hp,hz⟩,rfl,rfl⟩:=h;simp only [execOp,ho];exact Z0l (X:=X) (load_gives hi (Z5 hG he hp) hz)
 case store t y z=>
  split at h
  ·rename_i p q hp hq;simp only [Y3,Y5] at h;obtain ⟨G1,hs,rfl,rfl⟩:=h;obtain ⟨D',w',h1,h2,h3⟩:=store_ok hi (Z5 hG he hp) (Z5 hG he hq) hs;simp only [execOp,ho,Sem.run_bind,h1,Result.andThen_ok,Sem.run_pure,Oper.uponIn_skip];exact ⟨_,rfl,D',h2,h3,.undef⟩
  ·cases h
 case nilCheck y=>
  have same:∀ z,Z0 X e y=some z->(∀ b,a.eval y ≠ .pointer none\/b)->True:=λ_ _ _=>trivial
  split at h
  ·rename_i id ver off hy
   by_cases hc:s.G.cur id ver=true
   ·rw [if_pos hc] at h;cases h;have hp:=Z5 hG he hy;have hv:=ptr_inv hp hc;simp only [execOp,ho];rw [hv];simp only [Sem.run_pure,Oper.uponIn_value];exact ⟨_,rfl,s.D,hi,Ev.refl s,by rw [<- hv];exact hp⟩
   ·rw [if_neg hc] at h;cases h
  ·rename_i cs hy;cases h;have hp:=Z5 hG he hy
   simp only [execOp,ho];generalize a.eval y=v at hp;cases hp with
   | fptr himm hcell=>
    simp only [Sem.run_pure,Oper.uponIn_value];exact ⟨_,rfl,s.D,hi,Ev.refl s,.fptr himm hcell⟩
  ·rename_i f fi ca hy;cases h;have hp:=Z5 hG he hy;obtain ⟨fv,cv,hv,_,_⟩:=clo_inv hp;simp only [execOp,ho];rw [hv];simp only [Sem.run_pure,Oper.uponIn_value];exact ⟨_,rfl,s.D,hi,Ev.refl s,by rw [<- hv];exact hp⟩
  ·rename_i f hy;cases h;have hp:=Z5 hG he hy;have hv:=fn_inv hp;simp only [execOp,ho];rw [hv];simp only [Sem.run_pure,Oper.uponIn_value];exact ⟨_,rfl,s.D,hi,Ev.refl s,by rw [<- hv];exact hp⟩
  ·rename_i id hy;cases h;have hp:=Z5 hG he hy
   simp only [execOp,ho];generalize a.eval y=v at hp;cases hp with
   | yld hl=>
    simp only [Sem.run_pure,Oper.uponIn_value];exact ⟨_,rfl,s.D,hi,Ev.refl s,.yld hl⟩
  ·cases h
 case binOp op t y z ty=>
  split at h
  ·rename_i p q hp hq;simp only [Y3,Y5] at h;obtain ⟨r,hr,rfl,rfl⟩:=h;simp only [execOp,ho];exact Z0P hi (bin_ok (Z5 hG he hp) (Z5 hG he hq) hr y z)
  ·cases h
 case unOp op t y=>
  simp only [Y3,Y9,Y5] at h;obtain ⟨r,⟨p,hp,hr⟩,rfl,rfl⟩:=h;simp only [execOp,ho];exact Z0P hi (un_ok (Z5 hG he hp) hr)
 case convert src dst y=>
  simp only [Y3,Y9,Y5] at h;obtain ⟨r,⟨p,hp,hr⟩,rfl,rfl⟩:=h;simp only [execOp,ho];exact Z0P hi (conv_ok (Z5 hG he hp) hr)
 case makeFunc fn first caps=>
  cases fn with
  | func f=>
   simp only at h;have hx:G'=s.G/\∃ z,PVR s x (.func (.func f) (first.map a.eval) (caps.map a.eval))/\z=x:=by
    split at h
    ·rename_i h1 h2;cases h;have e1:=Z0w hG he h1;have e2:=Z0w hG he h2;have f1:first.map a.eval = #[]:=Y0E e1.1.symm;have f2:caps.map a.eval = #[]:=Y0E e2.1.symm;rw [f1,f2];exact ⟨rfl,_,.v (.fn f),rfl⟩
    ·rename_i h1 h2;cases h;have e1:=Z0w hG he h1;have e2:=Z0w hG he h2;exact ⟨rfl,_,.clo e1.1 e2.1 e1.2 e2.2,rfl⟩
    ·cases h
   obtain ⟨rfl,_,hx,_⟩:=hx;simp only [execOp,ho];exact Z0P hi ⟨_,by simp only [Instr.makeFunc,Sem.run_pure],hx⟩
  | _=>simp at h
 case makeSlice t y z=>
  split at h
  ·rename_i p q hp hq;simp only [execOp,ho];exact Z0l (X:=X) (make_ok hi hid hnx (Z5 hG he hp) (Z5 hG he hq) h)
  ·cases h
 case slice t y lo hi' mx=>
  have hrun:(execOp a.eval o).run X.P s.w=((do pure (Next.value (<- Instr.sliceAt t (a.eval y) (lo.map a.eval) (hi'.map a.eval) (mx.map a.eval))):Sem Next)).run X.P s.w:=by
   simp only [execOp,ho]
  rw [hrun]
  split at h
  ·rename_i id len sz q1 q2 q3 h1 h2 h3 h4
   split at h
   ·simp only [Y3,Y5] at h;obtain ⟨r,hr,rfl,rfl⟩:=h;exact Z0P hi (view_ok (Z5 hG he h1) (Z1s hG he h2) (Z1s hG he h3) (Z1s hG he h4) hr)
   simp only [Y9,Y3,Y5] at h;obtain ⟨⟨z,G1⟩,hz,w1,hw1,rfl,rfl⟩:=h;obtain ⟨e1,f1⟩:=exp6 hz hi (Z5 hG he h1);have hev:=e1.2;have up:∀ {p:Option PV} {q:Option Value},OptR s p q->OptR ⟨s.w,s.Y,G1,s.D⟩ p q:=by
    intro p q hpq;cases p<;>cases q<;>first|exact hpq|exact hev.pvr hpq
   obtain ⟨u,u1,u2⟩:=slice_ok (s:=⟨s.w,s.Y,G1,s.D⟩) (P:=X.P) (.v f1) (up (Z1s hG he h2)) (up (Z1s hG he h3)) (up (Z1s hG he h4)) hw1;refine Z0l (X:=X) ⟨s.D,u,s.w,u1,e1.1,e1.2,u2⟩
  ·rename_i p q1 q2 q3 hnb h1 h2 h3 h4;simp only [Y3,Y5] at h;obtain ⟨r,hr,rfl,rfl⟩:=h;exact Z0P hi (slice_ok (Z5 hG he h1) (Z1s hG he h2) (Z1s hG he h3) (Z1s hG he h4) hr)
  ·cases h
 case fieldAddr t y f=>
  simp only [Y3,Y9,Y5] at h;obtain ⟨r,⟨p,hp,hr⟩,rfl,rfl⟩:=h;simp only [execOp,ho];exact Z0P hi (fieldAddr_ok (Z5 hG he hp) hr)
 case field t y f=>
  simp only [Y3,Y9,Y5] at h;obtain ⟨r,⟨p,hp,hr⟩,rfl,rfl⟩:=h;simp only [execOp,ho];exact Z0P hi (field_ok (Z5 hG he hp) hr)
 case indexAddr t y z=>
  split at h
  ·rename_i p q hp hq;simp only [Y3,Y5] at h;obtain ⟨r,hr,rfl,rfl⟩:=h;simp only [execOp,ho];exact Z0P hi (indexAddr_ok hi (Z5 hG he hp) (Z5 hG he hq) hr)
  ·cases h
 case index t y z=>
  split at h
  ·rename_i p q hp hq;simp only [Y3,Y5] at h;obtain ⟨r,hr,rfl,rfl⟩:=h;simp only [execOp,ho];exact Z0P hi (index_ok (Z5 hG he hp) (Z5 hG he hq) hr)
  ·cases h
 case extract y k=>
  split at h
  ·rename_i xs hy;simp only [Y3,Y5] at h;obtain ⟨r,hr,rfl,rfl⟩:=h;have hp:=Z5 hG he hy
   simp only [execOp,ho];generalize a.eval y=v at hp;cases hp with
   | @tup _ vs hs hh=>
    have hlt:k<vs.size:=by rw [<- hs];exact (List.getElem?_eq_some_iff.1 hr).1
    have:=hh k r hr;refine Z0P hi ⟨vs[k],by simp [Instr.extract,hlt],?_⟩
    simpa [YC,hlt] using this
  ·cases h
 case call c=>
  exact callop_ok hcall hG he hi hid hnx ho h
end Go.Dn

namespace Go.Dn
open Go
variable {X:Ctx} {s:St} {n:Nat} {e:Env} {a:Act} {Q:Exit->Act->World->Prop} {m:Nat}
theorem Z4k:∀ {xs ys:List PV} {G G':Heap},Z0E G xs=some (ys,G')->Tame G none G'
 | [],ys,G,G',h=>by simp [Z0E] at h;rw [<- h.2];exact Tame.refl _ _
 | x::xs,ys,G,G',h=>by
  simp only [Z0E,Y9,YA,Y5] at h;obtain ⟨⟨y,G1⟩,h1,⟨zs,G2⟩,h2,_,rfl⟩:=h;exact (Z2I h1).trans (Z4k h2)
theorem expRes_tame {G:Heap} {x y:PV} {G':Heap} (h:Zw G x=some (y,G')):Tame G none G':=by
 unfold Zw at h
 split at h
 ·simp only [Y9,YA,Y5] at h;obtain ⟨⟨ys,G1⟩,h1,_,rfl⟩:=h;exact Z4k h1
 ·exact Z2I h
theorem expArg_tame {G:Heap} {x y:PV} {G':Heap} (h:Z1Z G x=some (y,G')):Tame G none G':=by
 unfold Z1Z at h
 split at h
 ·cases h;exact Tame.refl _ _
 ·cases h;exact Tame.refl _ _
 ·cases h;exact Tame.refl _ _
 ·exact Z2I h
theorem Z33:∀ {xs ys:List PV} {G G':Heap},Zq G xs=some (ys,G')->Tame G none G'
 | [],ys,G,G',h=>by simp [Zq] at h;rw [<- h.2];exact Tame.refl _ _
 | x::xs,ys,G,G',h=>by
  simp only [Zq,Y9,YA,Y5] at h;obtain ⟨⟨y,G1⟩,h1,⟨zs,G2⟩,h2,_,rfl⟩:=h;exact (expArg_tame h1).trans (Z33 h2)
theorem Z1d {P:Program} {G:Heap} {t:TypeId} {x p:PV} {G':Heap} {id0:Option Nat} (h:Z0N P G t x p=some G'):Tame G id0 G':=by
 unfold Z0N at h
 split at h
 ·split at h
  ·rename_i hb
   split at h
   ·split at h
    ·split at h
     ·cases h;exact Tame.Z4n id0 (by rw [hb];simp)
     ·cases h
    ·cases h
   ·cases h
  ·cases h
 ·cases h
theorem appendD_tame {P:Program} {G:Heap} {id0:Nat} {t:TypeId} {x y z:PV} {G':Heap} (h:Z0D P G id0 t x y=some (z,G')):Tame G (some id0) G':=by
 unfold Z0D at h
 split at h
 ·cases h
 ·split at h
  ·split at h
   ·cases h
   ·split at h
    ·cases h
    ·split at h
     ·split at h
      ·cases h;exact Tame.refl _ _
      ·split at h
       ·cases h;exact Tame.Z18 _ _ _
       ·cases h
     ·split at h
      ·cases h
      ·split at h
       ·cases h;exact Tame.Z18 _ _ _
       ·cases h
     ·split at h
      ·rename_i hb
       split at h
       ·cases h;exact Tame.Z4n _ (by rw [hb];simp)
       ·cases h
      ·cases h
     ·cases h
  ·cases h
theorem copyD_tame {P:Program} {G:Heap} {id0:Option Nat} {t:TypeId} {x y z:PV} {G':Heap} (h:Z3v P G t x y=some (z,G')):Tame G id0 G':=by
 unfold Z3v at h
 split at h
 ·cases h
 ·split at h
  ·cases h
  ·split at h
   ·split at h
    ·rename_i hb
     split at h
     ·cases h;exact Tame.Z4n _ (by rw [hb];simp)
     ·cases h
    ·cases h
   ·split at h
    ·rename_i hb
     split at h
     ·cases h;exact Tame.Z4n _ (by rw [hb];simp)
     ·cases h
    ·cases h
   ·cases h
theorem makeD_tame {P:Program} {G:Heap} {id0:Nat} {t:TypeId} {x y z:PV} {G':Heap} (h:makeD P G id0 t x y=some (z,G')):Tame G (some id0) G':=by
 unfold makeD at h
 split at h
 ·split at h
  ·split at h
   ·cases h;exact Tame.Z18 _ _ _
   ·cases h
  ·cases h
 ·cases h
theorem builtinD_tame {P:Program} {G:Heap} {id0:Nat} {b:Builtin} {ts:List TypeId} {args:List PV} {z:PV} {G':Heap} (h:Zf P G id0 b ts args=some (z,G')):Tame G (some id0) G':=by
 unfold Zf at h
 split at h
 ·simp only [Y3,Y5] at h;obtain ⟨_,_,_,rfl⟩:=h;exact Tame.refl _ _
 ·split at h
  ·exact appendD_tame h
  ·cases h
 ·exact copyD_tame h
 ·simp only [Y3,Y5] at h;obtain ⟨_,_,_,rfl⟩:=h;exact Tame.refl _ _
 ·simp only [Y3,Y5] at h;obtain ⟨_,_,_,rfl⟩:=h;exact Tame.refl _ _
 ·cases h
theorem Z5Q {X:Ctx} {G:Heap} {id0:Nat} {t:TypeId} {len:Nat} {parts:List (Nat×Operand)} {z:PV} {G':Heap} (h:Z08 X e G id0 t len parts=some (z,G')):Tame G (some id0) G':=by
 unfold Z08 at h
 simp only [Y9] at h
 obtain ⟨ps,_,⟨qs,G1⟩,hq,h⟩:=h
 refine (Z5x hq).weak.trans ?_
 unfold Z0V at h
 split at h
 ·split at h
  ·split at h
   ·simp only [Y3,Y5] at h;obtain ⟨_,_,_,rfl⟩:=h;exact Tame.Z18 _ _ _
   ·cases h
  ·cases h
 ·cases h
theorem callOpD_tame {call:ZK} (hc:Zy call) {G:Heap} {id0:Nat} {c:Call} {z:PV} {G':Heap} (h:ZO X call e G id0 c=some (z,G')):Tame G (some id0) G':=by
 unfold ZO at h
 split at h
 ·cases h
 ·split at h
  ·exact builtinD_tame h
  ·cases h
  ·split at h
   ·exact (hc _ _ _ _ _ h).weak
   ·exact (hc _ _ _ _ _ h).weak
   ·exact (hc _ _ _ _ _ h).weak
   ·cases h
theorem stepOp_tame {call:ZK} (hc:Zy call) {G:Heap} {id0:Nat} {op:Op} {z:PV} {G':Heap} (h:Z1 X call e G id0 op=some (z,G')):Tame G (some id0) G':=by
 cases op<;>simp only [Z1] at h<;>(try (cases h;done))
 case alloc t=>
  simp only [Y3,newD,Y5] at h;obtain ⟨_,_,_,rfl⟩:=h;exact Tame.Z18 _ _ _
 case box t y=>
  simp only [Y3,newD,Y5] at h;obtain ⟨_,_,_,rfl⟩:=h;exact Tame.Z18 _ _ _
 case buildSlice=>exact Z5Q h
 case store t y z=>
  split at h
  ·simp only [Y3,Y5] at h;obtain ⟨G1,hs,_,rfl⟩:=h;exact Z1d hs
  ·cases h
 case makeSlice t y z=>
  split at h
  ·exact makeD_tame h
  ·cases h
 case call c=>exact callOpD_tame hc h
 case slice t y lo hi mx=>
  split at h
  ·split at h
   ·simp only [Y3,Y5] at h;obtain ⟨_,_,_,rfl⟩:=h;exact Tame.refl _ _
   simp only [Y9,Y3,Y5] at h;obtain ⟨⟨q,G1⟩,h1,_,_,_,rfl⟩:=h;exact (Z1t 6 _ _ _ _ h1).weak
  ·simp only [Y3,Y5] at h;obtain ⟨_,_,_,rfl⟩:=h;exact Tame.refl _ _
  ·cases h
 case makeFunc fn f c=>
  cases fn<;>simp only at h<;>(try (cases h;done))
  split at h<;>cases h<;>exact Tame.refl _ _
 case nilCheck y=>
  split at h
  ·split at h<;>cases h;exact Tame.refl _ _
  all_goals first
   | (cases h;exact Tame.refl _ _)
   | (cases h;done)
 all_goals first
  | (simp only [Y3,Y5] at h;obtain ⟨_,_,_,rfl⟩:=h;exact Tame.refl _ _)
  | (split at h<;>first
    | (simp only [Y3,Y5] at h;obtain ⟨_,_,_,rfl⟩:=h;exact Tame.refl _ _)
    | (cases h;done))
theorem EnvR.put {x:PV} {v:Value} {dst:Option Tmp} (h:EnvR s n e a) (hx:PVR s x v):EnvR s n (putD n e dst x) (a.put dst v):=by
 obtain ⟨h1,h2⟩:=h
 cases dst with
 | none=>exact ⟨h1,h2⟩
 | some d=>
  refine ⟨by simp [Act.put,h1],λt=>?_⟩
  by_cases hd:d<n
  ·simp only [putD,hd,if_true]
   by_cases ht:t=d
   ·subst ht
    simpa [Z6,Act.put,YC,h1,hd] using hx
   ·rw [ZF _ _ ht];have:=h2 t
    simpa [Act.put,YC,Array.getElem?_setIfInBounds_ne (Ne.symm ht)] using this
  ·simp only [putD,hd,if_false];have hle:a.tmps.size<=d:=by rw [h1];exact Nat.le_of_not_lt hd
   have hs:a.tmps.setIfInBounds d v=a.tmps:=Array.setIfInBounds_eq_of_size_le hle
   simpa [Act.put,hs] using h2 t
theorem wanted_ok {ops:Array Oper} {o:Oper} {b:Bool} (he:EnvR s n e a) (h:ZP ops e o=some b):Region.wanted o (yielded ops a.tmps)=b:=by
 unfold ZP at h
 unfold Region.wanted
 split at h
 ·rename_i hg;cases h;rw [hg]
 ·rename_i j want hg;rw [hg];simp only
  split at h
  ·rename_i hd;cases h;simp [yielded,hd]
  ·rename_i d hd;have h2:=he.2 d
   split at h
   ·rename_i c hc;cases h;rw [hc] at h2;have h3:=Z0j h2;have hlt:d<a.tmps.size:=by
     rcases YT d a.tmps.size with h'|h'
     ·exact h'
     ·simp [YC,Yw h',Go.undef] at h3
    have h4:a.tmps[d]? = some (.bool c):=by
     simp only [YC,Ye hlt,Y0G] at h3 ⊢;rw [h3]
    simp [yielded,hd,h4]
   ·rename_i hc;cases h;rw [hc] at h2;have h3:a.tmps.getD d Go.undef=Go.undef:=by generalize a.tmps.getD d Go.undef=v at h2;cases h2;rfl
    have h4:a.tmps[d]? = none\/a.tmps[d]? = some Go.undef:=by
     rcases YT d a.tmps.size with h'|h'
     ·simp only [YC,Ye h',Y0G] at h3 ⊢;rw [h3];simp
     ·exact .inl (Yw h')
    rcases h4 with h4|h4<;>simp [yielded,hd,h4,Go.undef]
   ·cases h
structure Then (s:St) (n:Nat) (a:Act) (e':Env) (G':Heap) (a':Act) (w':World) (D':Nat->Nat):Prop where
 inv:Inv ⟨w',s.Y,G',D'⟩
 ev:Ev s ⟨w',s.Y,G',D'⟩
 env:EnvR ⟨w',s.Y,G',D'⟩ n e' a'
 defers:a'.defers=a.defers
theorem Z4J (a:Act) (dst:Option Tmp) (v:Value):(a.put dst v).defers=a.defers:=by cases dst<;>rfl
theorem stepO_ok {call:ZK} (hcall:Z17 X call) {rd:Option Nat} {ops:Array Oper} {base i:Nat} {o:Oper} {e':Env} {G':Heap} (hG:Zg X s) (hi:Inv s) (he:EnvR s n e a)
  (hid:s.G.ent (base+i) = .none) (hnx:base+i<s.G.nx) (h:Zm X call n ops base i o e s.G=some (e',G')) {K:Act->World->Prop}
  (hK:∀ a' w' D',Then s n a e' G' a' w' D'->K a' w') :
  if Region.wanted o (yielded ops a.tmps) then o.wpIn (Fw rd) m X.P a s.w K Q else (∀ f,o.about X.P s.w a.eval=some f->(Fw rd).fn f)/\K (a.put o.dst Go.undef) s.w:=by
 unfold Zm at h
 split at h
 ·rename_i hw;rw [wanted_ok he hw,if_pos rfl];simp only [Y9,YA,Y5] at h;obtain ⟨⟨x,G1⟩,h1,rfl,rfl⟩:=h;have hs:=step_ok (o:=o) (Q:=Q) (m:=m) (rd:=rd) hcall hG he hi hid hnx h1;refine Oper.wpIn_mono (K:=Z3b s a o.dst x G1) (λa' w' hh=>?_) ⟨λ_ _=>trivial,hs⟩;obtain ⟨v,rfl,D',h2,h3,h4⟩:=hh;exact hK _ _ D' ⟨h2,h3,(he.mono h3).put h4,Z4J _ _ _⟩
 ·rename_i hw;rw [wanted_ok he hw];simp only [YF,if_false];cases h;exact ⟨λ_ _=>trivial,hK _ _ s.D ⟨hi,Ev.refl s,he.put .undef,Z4J _ _ _⟩⟩
 ·cases h
theorem Z2p {call:ZK} (hc:Zy call) {ops:Array Oper} {base i:Nat} {o:Oper} {G:Heap} {e':Env} {G':Heap} (h:Zm X call n ops base i o e G=some (e',G')):Tame G (some (base+i)) G':=by
 unfold Zm at h
 split at h
 ·simp only [Y9,YA,Y5] at h;obtain ⟨⟨x,G1⟩,h1,_,rfl⟩:=h;exact stepOp_tame hc h1
 ·cases h;exact Tame.refl _ _
 ·cases h
theorem runOps_ok {call:ZK} (hcall:Z17 X call) (htame:Zy call) {rd:Option Nat} {ops:Array Oper} {base:Nat}:∀ (l:List Oper) (i:Nat) (s:St) (e:Env) (a:Act) (e':Env) (G':Heap),Zg X s->Inv s->EnvR s n e a ->
  (∀ j,l[j]? = ops[i+j]?)->(∀ k,i<=k->k<i+l.length->s.G.ent (base+k) = .none/\base+k<s.G.nx)->Z0T X call n ops base i l e s.G=some (e',G')->
  (∀ a' w' D',Then s n a e' G' a' w' D'->Q .normal a' w')->wpOpsIn (Fw rd) m X.P ops Q (List.range' i l.length) a s.w
 | [],i,s,e,a,e',G',hG,hi,he,hl,hf,h,hQ=>by
  simp [Z0T] at h;obtain ⟨rfl,rfl⟩:=h;exact hQ a s.w s.D ⟨hi,Ev.refl s,he,rfl⟩
 | o::l,i,s,e,a,e',G',hG,hi,he,hl,hf,h,hQ=>by
  simp only [Z0T,Y9] at h;obtain ⟨⟨e1,G1⟩,h1,h2⟩:=h;have h0:ops[i]? = some o:=by simpa using (hl 0).symm
  obtain ⟨f1,f2⟩:=hf i (YG _) (by simp)
  have hT:=Z2p htame h1;have:=stepO_ok (m:=m) (Q:=Q) (rd:=rd) hcall hG hi he f1 f2 h1 (K:=wpOpsIn (Fw rd) m X.P ops Q (List.range' (i+1) l.length)) (λa1 w1 D1 ht=>by
   refine runOps_ok hcall htame l (i+1) ⟨w1,s.Y,G1,D1⟩ e1 a1 e' G' (hG.mono ht.ev) ht.inv ht.env (λj=>by have:=hl (j+1);simpa [Nat.add_assoc,Nat.add_comm 1 j] using this) (λk hk1 hk2=>?_) h2 (λa' w' D' ht2=>hQ a' w' D' ⟨ht2.inv,ht.ev.trans ht2.ev,ht2.env,ht2.defers.trans ht.defers⟩)
   obtain ⟨g1,g2⟩:=hf k (by omega) (by simp;omega)
   exact ⟨hT.2 _ g2 (by simp;omega) g1,YN g2 hT.1⟩)
  simp only [YX,List.range'_succ,wpOpsIn,h0];exact this
def St.more (s:St) (k:Nat):St:=⟨s.w,s.Y,⟨s.G.nx+k,s.G.ent⟩,s.D⟩
theorem Z0s (k:Nat):Ev s (s.more k) where
 Y:=rfl
 size:=YG _
 keep:=λ_ _ _=>rfl
 live:=λid h _=>⟨id,h,rfl⟩
 blk:=λid el cells lv h=>⟨cells,lv,h,YG _,λ_=>⟨rfl,λcs e fr h=>⟨cs,fr,h,rfl⟩⟩⟩
 loop:=λid fn e n ps as_ bo st pend h=>⟨⟨st,pend,h⟩,rfl⟩
 map:=λid kv h=>⟨⟨kv,h⟩,rfl⟩
 os:=rfl
 tape:=rfl
 output:=rfl
theorem Z6T {s':St} (hev:Ev s s') (hw:s'.w.heap=s.w.heap) (hD:s'.D=s.D) {id:Nat} {en:Ent} (h:EntOK s id en):EntOK s' id en:=by
 cases en with
 | none=>trivial
 | blk el c lv'=>
  obtain ⟨cs,fr,q1,q2,q3,q4⟩:=h;exact ⟨cs,fr,by rw [hw,hD];exact q1,q2,q3,λj x hj=>by obtain ⟨u,u1,u2,u3⟩:=q4 j x hj;exact ⟨u,u1,hev.pvr u2,u3⟩⟩
 | loop fn e' n ps as_ bo st pend=>
  obtain ⟨fn2,tmps,defers,q1,q2,q3⟩:=h;exact ⟨fn2,tmps,defers,by rw [hw,hD];exact q1,q2,λt=>hev.pvr (q3 t)⟩
 | map kv=>show _=_;rw [hw,hD];exact h
theorem Z3B (hi:Inv s) (k:Nat):Inv (s.more k) :=
 ⟨λid=>Z6T (Z0s k) rfl rfl (hi.ent id),hi.inj,hi.notY,λid el c h=>((Z0s k).imm _ (hi.fz id el c h)).1,λid hn=>hi.nx id (by simp only [St.more] at hn;omega),hi.Ylt⟩
theorem region_ok {call:ZK} (hcall:Z17 X call) (htame:Zy call) {rd:Option Nat} {id:Nat} {ops:Array Oper} {e':Env} {G':Heap} (hG:Zg X s) (hi:Inv s) (he:EnvR s n e a)
  (h:Z0T X call n ops s.G.nx 0 ops.toList e ⟨s.G.nx+ops.size,s.G.ent⟩=some (e',G')) (hQ:∀ a' w' D',Then s n a e' G' a' w' D'->Q .normal a' w') :
  (Code.region id ops false).wpIn (Fw rd) m X.P Q a s.w:=by
 refine wpIn_region ?_
 have:=runOps_ok (m:=m) (Q:=Q) (rd:=rd) hcall htame (ops:=ops) (base:=s.G.nx) ops.toList 0 (s.more ops.size) e a e' G' (hG.mono (Z0s _)) (Z3B hi _) (he.mono (Z0s _)) (by simp) (λk _ hk=>by
  simp only [Yv,Y04] at hk;exact ⟨hi.nx _ (by omega),by simp only [St.more];omega⟩) h (λa' w' D' ht=>hQ a' w' D' ⟨ht.inv,(Z0s _).trans ht.ev,ht.env,ht.defers⟩)
 rw [List.range_eq_range']
 simpa [St.more] using this
end Go.Dn

namespace Go.Dn
open Go
variable {X:Ctx} {e e':Env} {n:Nat}
def sees (e e':Env) (xs:List Operand):Prop:=∀ t,.tmp t∈xs->e t=e' t
theorem ZR {x:Operand} (h:sees e e' [x]):Z0 X e x=Z0 X e' x:=by
 cases x with
 | tmp t=>simp only [Z0];rw [h t (by simp)]
 | _=>rfl
theorem Z0K:∀ {xs:List Operand},sees e e' xs->ZC X e xs=ZC X e' xs
 | [],_=>rfl
 | x::xs,h=>by
  simp only [ZC];rw [ZR (λt ht=>h t (by simp at ht ⊢;exact .inl ht)),Z0K (λt ht=>h t (by simp [ht]))]
theorem Z30:∀ {xs:List (Nat×Operand)},sees e e' (xs.map (·.2))->Z1D X e xs=Z1D X e' xs
 | [],_=>rfl
 | (i,x)::xs,h=>by
  simp only [Z1D];rw [ZR (λt ht=>h t (by simp at ht ⊢;exact .inl ht)),Z30 (λt ht=>h t (by simp at ht ⊢;exact .inr ht))]
theorem optD_env {x:Option Operand} (h:sees e e' x.toList):optD X e x=optD X e' x:=by
 cases x with
 | none=>rfl
 | some x=>simp only [optD];rw [ZR (by simpa using h)]
theorem Zc {xs ys:List Operand} (h:sees e e' ys) (hs:∀ x∈xs,x∈ys):sees e e' xs:=λt ht=>h t (hs _ ht)
theorem sees1 {ys:List Operand} {x:Operand} (h:sees e e' ys) (hy:ys=[x]):Z0 X e x=Z0 X e' x :=
 ZR (by subst hy;exact h)
theorem sees2 {ys:List Operand} {x y:Operand} (h:sees e e' ys) (hy:ys=[x,y]):Z0 X e x=Z0 X e' x :=
 ZR (by subst hy;exact Zc h (by intro z hz;simp at hz;simp [hz]))
theorem sees22 {ys:List Operand} {x y:Operand} (h:sees e e' ys) (hy:ys=[x,y]):Z0 X e x=Z0 X e' x/\Z0 X e y=Z0 X e' y:=by
 subst hy
 exact ⟨ZR (Zc h (by intro z hz;simp at hz;simp [hz])),ZR (Zc h (by intro z hz;simp at hz;simp [hz]))⟩
theorem sees3 {ys:List Operand} {x y u:Operand} (h:sees e e' ys) (hy:ys=[x,y,u]):Z0 X e x=Z0 X e' x/\Z0 X e y=Z0 X e' y/\Z0 X e u=Z0 X e' u:=by
 subst hy
 exact ⟨ZR (Zc h (by intro z hz;simp at hz;simp [hz])),ZR (Zc h (by intro z hz;simp at hz;simp [hz])),ZR (Zc h (by intro z hz;simp at hz;simp [hz]))⟩
theorem Z0h {call:ZK} {G:Heap} {id:Nat} {op:Op} (h:sees e e' op.operands.toList):Z1 X call e G id op=Z1 X call e' G id op:=by
 cases op<;>simp only [Op.operands] at h<;>simp only [Z1]
 case build t ps=>
  have hp:sees e e' (ps.toList.map (·.2)):=by simpa using h
  simp only [Z5J,Z30 hp]
 case buildSlice t k ps=>
  have hp:sees e e' (ps.toList.map (·.2)):=by simpa using h
  simp only [Z08,Z30 hp]
 case makeFunc fn f c=>
  have h1:sees e e' f.toList:=Zc h (by intro x hx;simp at hx ⊢;exact .inl hx)
  have h2:sees e e' c.toList:=Zc h (by intro x hx;simp at hx ⊢;exact .inr hx)
  cases fn<;>simp only [Z0K h1,Z0K h2]
 case slice t x lo hi mx=>
  have h1:sees e e' [x]:=Zc h (by intro y hy;simp at hy ⊢;exact .inl hy)
  have h2:sees e e' lo.toList:=Zc h (by intro y hy;simp at hy ⊢;exact .inr (.inl hy))
  have h3:sees e e' hi.toList:=Zc h (by intro y hy;simp at hy ⊢;exact .inr (.inr (.inl hy)))
  have h4:sees e e' mx.toList:=Zc h (by intro y hy;simp at hy ⊢;exact .inr (.inr (.inr hy)))
  simp only [ZR h1,optD_env h2,optD_env h3,optD_env h4]
 case call c=>
  have h1:sees e e' c.args.toList:=Zc h (by intro y hy;simp only [Call.operands,Yi,Ya];exact .inr hy)
  simp only [ZO,Z0K h1];cases hc:c.callee with
  | value f=>
   have h2:sees e e' [f]:=Zc h (by intro y hy;simp only [Call.operands,hc,Yi,Ya];exact .inl hy)
   simp only [ZR h2]
  | _=>rfl
 all_goals first
  | rfl
  | (rw [sees1 h rfl];done)
  | (rw [sees2 h rfl];done)
  | (rw [(sees22 h rfl).1,(sees22 h rfl).2];done)
  | (rw [(sees3 h rfl).1,(sees3 h rfl).2.1,(sees3 h rfl).2.2];done)
theorem looks_sub {op:Op}:∀ x∈ZB op,x∈op.operands.toList:=by
 intro x hx
 cases op<;>simp only [ZB] at hx<;>(try (simp at hx;done))<;>simp only [Op.operands]
 case call c=>
  cases hc:c.callee<;>rw [hc] at hx<;>simp at hx;simp only [Call.operands,Yi,Ya];exact .inr (by simpa using hx)
 all_goals (simp at hx ⊢;simp [hx])
theorem touched_looks {op:Op} (hl:sees e e' (ZB op)):touched X e op=touched X e' op:=by
 have key:∀ (l:List Operand),sees e e' l->(l.flatMap λx=>match Z0 X e x with|some v=>vids v|none=>[])=(l.flatMap λx=>match Z0 X e' x with|some v=>vids v|none=>[]):=by
  intro l
  induction l with
  | nil=>intro _;rfl
  | cons x l ih=>
   intro h;simp only [YI];rw [ZR (X:=X) (Zc h (by intro y hy;simp at hy;simp [hy])),ih (Zc h (by intro y hy;simp [hy]))]
 exact key _ hl
theorem touched_env {op:Op} (h:sees e e' op.operands.toList):touched X e op=touched X e' op:=touched_looks (Zc h looks_sub)
def Stable (ops:Array Oper) (e e':Env):Prop:=∀ t,(ops.any λo=>o.dst==some t)=false->e t=e' t
theorem rootT_stable {ops:Array Oper} {t u:Nat} (h:rootT ops t=some u):(ops.any λo=>o.dst==some u)=false:=by
 unfold rootT at h
 split at h
 ·rename_i hn;cases h;rw [List.find?_eq_none] at hn;rw [Array.any_eq_false];intro i hi;exact hn _ (Array.getElem_mem_toList hi)
 ·split at h
  all_goals first
   | (cases h;done)
   | skip
  all_goals
   split at h
   ·cases h
   ·rename_i hh;cases h;simpa using hh
theorem Z3F {ops:Array Oper} {op:Op} (hs:Stable ops e e'):Z0t X ops e op=Z0t X ops e' op:=by
 unfold Z0t
 congr 1
 funext x
 cases x with
 | tmp t=>
  simp only;cases h:rootT ops t with
  | none=>rfl
  | some u=>simp only;rw [hs u (rootT_stable h)]
 | _=>rfl
theorem Z5s {ops:Array Oper} {op:Op} (h:stableOp ops op=true):Z0t X ops e op=touched X e op:=by
 unfold stableOp at h
 unfold Z0t touched
 have key:∀ (l:List Operand),(l.all λx=>match x with | .tmp t=>!(ops.any λo=>o.dst==some t)|_=>true)=true ->
   (l.flatMap λx=>match x with
    | .tmp t=>(match rootT ops t with|some u=>vids (e u)|none=>[])
    | x=>(match Z0 X e x with|some v=>vids v|none=>[])) =
   (l.flatMap λx=>match Z0 X e x with|some v=>vids v|none=>[]):=by
  intro l
  induction l with
  | nil=>intro _;rfl
  | cons x l ih=>
   intro h;simp only [Yg,YD] at h;simp only [YI];rw [ih h.2]
   congr 1
   cases x with
   | tmp t=>
    have hn:ops.toList.find? (λo=>o.dst==some t)=none:=by
     rw [List.find?_eq_none];intro o ho;have h1:=h.1;simp only [YV,Array.any_eq_false] at h1;obtain ⟨i,hi,rfl⟩:=List.mem_iff_getElem.1 ho;exact h1 i (by simpa using hi)
    simp only [rootT,hn,Z0]
   | _=>rfl
 exact key _ h
theorem freshAt_env {ops:Array Oper} {bef:Array Nat} {i k:Nat} (hs:Stable ops e e'):Z0x X e bef ops i k=Z0x X e' bef ops i k:=by
 unfold Z0x
 congr 1
 funext j
 congr 1
 cases hj:ops[j]? with
 | none=>rfl
 | some o=>simp only [Z3F (X:=X) (op:=o.op) hs]
theorem frozen_env {op:Op} (h:sees e e' op.operands.toList):frozen X e op=frozen X e' op:=by
 cases op with
 | buildSlice t k ps=>
  have hp:sees e e' (ps.toList.map (·.2)):=by simpa [Op.operands] using h
  simp only [frozen,Z30 hp]
 | _=>rfl
theorem Z0i {ops:Array Oper} {base i:Nat} {o:Oper} (hst:Stable ops e e') (h:sees e e' o.op.operands.toList):ZJ X ops base i o e=ZJ X ops base i o e':=by
 unfold ZJ
 congr 1
 unfold ZL
 rw [touched_env h,frozen_env h]
 have hfr:∀ k,Z0x X e (Region.before ops) ops i k=Z0x X e' (Region.before ops) ops i k:=λk=>freshAt_env hst
 have hri:Z0t X ops e o.op=Z0t X ops e' o.op:=Z3F hst
 simp only [hfr,hri]
 cases hop:o.op with
 | slice t x lo hi mx=>
  rw [hop] at h;have h1:sees e e' [x]:=Zc h (by intro y hy;simp [Op.operands] at hy ⊢;exact .inl hy)
  simp only [ZR h1]
 | call c=>
  rw [hop] at h;have h1:sees e e' c.args.toList:=Zc h (by intro y hy;simp only [Op.operands,Call.operands,Yi,Ya];exact .inr hy)
  have hk:∀ args,Z2g X e args c.callee=Z2g X e' args c.callee:=λargs=>by
   cases hc:c.callee with
   | value f=>
    have h2:sees e e' [f]:=Zc h (by intro y hy;simp only [Op.operands,Call.operands,hc,Yi,Ya];exact .inl hy)
    simp only [Z2g,ZR h2]
   | _=>rfl
  simp only [Z0K h1,hk]
 | _=>rfl
theorem Z3e {ops:Array Oper} {base i:Nat} {o:Oper} (h:sees e e' o.op.operands.toList):Z2H X ops base i e o.op=Z2H X ops base i e' o.op:=by
 unfold Z2H
 cases hop:o.op with
 | call c=>
  rw [hop] at h;simp only;cases hc:c.callee with
  | value f=>
   have h1:sees e e' c.args.toList:=Zc h (by intro y hy;simp only [Op.operands,Call.operands,hc,Yi,Ya];exact .inr hy)
   have h2:sees e e' [f]:=Zc h (by intro y hy;simp only [Op.operands,Call.operands,hc,Yi,Ya];exact .inl hy)
   simp only [ZR h2,Z0K h1]
  | _=>rfl
 | _=>rfl
theorem Z2t {ops:Array Oper} {i:Nat} {o:Oper} (h:sees e e' o.op.operands.toList):Z1I X ops i e o.op=Z1I X ops i e' o.op:=by
 unfold Z1I
 cases hop:o.op with
 | call c=>
  rw [hop] at h;simp only;cases hc:c.callee with
  | value f=>
   have h1:sees e e' c.args.toList:=Zc h (by intro y hy;simp only [Op.operands,Call.operands,hc,Yi,Ya];exact .inr hy)
   have h2:sees e e' [f]:=Zc h (by intro y hy;simp only [Op.operands,Call.operands,hc,Yi,Ya];exact .inl hy)
   simp only [ZR h2,Z0K h1]
  | _=>rfl
 | _=>rfl
theorem still_env {call:ZK} {ops:Array Oper} {base i:Nat} {o:Oper} {G:Heap} (h:sees e e' o.op.operands.toList):Z1O X call ops base i o e G↔Z1O X call ops base i o e' G:=by
 have hs:=Z3e (X:=X) (ops:=ops) (base:=base) (i:=i) h
 have hs2:=Z2t (X:=X) (ops:=ops) (i:=i) h
 unfold Z1O
 simp only [Z0h (X:=X) (call:=call) h,hs,hs2]
def appl (G:Heap) (δ:List (Nat×Ent)):Heap:=δ.foldl (λG p=>G.put p.1 p.2) G
theorem ZH (G:Heap):appl G []=G:=rfl
theorem ZI (G:Heap) (k:Nat) (en:Ent):appl G [(k,en)]=G.put k en:=rfl
def Agree (G G2:Heap) (l:List Nat):Prop:=∀ k∈l,G2.ent k=G.ent k
theorem Z1N {G G2:Heap} {id k:Nat} (h:G2.ent id=G.ent id):G2.cur id k=G.cur id k:=by simp only [Heap.cur,h]
theorem loadD_agree {P:Program} {G G2:Heap} {t:TypeId} {p:PV} (h:Agree G G2 (vids p)):Z05 P G2 t p=Z05 P G t p:=by
 cases p with
 | ptr id ver off=>simp only [Z05];rw [h id (by simp [vids])]
 | _=>rfl
theorem lenD_agree {P:Program} {G G2:Heap} {t:TypeId} {p:PV} (h:Agree G G2 (vids p)):lenD P G2 t p=lenD P G t p:=by
 cases p with
 | buf id len sz=>simp only [lenD];rw [Z1N (h id (by simp [vids]))]
 | v x=>cases x<;>rfl
 | _=>rfl
theorem Z5E {P:Program} {G G2:Heap} {t:TypeId} {p i:PV} (h:Agree G G2 (vids p)):Zo P G2 t p i=Zo P G t p i:=by
 cases p with
 | buf id len sz=>simp only [Zo];rw [Z1N (h id (by simp [vids]))]
 | ptr id ver off=>simp only [Zo];rw [Z1N (h id (by simp [vids]))]
 | v x=>cases x<;>rfl
 | _=>rfl
theorem Z5F {P:Program} {G G2:Heap} {t:TypeId} {p:PV} {f:Nat} (h:Agree G G2 (vids p)):Z02 P G2 t p f=Z02 P G t p f:=by
 cases p with
 | ptr id ver off=>simp only [Z02];rw [Z1N (h id (by simp [vids]))]
 | _=>rfl
theorem isNil_agree {G G2:Heap} {p:PV} (h:Agree G G2 (vids p)):Z36 G2 p=Z36 G p:=by
 cases p with
 | buf id len sz=>simp only [Z36];rw [Z1N (h id (by simp [vids]))]
 | v x=>
  cases x with
  | sl xs=>cases xs<;>rfl
  | _=>rfl
 | _=>rfl
theorem isNilP_agree {G G2:Heap} {p:PV} (h:Agree G G2 (vids p)):Z25 G2 p=Z25 G p:=by
 cases p with
 | ptr id ver off=>simp only [Z25];rw [Z1N (h id (by simp [vids]))]
 | v x=>cases x<;>rfl
 | _=>rfl
theorem binD_agree {P:Program} {G G2:Heap} {op:BinOp} {t:TypeId} {x y:PV} (h:Agree G G2 (vids x)):binD P G2 op t x y=binD P G op t x y:=by
 have hn:=isNil_agree h
 have hn2:=isNilP_agree h
 unfold binD
 split<;>(try rfl)
 ·rw [hn]
 ·rw [hn2]
theorem binD_pure {P:Program} {G G2:Heap} {op:BinOp} {t:TypeId} {x y:PV} (h1:op ≠ .eql) (h2:op ≠ .neq):binD P G2 op t x y=binD P G op t x y:=by
 unfold binD
 split<;>(try rfl)
 ·cases op<;>simp_all
 ·cases op<;>simp_all
theorem storeD_agree {P:Program} {G:Heap} {t:TypeId} {x p:PV} {G':Heap} (hs:Z0N P G t x p=some G') :
  ∃ k en,G'=G.put k en/\k∈vids p/\∀ G2,Agree G G2 (vids p)->Z0N P G2 t x p=some (G2.put k en):=by
 cases p<;>simp only [Z0N] at hs<;>(try (cases hs;done))
 rename_i id ver off
 split at hs
 ·rename_i e cells hen
  split at hs
  ·rename_i hv
   split at hs
   ·rename_i n cs hn hcs
    split at hs
    ·rename_i hc;cases hs;refine ⟨id,_,rfl,by simp [vids],λG2 h=>?_⟩
     simp only [Z0N];rw [h id (by simp [vids]),hen]
     simp only;rw [if_pos hv,hn,hcs];simp only;rw [if_pos hc]
    ·cases hs
   ·cases hs
  ·cases hs
 ·cases hs
theorem Z2r {G G2:Heap} {sz:Nat} {p:PV} (h:Agree G G2 (vids p)):Z1H G2 sz p=Z1H G sz p:=by
 cases p with
 | buf id len s=>simp only [Z1H];rw [h id (by simp [vids])]
 | view id tot l n s=>simp only [Z1H];rw [h id (by simp [vids])]
 | v x=>cases x<;>rfl
 | _=>rfl
theorem appendD_agree {P:Program} {G:Heap} {id0:Nat} {t:TypeId} {x y z:PV} {G':Heap} (hs:Z0D P G id0 t x y=some (z,G')) :
  ∃ δ,G'=appl G δ/\(∀ k en,(k,en)∈δ->k=id0\/k∈vids x) /\
   ∀ G2,Agree G G2 (vids x)->Agree G G2 (vids y)->Z0D P G2 id0 t x y=some (z,appl G2 δ):=by
 unfold Z0D at hs
 split at hs
 ·cases hs
 ·rename_i el hel
  split at hs
  ·rename_i sz by_ hsz hby
   split at hs
   ·cases hs
   ·rename_i ys m hbr
    split at hs
    ·cases hs
    ·rename_i hz;have red:∀ G2,Agree G G2 (vids y)->Z1H G2 sz y=some (ys,m):=λG2 h=>(Z2r h).trans hbr
     split at hs
     ·split at hs
      ·rename_i hm;cases hs;exact ⟨[],rfl,by simp,λG2 _ hy=>by simp only [Z0D,hel,hsz,hby,red G2 hy,if_neg hz,if_pos hm,ZH,ZI]⟩
      ·rename_i hm
       split at hs
       ·rename_i hr;cases hs;exact ⟨[(id0,_)],rfl,by intro k en h;rw [YZ] at h;cases h;exact .inl rfl,λG2 _ hy=>by simp only [Z0D,hel,hsz,hby,red G2 hy,if_neg hz,if_neg hm,if_pos hr,ZH,ZI]⟩
       ·cases hs
     ·split at hs
      ·cases hs
      ·rename_i hm
       split at hs
       ·rename_i hr;cases hs;exact ⟨[(id0,_)],rfl,by intro k en h;rw [YZ] at h;cases h;exact .inl rfl,λG2 _ hy=>by simp only [Z0D,hel,hsz,hby,red G2 hy,if_neg hz,if_neg hm,if_pos hr,ZH,ZI]⟩
       ·cases hs
     ·rename_i id len s
      split at hs
      ·rename_i e' cells hen
       split at hs
       ·rename_i hr;cases hs;exact ⟨[(id,_)],rfl,by intro k en h;rw [YZ] at h;cases h;exact .inr (by simp [vids]),λG2 hx hy=>by
         have hid:=hx id (by simp [vids])
         simp only [Z0D,hel,hsz,hby,red G2 hy,if_neg hz,hid,hen,if_pos hr,ZH,ZI]⟩
       ·cases hs
      ·cases hs
     ·cases hs
  ·cases hs
theorem copyD_agree {P:Program} {G:Heap} {t:TypeId} {x y z:PV} {G':Heap} (hs:Z3v P G t x y=some (z,G')) :
  ∃ δ,G'=appl G δ/\(∀ k en,(k,en)∈δ->k∈vids x) /\
   ∀ G2,Agree G G2 (vids x)->Agree G G2 (vids y)->Z3v P G2 t x y=some (z,appl G2 δ):=by
 unfold Z3v at hs
 split at hs
 ·cases hs
 ·rename_i el hel
  split at hs
  ·cases hs
  ·rename_i sz hsz
   split at hs
   ·rename_i ys m id len s hbr
    split at hs
    ·rename_i e' cells hen
     split at hs
     ·rename_i hr;cases hs;exact ⟨[(id,_)],rfl,by intro k en h;rw [YZ] at h;cases h;simp [vids],λG2 hx hy=>by
       have hid:=hx id (by simp [vids])
       have hb:=(Z2r (sz:=sz) hy).trans hbr;simp only [Z3v,hel,hsz,hb,hid,hen,if_pos hr,ZH,ZI]⟩
     ·cases hs
    ·cases hs
   ·rename_i ys m id tot l len s hbr
    split at hs
    ·rename_i e' cells hen
     split at hs
     ·rename_i hr;cases hs;exact ⟨[(id,_)],rfl,by intro k en h;rw [YZ] at h;cases h;simp [vids],λG2 hx hy=>by
       have hid:=hx id (by simp [vids])
       have hb:=(Z2r (sz:=sz) hy).trans hbr;simp only [Z3v,hel,hsz,hb,hid,hen,if_pos hr,ZH,ZI]⟩
     ·cases hs
    ·cases hs
   ·cases hs
structure CallPure (X:Ctx) (call:ZK):Prop where
 calm:∀ f args G r G',call (.fn f) args G=some (r,G')->args.all PV.calm=true->X.opn f=false->X.keep f=false->G'=G/\∀ G2,call (.fn f) args G2=some (r,G2)
 shut:∀ f args G r G',call (.fn f) args G=some (r,G')->X.shut f=true->X.keep f=true->X.opn f=false->args.all PV.pure=false->G'=G/\∀ G2,G2.nx=G.nx->(∀ k∈args.flatMap vids,G2.ent k=G.ent k)->call (.fn f) args G2=some (r,G2)
 fresh:∀ f args G r G',call (.fn f) args G=some (r,G')->X.fresh f=true->X.opn f=true->X.keep f=false->args.all PV.pure=true->∃ ρ,G'=G.join ρ/\(∀ k,k<G.nx->ρ.ent k = .none)/\G.nx<=ρ.nx/\∀ G2,G2.nx=G.nx->call (.fn f) args G2=some (r,G2.join ρ)
theorem Z0m {G G2:Heap} {op:Op} {x:Operand} {p:PV} (h:∀ k∈touched X e op,G2.ent k=G.ent k) (hx:x∈ZB op) (hp:Z0 X e x=some p):Agree G G2 (vids p):=λk hk=>
 h k (by
  unfold touched;rw [List.mem_flatMap];exact ⟨x,hx,by rw [hp];exact hk⟩)
theorem Z29 {op:Op} {x:Operand} {p:PV} {k:Nat} (hx:x∈ZB op) (hp:Z0 X e x=some p) (hk:k∈vids p):k∈touched X e op:=by
 unfold touched
 rw [List.mem_flatMap]
 exact ⟨x,hx,by rw [hp];exact hk⟩
theorem Z2Q:∀ {xs:List Operand} {ys:List PV},ZC X e xs=some ys->∀ {i:Nat} {y:PV},ys[i]? = some y->∃ x∈xs,Z0 X e x=some y
 | [],ys,h,i,y,hi=>by simp [ZC] at h;subst h;simp at hi
 | x::xs,ys,h,i,y,hi=>by
  simp only [ZC,Y9,YA] at h;obtain ⟨z,hz,zs,hzs,rfl⟩:=h
  cases i with
  | zero=>simp at hi;subst hi;exact ⟨x,by simp,hz⟩
  | succ i=>
   obtain ⟨x',h1,h2⟩:=Z2Q hzs (by simpa using hi)
   exact ⟨x',by simp [h1],h2⟩
theorem Z2A (G:Heap) (δ δ':List (Nat×Ent)):appl G (δ++δ')=appl (appl G δ) δ':=by simp [appl]
theorem Z69:∀ (δ:List (Nat×Ent)) {G G2:Heap} {k:Nat},G2.ent k=G.ent k->(appl G2 δ).ent k=(appl G δ).ent k
 | [],_,_,_,h=>h
 | (j,en)::δ,G,G2,k,h=>by
  show (appl (G2.put j en) δ).ent k=(appl (G.put j en) δ).ent k;refine Z69 δ ?_;simp only [Heap.put,upd]
  split
  ·rfl
  ·exact h
def Frz {β:Type} (F:Heap->Option (β×Heap)) (G:Heap) (ids:List Nat) (y:β) (G':Heap):Prop :=
 ∃ δ,G'=appl G δ/\(∀ k en,(k,en)∈δ->k∈ids)/\∀ G2,(∀ k∈ids,G2.ent k=G.ent k)->F G2=some (y,appl G2 δ)
theorem Frz.refl {β:Type} {F:Heap->Option (β×Heap)} {G:Heap} {ids:List Nat} {y:β} (h:∀ G2,F G2=some (y,G2)):Frz F G ids y G:=⟨[],rfl,by simp,λG2 _=>h G2⟩
theorem Z5g {G G':Heap} {x y:PV} (h:Z1F G x=some (y,G')):Frz (λG=>Z1F G x) G (bufId x) y G':=by
 cases x<;>simp only [Z1F] at h<;>(try (cases h;done))
 ·cases h;exact Frz.refl λ_=>rfl
 ·cases h;exact Frz.refl λ_=>rfl
 ·cases h;exact Frz.refl λ_=>rfl
 ·rename_i id len sz
  split at h
  ·rename_i el cells lv hb
   split at h
   ·rename_i hc;rw [Y3] at h;obtain ⟨fs,hfs,h⟩:=h;cases h;refine ⟨[(id,.blk el cells false)],rfl,by simp [bufId],λG2 hA=>?_⟩
    have:=hA id (by simp [bufId])
    simp only [Z1F,this,hb,if_pos hc,hfs,YE]
    rfl
   ·cases h
  ·cases h
theorem Frz.then {β γ ζ:Type} {F:Heap->Option (β×Heap)} {Gg:Heap->Option (γ×Heap)} {f:β->γ->ζ} {G G1 G2:Heap} {ids ids':List Nat} {y:β} {z:γ} (h:Frz F G ids y G1) (h':Frz Gg G1 ids' z G2) :
  Frz (λG=>(F G).bind λr=>(Gg r.2).bind λq=>some (f r.1 q.1,q.2)) G (ids++ids') (f y z) G2:=by
 obtain ⟨δ,rfl,k1,l1⟩:=h
 obtain ⟨δ',rfl,k2,l2⟩:=h'
 refine ⟨δ++δ',(Z2A _ _ _).symm,λk en hk=>?_,λG3 hA=>?_⟩
 ·rcases List.mem_append.1 hk with h|h
  ·exact Y01 _ (k1 k en h)
  ·exact Yy _ (k2 k en h)
 ·have e1:=l1 G3 λk hk=>hA k (Y01 _ hk);have e2:=l2 (appl G3 δ) λk hk=>Z69 δ (hA k (Yy _ hk));simp only [e1,e2,Y4,Z2A]
theorem Frz.sub {β:Type} {F:Heap->Option (β×Heap)} {G G':Heap} {ids ids':List Nat} {y:β} (h:Frz F G ids y G') (hs:∀ k∈ids,k∈ids'):Frz F G ids' y G':=by
 obtain ⟨δ,e,k1,l1⟩:=h
 exact ⟨δ,e,λk en hk=>hs k (k1 k en hk),λG2 hA=>l1 G2 λk hk=>hA k (hs k hk)⟩
theorem Frz.map {β γ:Type} {F:Heap->Option (β×Heap)} {f:β->γ} {G G':Heap} {ids:List Nat} {y:β} (h:Frz F G ids y G'):Frz (λG=>(F G).bind λr=>some (f r.1,r.2)) G ids (f y) G':=by
 obtain ⟨δ,e,k1,l1⟩:=h
 exact ⟨δ,e,k1,λG2 hA=>by simp only [l1 G2 hA,Y4]⟩
theorem Z4V:∀ {xs ys:List PV} {G G':Heap},Z0o G xs=some (ys,G')->Frz (λG=>Z0o G xs) G (xs.flatMap bufId) ys G'
 | [],ys,G,G',h=>by
  simp only [Z0o,YA,Y5] at h;obtain ⟨rfl,rfl⟩:=h;exact Frz.refl λ_=>rfl
 | x::xs,ys,G,G',h=>by
  simp only [Z0o,Y9,YA,Y5] at h;obtain ⟨⟨y,G1⟩,h1,⟨zs,G2⟩,h2,rfl,rfl⟩:=h;exact (Z5g h1).then (f:=List.cons) (Z4V h2)
theorem frzVal_loc {G G':Heap} {x y:PV} (h:Z0f G x=some (y,G')):Frz (λG=>Z0f G x) G (Z2P x) y G':=by
 cases x with
 | agg cs=>
  simp only [Z0f,Y9,YA,Y5] at h;obtain ⟨⟨ys,G1⟩,h1,rfl,rfl⟩:=h;have:=(Z4V h1).map (f:=PV.agg)
  simpa only [Z0f,Z2P] using this
 | _=>
  simp only [Z0f] at h ⊢;exact Z5g h
theorem Z2q:∀ {ps qs:List (Nat×PV)} {G G':Heap},Zj G ps=some (qs,G')->Frz (λG=>Zj G ps) G (ps.flatMap λp=>Z2P p.2) qs G'
 | [],qs,G,G',h=>by
  simp only [Zj,YA,Y5] at h;obtain ⟨rfl,rfl⟩:=h;exact Frz.refl λ_=>rfl
 | p::ps,qs,G,G',h=>by
  simp only [Zj] at h
  split at h
  ·rename_i hn;simp only [Y9,YA,Y5] at h;obtain ⟨⟨y,G1⟩,e1,⟨q,G2⟩,e2,rfl,rfl⟩:=h;have:=(frzVal_loc e1).then (f:=λy q=>(p.1,y)::q) (Z2q e2)
   simpa only [Zj,hn,if_true,YI] using this
  ·rename_i hn;simp only [Y9,YA,Y5] at h;obtain ⟨⟨q,G2⟩,e2,rfl,rfl⟩:=h;have:=((Z2q e2).map (f:=λq=>p::q)).sub (ids':=(p::ps).flatMap λp=>Z2P p.2) λk hk=>by
    rw [YI];exact Yy _ hk
   simpa only [Zj,hn,YF,if_false] using this
theorem frzPs_loc {b:Bool} {ps qs:List (Nat×PV)} {G G':Heap} (h:Z43 b G ps=some (qs,G')):Frz (λG=>Z43 b G ps) G (bif b then [] else ps.flatMap λp=>Z2P p.2) qs G':=by
 cases b with
 | false=>exact Z2q h
 | true=>
  simp only [Z43,YA,Y5] at h;obtain ⟨rfl,rfl⟩:=h;exact Frz.refl λ_=>rfl
theorem stepOp_local {call:ZK} (hcp:CallPure X call) {ops:Array Oper} {base i:Nat} {o:Oper} {G:Heap} {id:Nat} {x:PV} {G':Heap} (hask:ZL X ops base i o e=true) (h:Z1 X call e G id o.op=some (x,G')) :
  ∃ δ,G'=appl G δ/\(∀ k en,(k,en)∈δ->k=id\/(isW o.op=true/\k∈touched X e o.op)\/k∈frozen X e o.op) /\
   ∀ G2,(isRW o.op=true->∀ k∈touched X e o.op,G2.ent k=G.ent k)->(∀ k∈frozen X e o.op,G2.ent k=G.ent k)->Z1 X call e G2 id o.op=some (x,appl G2 δ):=by
 unfold ZL at hask
 cases hop:o.op<;>rw [hop] at h hask<;>simp only [Z1] at h<;>(try (cases h;done))
 case move y=>
  simp only [Y3,Y5] at h;obtain ⟨z,hz,rfl,rfl⟩:=h;exact ⟨[],rfl,by simp,λG2 _ _=>by simp [Z1,hz,ZH,ZI]⟩
 case assign y=>
  simp only [Y3,Y5] at h;obtain ⟨z,hz,rfl,rfl⟩:=h;exact ⟨[],rfl,by simp,λG2 _ _=>by simp [Z1,hz,ZH,ZI]⟩
 case pick c y z=>
  split at h
  ·rename_i hc;simp only [Y3,Y5] at h;obtain ⟨q,hq,rfl,rfl⟩:=h;exact ⟨[],rfl,by simp,λG2 _ _=>by simp [Z1,hc,hq,ZH,ZI]⟩
  ·rename_i hc;simp only [Y3,Y5] at h;obtain ⟨q,hq,rfl,rfl⟩:=h;exact ⟨[],rfl,by simp,λG2 _ _=>by simp [Z1,hc,hq,ZH,ZI]⟩
  ·cases h
 case alloc t=>
  simp only [Y3,newD,Y5] at h;obtain ⟨z,hz,rfl,rfl⟩:=h;exact ⟨[(id,_)],rfl,by intro k en h;rw [YZ] at h;cases h;exact .inl rfl,λG2 _ _=>by simp [Z1,hz,ZH,ZI,newD]⟩
 case box t y=>
  simp only [Y3,newD,Y5] at h;obtain ⟨z,hz,rfl,rfl⟩:=h;exact ⟨[(id,_)],rfl,by intro k en h;rw [YZ] at h;cases h;exact .inl rfl,λG2 _ _=>by simp [Z1,hz,ZH,ZI,newD]⟩
 case build t ps=>
  simp only [Y3,Y5] at h;obtain ⟨z,hz,rfl,rfl⟩:=h;exact ⟨[],rfl,by simp,λG2 _ _=>by simp [Z1,hz,ZH,ZI]⟩
 case buildSlice t len ps=>
  unfold Z08 at h;simp only [Y9] at h;obtain ⟨qs,h2,⟨qs',G1⟩,hq,h⟩:=h;have hfz:frozen X e (.buildSlice t len ps)=(bif X.hold t ps.toList then [] else qs.flatMap λp=>Z2P p.2):=by
   simp only [frozen,h2];cases X.hold t ps.toList<;>rfl
  obtain ⟨δ,rfl,hk,hl⟩:=frzPs_loc hq;unfold Z0V at h
  split at h
  ·rename_i el h1
   split at h
   ·rename_i sz z h3 h4
    split at h
    ·rename_i hc;simp only [Y3,Y5] at h;obtain ⟨cs,hcs,rfl,rfl⟩:=h;refine ⟨δ++[(id,_)],by rw [Z2A];rfl,λk en hm=>?_,λG2 _ hF=>?_⟩
     ·rcases List.mem_append.1 hm with hm|hm
      ·exact .inr (.inr (hfz▸hk k en hm))
      ·rw [YZ] at hm;cases hm;exact .inl rfl
     ·have hq2:=hl G2 (hfz▸hF);simp only [Z1,Z08,Z0V,h1,h2,h3,h4,if_pos hc,hcs,YE,Y4,hq2,Z2A]
      rfl
    ·cases h
   ·cases h
  ·cases h
 case load t y=>
  simp only [Y3,Y9,Y5] at h;obtain ⟨z,⟨p,hp,hz⟩,rfl,rfl⟩:=h;refine ⟨[],rfl,by simp,λG2 hA _=>?_⟩
  have:=loadD_agree (P:=X.P) (t:=t) (Z0m (hA rfl) (by simp [ZB]) hp)
  simp [Z1,hp,this,hz,ZH,ZI]
 case store t y z=>
  split at h
  ·rename_i p q hp hq;simp only [Y3,Y5] at h;obtain ⟨G1,hs,rfl,rfl⟩:=h;obtain ⟨k,en,rfl,hk,h2⟩:=storeD_agree hs;refine ⟨[(k,en)],rfl,by intro k' en' h;rw [YZ] at h;cases h;exact .inr (.inl ⟨rfl,Z29 (by simp [ZB]) hp hk⟩),λG2 hA _=>?_⟩
   simp [Z1,hp,hq,h2 G2 (Z0m (hA rfl) (by simp [ZB]) hp),ZH,ZI]
  ·cases h
 case nilCheck y=>
  split at h
  ·rename_i id' ver off hy
   split at h
   ·rename_i hc;cases h;refine ⟨[],rfl,by simp,λG2 hA _=>?_⟩
    have:=Z1N (k:=ver) ((Z0m (hA rfl) (by simp [ZB]) hy) id' (by simp [vids]))
    simp [Z1,hy,this,hc,ZH,ZI]
   ·cases h
  all_goals first
   | (rename_i hy;cases h;exact ⟨[],rfl,by simp,λG2 _ _=>by simp [Z1,hy,ZH,ZI]⟩)
   | (cases h;done)
 case binOp op t y z ty=>
  split at h
  ·rename_i p q hp hq;simp only [Y3,Y5] at h;obtain ⟨r,hr,rfl,rfl⟩:=h;refine ⟨[],rfl,by simp,λG2 hA _=>?_⟩
   have:binD X.P G2 op t p q=binD X.P G op t p q:=by
    by_cases hk:op = .eql\/op = .neq
    ·have hrw:isRW (.binOp op t y z ty)=true:=by rcases hk with rfl|rfl<;>rfl
     exact binD_agree (Z0m (hA hrw) (by simp [ZB]) hp)
    ·exact binD_pure (λh=>hk (.inl h)) (λh=>hk (.inr h))
   simp [Z1,hp,hq,this,hr,ZH,ZI]
  ·cases h
 case unOp op t y=>
  simp only [Y3,Y5] at h;obtain ⟨z,hz,rfl,rfl⟩:=h;exact ⟨[],rfl,by simp,λG2 _ _=>by simp [Z1,hz,ZH,ZI]⟩
 case convert a b y=>
  simp only [Y3,Y5] at h;obtain ⟨z,hz,rfl,rfl⟩:=h;exact ⟨[],rfl,by simp,λG2 _ _=>by simp [Z1,hz,ZH,ZI]⟩
 case makeFunc fn f c=>
  cases fn with
  | func g=>
   simp only at h
   split at h
   ·rename_i h1 h2;cases h;exact ⟨[],rfl,by simp,λG2 _ _=>by simp [Z1,h1,h2,ZH,ZI]⟩
   ·rename_i h1 h2 hne;cases h;refine ⟨[],rfl,by simp,λG2 _ _=>?_⟩
    simp only [Z1,h1,h2,ZH,ZI]
    split
    ·simp_all
    ·simp_all
    ·simp_all
   ·cases h
  | _=>simp at h
 case makeSlice t y z=>
  split at h
  ·rename_i p q hp hq;unfold makeD at h
   split at h
   ·rename_i el l c h1
    split at h
    ·rename_i sz by_ zl h2 h3 h4
     split at h
     ·rename_i hc;cases h;refine ⟨[(id,_)],rfl,by intro k en h;rw [YZ] at h;cases h;exact .inl rfl,λG2 _ _=>?_⟩
      simp only [Z1,hp,hq,makeD,h1,h2,h3,h4,if_pos hc,ZH,ZI]
     ·cases h
    ·cases h
   ·cases h
  ·cases h
 case slice t y lo hi mx=>
  simp only [ZZ] at hask
  split at h
  ·rename_i h1 h2 h3 h4;simp only [h1] at hask;rw [if_pos hask] at h;simp only [Y3,Y5] at h;obtain ⟨r,hr,rfl,rfl⟩:=h;refine ⟨[],rfl,by simp,λG2 _ _=>?_⟩
   simp only [Z1,h1,h2,h3,h4,if_pos hask,ZH,ZI,hr,YE]
  ·rename_i p q1 q2 q3 hnb h1 h2 h3 h4;simp only [Y3,Y5] at h;obtain ⟨r,hr,rfl,rfl⟩:=h;refine ⟨[],rfl,by simp,λG2 _ _=>?_⟩
   simp only [Z1,h1,h2,h3,h4,ZH,ZI,hr,YE]
  ·cases h
 case fieldAddr t y f=>
  simp only [Y3,Y9,Y5] at h;obtain ⟨z,⟨p,hp,hz⟩,rfl,rfl⟩:=h;refine ⟨[],rfl,by simp,λG2 hA _=>?_⟩
  have:=Z5F (P:=X.P) (t:=t) (f:=f) (Z0m (hA rfl) (by simp [ZB]) hp)
  simp [Z1,hp,this,hz,ZH,ZI]
 case field t y f=>
  simp only [Y3,Y5] at h;obtain ⟨z,hz,rfl,rfl⟩:=h;exact ⟨[],rfl,by simp,λG2 _ _=>by simp [Z1,hz,ZH,ZI]⟩
 case indexAddr t y z=>
  split at h
  ·rename_i p q hp hq;simp only [Y3,Y5] at h;obtain ⟨r,hr,rfl,rfl⟩:=h;refine ⟨[],rfl,by simp,λG2 hA _=>?_⟩
   have:=Z5E (P:=X.P) (t:=t) (i:=q) (Z0m (hA rfl) (by simp [ZB]) hp)
   simp [Z1,hp,hq,this,hr,ZH,ZI]
  ·cases h
 case index t y z=>
  split at h
  ·rename_i p q hp hq;simp only [Y3,Y5] at h;obtain ⟨r,hr,rfl,rfl⟩:=h;exact ⟨[],rfl,by simp,λG2 _ _=>by simp [Z1,hp,hq,hr,ZH,ZI]⟩
  ·cases h
 case extract y k=>
  split at h
  ·rename_i xs hy;simp only [Y3,Y5] at h;obtain ⟨r,hr,rfl,rfl⟩:=h;exact ⟨[],rfl,by simp,λG2 _ _=>by simp [Z1,hy,hr,ZH,ZI]⟩
  ·cases h
 case call c=>
  unfold ZO at h
  split at h
  ·cases h
  ·rename_i args hargs
   split at h
   ·rename_i b hc;have hlk:ZB (.call c)=c.args.toList:=by simp [ZB,hc]
    have memA:∀ {j:Nat} {y:PV},args[j]? = some y->∃ w∈ZB (.call c),Z0 X e w=some y:=λhj=>by
     obtain ⟨w,h1,h2⟩:=Z2Q hargs hj;exact ⟨w,by rw [hlk];exact h1,h2⟩
    have red:∀ G2,Z1 X call e G2 id (.call c)=Zf X.P G2 id b c.argTypes.toList args:=λG2=>by simp only [Z1,ZO,hargs,hc]
    unfold Zf at h
    split at h
    ·rename_i t y hts;simp only [Y3,Y5] at h;obtain ⟨r,hr,rfl,rfl⟩:=h;refine ⟨[],rfl,by simp,λG2 hA _=>?_⟩
     obtain ⟨w,w1,w2⟩:=memA (j:=0) (y:=y) (by simp)
     have hrw:isRW (.call c)=true:=by simp [isRW,ZZ,hc]
     rw [red,hts];have:=lenD_agree (P:=X.P) (t:=t) (Z0m (hA hrw) w1 w2);simp [Zf,this,hr,ZH,ZI]
    ·rename_i t t' y z hts
     split at h
     ·rename_i ht;have hrw:isRW (.call c)=true:=by simp [isRW,ZZ,hc]
      have hw:isW (.call c)=true:=by simp [isW,ZZ,hc]
      obtain ⟨wy,y1,y2⟩:=memA (j:=0) (y:=y) (by simp)
      obtain ⟨wz,z1,z2⟩:=memA (j:=1) (y:=z) (by simp)
      obtain ⟨δ,d1,d2,d3⟩:=appendD_agree h;refine ⟨δ,d1,λk en hk=>(d2 k en hk).imp (λh=>h) λhm=>.inl ⟨hw,Z29 y1 y2 hm⟩,λG2 hA _=>?_⟩;rw [red,hts];simp only [Zf,ht,if_true];subst ht;exact d3 G2 (Z0m (hA hrw) y1 y2) (Z0m (hA hrw) z1 z2)
     ·cases h
    ·rename_i t t' y z hts;have hrw:isRW (.call c)=true:=by simp [isRW,ZZ,hc]
     have hw:isW (.call c)=true:=by simp [isW,ZZ,hc]
     obtain ⟨wy,y1,y2⟩:=memA (j:=0) (y:=y) (by simp)
     obtain ⟨wz,z1,z2⟩:=memA (j:=1) (y:=z) (by simp)
     obtain ⟨δ,d1,d2,d3⟩:=copyD_agree h;refine ⟨δ,d1,λk en hk=>.inr (.inl ⟨hw,Z29 y1 y2 (d2 k en hk)⟩),λG2 hA _=>?_⟩;rw [red,hts];simp only [Zf];exact d3 G2 (Z0m (hA hrw) y1 y2) (Z0m (hA hrw) z1 z2)
    ·simp only [Y3,Y5] at h;obtain ⟨r,hr,rfl,rfl⟩:=h;exact ⟨[],rfl,by simp,λG2 hA _=>by rw [red];simp [Zf,hr,ZH,ZI]⟩
    ·simp only [Y3,Y5] at h;obtain ⟨r,hr,rfl,rfl⟩:=h;exact ⟨[],rfl,by simp,λG2 hA _=>by rw [red];simp [Zf,hr,ZH,ZI]⟩
    ·cases h
   ·cases h
   ·rename_i f hc;simp only [ZZ,hc,hargs,Z2g] at hask
    split at h
    ·rename_i g hf;simp only [hf,YD,YV] at hask;obtain ⟨rfl,h2⟩:=hcp.calm g args G x G' h hask.1.1 hask.1.2 hask.2;exact ⟨[],rfl,by simp,λG2 _ _=>by simp [Z1,ZO,hargs,hc,hf,h2,ZH,ZI]⟩
    ·rename_i g fi ca hf;simp only [hf,YD,YV] at hask;obtain ⟨⟨⟨⟨q1,q2⟩,q3⟩,q4⟩,q5⟩:=hask;obtain ⟨rfl,h2⟩:=hcp.calm g _ G x G' h (by simp only [List.all_append,q1,q2,q3,Yt]) q4 q5
     exact ⟨[],rfl,by simp,λG2 _ _=>by
      have h3:=h2 G2;simp only [Yu] at h3;simp [Z1,ZO,hargs,hc,hf,h3,ZH,ZI]⟩
    ·rename_i id' hf;simp [hf] at hask
    ·cases h
theorem Z6c {call:ZK} {G G':Heap} {id:Nat} {op:Op} {x:PV} (hq:quiet op=true) (h:Z1 X call e G id op=some (x,G')):G'=G:=by
 cases op<;>simp only [quiet,YF] at hq<;>simp only [Z1] at h
 case nilCheck y=>
  split at h
  ·split at h<;>cases h;rfl
  all_goals first
   | (cases h;rfl;done)
   | (cases h;done)
 case makeFunc fn f c=>
  cases fn<;>simp only [YF] at hq h
  split at h<;>cases h<;>rfl
 case call c=>
  unfold ZO at h
  split at h
  ·cases h
  ·split at h
   ·rename_i b hc;rw [hc] at hq;unfold Zf at h
    split at h
    ·simp only [Y3,Y5] at h;obtain ⟨_,_,_,rfl⟩:=h;rfl
    ·simp at hq
    ·simp at hq
    ·simp only [Y3,Y5] at h;obtain ⟨_,_,_,rfl⟩:=h;rfl
    ·simp only [Y3,Y5] at h;obtain ⟨_,_,_,rfl⟩:=h;rfl
    ·cases h
   ·cases h
   ·rename_i f hc;rw [hc] at hq;simp at hq
 all_goals first
  | (simp only [Y3,Y5] at h;obtain ⟨_,_,_,rfl⟩:=h;rfl;done)
  | (split at h<;>first
    | (simp only [Y3,Y5] at h;obtain ⟨_,_,_,rfl⟩:=h;rfl)
    | (cases h;done))
theorem Alike.refl (a:Ent):Alike a a:=.inl rfl
theorem Alike.symm {a b:Ent} (h:Alike a b):Alike b a:=by
 rcases h with rfl|⟨el,c,l,l',rfl,rfl⟩
 ·exact .inl rfl
 ·exact .inr ⟨el,c,l',l,rfl,rfl⟩
theorem Alike.trans {a b c:Ent} (h:Alike a b) (h':Alike b c):Alike a c:=by
 rcases h with rfl|⟨el,cs,l,l',rfl,rfl⟩
 ·exact h'
 ·rcases h' with rfl|⟨el2,cs2,m,m',h1,rfl⟩
  ·exact .inr ⟨el,cs,l,l',rfl,rfl⟩
  ·cases h1;exact .inr ⟨el,cs,l,m',rfl,rfl⟩
def Z3C (G G2:Heap) (l:List Nat):Prop:=∀ k∈l,Alike (G.ent k) (G2.ent k)
theorem Z1M {G G2:Heap} {id k:Nat} (h:Alike (G.ent id) (G2.ent id)):G2.cur id k=G.cur id k:=by
 rcases h with h|⟨el,c,l,l',h1,h2⟩
 ·simp only [Heap.cur,h]
 ·simp only [Heap.cur,h1,h2]
theorem loadD_alike {P:Program} {G G2:Heap} {t:TypeId} {p:PV} (h:Z3C G G2 (vids p)):Z05 P G2 t p=Z05 P G t p:=by
 cases p with
 | ptr id ver off=>
  simp only [Z05];rcases h id (by simp [vids]) with h|⟨el,c,l,l',h1,h2⟩
  ·rw [h]
  ·rw [h1,h2]
 | _=>rfl
theorem lenD_alike {P:Program} {G G2:Heap} {t:TypeId} {p:PV} (h:Z3C G G2 (vids p)):lenD P G2 t p=lenD P G t p:=by
 cases p with
 | buf id len sz=>simp only [lenD];rw [Z1M (h id (by simp [vids]))]
 | v x=>cases x<;>rfl
 | _=>rfl
theorem Z55 {P:Program} {G G2:Heap} {t:TypeId} {p i:PV} (h:Z3C G G2 (vids p)):Zo P G2 t p i=Zo P G t p i:=by
 cases p with
 | buf id len sz=>simp only [Zo];rw [Z1M (h id (by simp [vids]))]
 | ptr id ver off=>simp only [Zo];rw [Z1M (h id (by simp [vids]))]
 | v x=>cases x<;>rfl
 | _=>rfl
theorem Z5D {P:Program} {G G2:Heap} {t:TypeId} {p:PV} {f:Nat} (h:Z3C G G2 (vids p)):Z02 P G2 t p f=Z02 P G t p f:=by
 cases p with
 | ptr id ver off=>simp only [Z02];rw [Z1M (h id (by simp [vids]))]
 | _=>rfl
theorem isNil_alike {G G2:Heap} {p:PV} (h:Z3C G G2 (vids p)):Z36 G2 p=Z36 G p:=by
 cases p with
 | buf id len sz=>simp only [Z36];rw [Z1M (h id (by simp [vids]))]
 | v x=>
  cases x with
  | sl xs=>cases xs<;>rfl
  | _=>rfl
 | _=>rfl
theorem isNilP_alike {G G2:Heap} {p:PV} (h:Z3C G G2 (vids p)):Z25 G2 p=Z25 G p:=by
 cases p with
 | ptr id ver off=>simp only [Z25];rw [Z1M (h id (by simp [vids]))]
 | v x=>cases x<;>rfl
 | _=>rfl
theorem binD_alike {P:Program} {G G2:Heap} {op:BinOp} {t:TypeId} {x y:PV} (h:Z3C G G2 (vids x)):binD P G2 op t x y=binD P G op t x y:=by
 have hn:=isNil_alike h
 have hn2:=isNilP_alike h
 unfold binD
 split<;>(try rfl)
 ·rw [hn]
 ·rw [hn2]
theorem Z1v {G G2:Heap} {op:Op} {x:Operand} {p:PV} (h:∀ k∈touched X e op,Alike (G.ent k) (G2.ent k)) (hx:x∈ZB op) (hp:Z0 X e x=some p):Z3C G G2 (vids p):=λk hk=>h k (Z29 hx hp hk)
theorem quiet_alike {call:ZK} {G G2:Heap} {id:Nat} {op:Op} {x:PV} (hq:quiet op=true) (h:Z1 X call e G id op=some (x,G)) (hA:isRW op=true->∀ k∈touched X e op,Alike (G.ent k) (G2.ent k)):Z1 X call e G2 id op=some (x,G2):=by
 cases op<;>simp only [quiet,YF] at hq<;>simp only [Z1] at h ⊢
 case load t y=>
  simp only [Y3,Y9,Y5] at h;obtain ⟨z,⟨p,hp,hz⟩,rfl,_⟩:=h;have:=loadD_alike (P:=X.P) (t:=t) (Z1v (hA rfl) (by simp [ZB]) hp)
  simp [hp,this,hz]
 case nilCheck y=>
  split at h
  ·rename_i id' ver off hy
   split at h
   ·rename_i hc;cases h;have:=Z1M (k:=ver) ((Z1v (hA rfl) (by simp [ZB]) hy) id' (by simp [vids]))
    simp [this,hc]
   ·cases h
  all_goals first
   | (cases h;rfl)
   | (cases h;done)
 case binOp op t y z ty=>
  split at h
  ·rename_i p q hp hq;simp only [Y3,Y5] at h;obtain ⟨r,hr,rfl,_⟩:=h;have:binD X.P G2 op t p q=binD X.P G op t p q:=by
    by_cases hk:op = .eql\/op = .neq
    ·have hrw:isRW (.binOp op t y z ty)=true:=by rcases hk with rfl|rfl<;>rfl
     exact binD_alike (Z1v (hA hrw) (by simp [ZB]) hp)
    ·exact binD_pure (λh=>hk (.inl h)) (λh=>hk (.inr h))
   simp [this,hr]
  ·cases h
 case fieldAddr t y f=>
  simp only [Y3,Y9,Y5] at h;obtain ⟨z,⟨p,hp,hz⟩,rfl,_⟩:=h;have:=Z5D (P:=X.P) (t:=t) (f:=f) (Z1v (hA rfl) (by simp [ZB]) hp)
  simp [hp,this,hz]
 case indexAddr t y z=>
  split at h
  ·rename_i p q hp hq;simp only [Y3,Y5] at h;obtain ⟨r,hr,rfl,_⟩:=h;have:=Z55 (P:=X.P) (t:=t) (i:=q) (Z1v (hA rfl) (by simp [ZB]) hp)
   simp [this,hr]
  ·cases h
 case makeFunc fn f c=>
  cases fn<;>simp only [YF] at hq h;simp only
  split at h<;>cases h<;>rfl
 case call c=>
  unfold ZO at h ⊢
  split at h
  ·cases h
  ·rename_i args hargs
   split at h
   ·rename_i b hc;rw [hc] at hq;have hlk:ZB (.call c)=c.args.toList:=by simp [ZB,hc]
    unfold Zf at h
    split at h
    ·rename_i t y hts;simp only [Y3,Y5] at h;obtain ⟨r,hr,rfl,_⟩:=h;obtain ⟨w,h1,h2⟩:=Z2Q (i:=0) (y:=y) hargs (by simp)
     have hrw:isRW (.call c)=true:=by simp [isRW,ZZ,hc]
     have:=lenD_alike (P:=X.P) (t:=t) (Z1v (hA hrw) (by rw [hlk];exact h1) h2)
     simp [Zf,hts,this,hr]
    ·simp at hq
    ·simp at hq
    ·simp only [Y3,Y5] at h;obtain ⟨r,hr,rfl,_⟩:=h;simp [Zf,hr]
    ·simp only [Y3,Y5] at h;obtain ⟨r,hr,rfl,_⟩:=h;simp [Zf,hr]
    ·cases h
   ·cases h
   ·rename_i f hc;rw [hc] at hq;simp at hq
 all_goals first
  | (simp only [Y3,Y5] at h;obtain ⟨z,hz,rfl,_⟩:=h;simp [hz];done)
  | (split at h<;>first
    | (simp only [Y3,Y5] at h;obtain ⟨z,hz,rfl,_⟩:=h;simp_all;done)
    | (cases h;done))
theorem quiet_frozen {op:Op} (hq:quiet op=true):frozen X e op=[]:=by
 cases op<;>simp only [quiet,YF] at hq<;>rfl
theorem Z3l {op:Op} (hq:quiet op=true):isW op=false/\ZZ op ≠ .call:=by
 cases op<;>simp only [quiet,YF] at hq<;>simp only [isW,ZZ]
 case binOp op _ _ _ _=>cases op<;>simp
 case makeFunc fn _ _=>cases fn<;>simp at hq ⊢
 case call c=>
  cases hc:c.callee with
  | builtin b=>rw [hc] at hq;cases b<;>simp at hq ⊢
  | _=>rw [hc] at hq;simp at hq
 all_goals simp
end Go.Dn
