/- Part 0 of what the row stands on. -/
import Derived.CallsIn
import Derived.RangeFuncIn
import Derived.RangeFuncLeaves
import Derived.OrdersIn
import Derived.Still
import Derived.Wp
import Derived.Laws.AppendOwn
import Derived.Laws.MakeOwn
import Derived.Laws.Slices
import Derived.Laws.Tables
import Derived.Laws.StructEq
set_option linter.unusedVariables false
set_option linter.unusedSimpArgs false
set_option linter.defProp false
namespace Go.Dn
def Y0:=@Option.map_eq_some_iff
def Y1:=@Option.bind_some
def Y2:=@Option.bind_eq_some_iff
def Y3:=@List.getElem?_eq_getElem
def Y4:=@Prod.mk.injEq
def Y5:=@Option.some.injEq
def Y6:=@List.mem_of_getElem?
def Y7:=@Array.getD_eq_getD_getElem?
def Y8:=@Bool.and_eq_true
def Y9:=@Option.map_some
def YA:=@Nat.le_refl
def YB:=@Bool.false_eq_true
def YC:=@List.all_eq_true
def YD:=@List.getElem?_of_mem
def YE:=@List.flatMap_cons
def YF:=@Nat.lt_or_ge
def YG:=@List.flatMap_nil
def YH:=@List.mem_cons_of_mem
def YI:=@List.getElem?_map
def YJ:=@List.getElem?_append_left
def YK:=@List.append_nil
def YL:=@Nat.lt_of_lt_of_le
def YM:=@List.getElem?_take
def YN:=@List.mem_cons_self
def YO:=@List.flatten_cons
def YP:=@List.getElem?_append_right
def YQ:=@Bool.not_eq_true'
def YR:=@List.length_take
def YS:=@Nat.mul_le_mul_right
def YT:=@Nat.le_trans
def YU:=@List.length_map
def YV:=@Array.getElem?_eq_getElem
def YW:=@Nat.zero_le
def YX:=@List.getElem?_drop
def YY:=@List.length_append
def YZ:=@List.mem_singleton
def Ya:=@List.getElem_mem
def Yb:=@List.mem_append
def Yc:=@List.length_cons
def Yd:=@List.mem_of_mem_take
def Ye:=@List.all_cons
def Yf:=@Nat.add_mul
def Yg:=@Array.toList_append
def Yh:=@Array.getElem?_append_left
def Yi:=@Bool.and_self
def Yj:=@Bool.or_eq_true
def Yk:=@List.size_toArray
def Yl:=@List.getElem?_eq_none
def Ym:=@Nat.le_of_ble_eq_true
def Yn:=@List.length_set
def Yo:=@Nat.add_sub_cancel_left
def Yp:=@List.set_eq_take_append_cons_drop
def Yq:=@List.append_assoc
def Yr:=@Array.getElem?_eq_none
def Ys:=@Array.length_toList
def Yt:=@List.flatten_append
def Yu:=@List.length_nil
def Yv:=@List.pairwise_iff_getElem
def Yw:=@Array.getElem?_toList
def Yx:=@List.mem_append_right
def Yy:=@Nat.eq_of_beq_eq_true
def Yz:=@List.map_cons
def Y00:=@List.mem_append_left
def Y01:=@List.getLast?_eq_some_getLast
def Y02:=@List.head?_eq_some_head
def Y03:=@List.map_append
def Y04:=@Int.emod_nonneg
def Y05:=@Nat.mul_one
def Y06:=@Bool.not_eq_true
def Y07:=@List.getD_eq_getElem?_getD
def Y08:=@List.take_append_drop
def Y09:=@List.getLast?_eq_getElem?
def Y0A:=@Nat.zero_add
def Y0B:=@List.take_succ_eq_append_getElem
def Y0C:=@List.getElem_of_mem
def Y0D:=@Array.eq_empty_of_size_eq_zero
def Y0E:=@Bool.false_and
def Y0F:=@List.take_length
def Y0G:=@List.eq_nil_of_length_eq_zero
def Y0H:=@List.take_append_of_le_length
def Y0I:=@List.take_of_length_le
def Y0J:=@List.drop_eq_nil_of_le
def Y0K:=@Bool.not_true
def Y0L:=@List.getElem?_toArray
def Y0M:=@Array.size_append
def Y0N:=@List.getElem?_set
def Y0O:=@List.getElem?_append
def Y0P:=@Int.fdiv_eq_ediv_of_nonneg
def Y0Q:=@List.length_drop
def Y0R:=@Option.getD_some
def Y0S:=@Nat.succ_mul
def Y0T:=@Int.mul_assoc
def Y0U:=@Array.foldl_toList
def Y0V:=@Array.empty_append
def Y0W:=@Int.emod_lt_of_pos
def Y0X:=@Nat.le_succ
def Y0Y:=@Bool.not_false
def Y0Z:=@Int.le_of_lt
end Go.Dn
namespace Go.Dn
open Go
inductive FV where
 | bool (b:Bool)
 | int (k:IntKind) (n:Int)
 | str (s:ByteArray)
 | nilp
 | nilf
 | fn (f:FuncId)
 | sl (xs:List (List FV))
 deriving Inhabited
inductive PV where
 | undef
 | v (x:FV)
 | nils
 | full (xs:List (List FV))
 | buf (id len sz:Nat)
 | ptr (id ver off:Nat)
 | fptr (cells:List FV)
 | clo (f:FuncId) (first caps:List PV)
 | yld (id:Nat)
 | agg (cells:List PV)
 | tup (vs:List PV)
 | mp (id:Nat)
 | view (id tot off len sz:Nat)
 deriving Inhabited
abbrev Env:=Nat->PV
inductive Ent where
 | none
 | blk (elem:TypeId) (cells:List PV) (live:Bool)
 | loop (fn:FuncId) (env:Env) (n:Nat) (params:List Nat) (assign body:Code) (st:LoopState) (pend:Option Code)
 | map (kv:List (Int×Int))
structure Heap where
 nx:Nat
 ent:Nat->Ent
def upd {α:Type} (f:Nat->α) (i:Nat) (x:α):Nat->α:=λj=>if j=i then x else f j
def Heap.empty:Heap:=⟨0,λ_=>.none⟩
def Heap.only (G:Heap) (ids:List Nat):Heap:=⟨G.nx,λk=>if k∈ids then G.ent k else .none⟩
def Heap.put (G:Heap) (id:Nat) (e:Ent):Heap:=⟨G.nx,upd G.ent id e⟩
def Heap.join (G ρ:Heap):Heap:=⟨ρ.nx,λk=>match ρ.ent k with | .none=>G.ent k|en=>en⟩
inductive Prim where
 | load (t:TypeId) (k:IntKind) (off:Nat)
 | add (t:TypeId) (off:Nat)
 | once (tu ti:TypeId) (d m:Nat)
structure Ctx where
 P:Program
 glob:Nat->Option (List FV)
 intr:FuncId->List PV->Option PV
 opn:FuncId->Bool
 keep:FuncId->Bool
 /-- Are literals of slices immutable from the first? -/
 lit:Bool:=false
 /-- Which slicings of what is being built tell a window of it? -/
 view:Op->Bool:=λ_=>false
 /-- Which of those that are handed slices to change leave them as they were,and see nothing else? -/
 shut:FuncId->Bool:=λ_=>false
 /-- After which calls may what was read for them be changed again,if nothing is answered that refers to it? -/
 thaw:FuncId->Bool:=λ_=>false
 /-- Which literals take slices that are still being built as they are? -/
 hold:TypeId->List (Nat×Operand)->Bool:=λ_ _=>false
 /-- Functions of the library that are known. -/
 prim:FuncId->Option Prim:=λ_=>none
 /-- Functions on values alone whose answer may be changed,and that are carried out beside all else. -/
 fresh:FuncId->Bool:=λ_=>false
def FV.ofVal:Value->Option FV
 | .bool b=>some (.bool b)
 | .int k n=>some (.int k n)
 | .string s=>some (.str s)
 | .pointer none=>some .nilp
 | .nilFunc=>some .nilf
 | _=>none
def PV.ofCell:Value->Option PV
 | .slice none 0 0=>some .nils
 | x=>(FV.ofVal x).map .v
def Z4I:List Value->Option (List PV)
 | []=>some []
 | x::xs=>(PV.ofCell x).bind λy=>(Z4I xs).bind λys=>some (y::ys)
def PV.ofVal:Value->Option PV
 | .agg cs=>(Z4I cs.toList).map .agg
 | .tuple vs=>if vs.size=0 then some .undef else none
 | x=>PV.ofCell x
def PV.cells:PV->Option (List PV)
 | .agg cs=>some cs
 | .tup _=>none
 | .undef=>none
 | x=>some [x]
def vs (xs:List FV):List PV:=xs.map .v
def chunk (sz:Nat):Nat->List FV->List (List FV)
 | 0,_=>[]
 | n+1,xs=>xs.take sz::chunk sz n (xs.drop sz)
def ZT (f:Heap->PV->Option (FV×Heap)):Heap->List PV->Option (List FV×Heap)
 | G,[]=>some ([],G)
 | G,x::xs=>(f G x).bind λr=>(ZT f r.2 xs).bind λs=>some (r.1::s.1,s.2)
def ZN:Nat->Heap->PV->Option (FV×Heap)
 | 0,_,_=>none
 | d+1,G,x=>
  match x with
  | .v x=>some (x,G)
  | .nils=>some (.sl [],G)
  | .full xs=>some (.sl xs,G)
  | .buf id len sz=>
   match G.ent id with
   | .blk elem cells _=>
    if cells.length=len*sz then
     (ZT (ZN d) (G.put id (.blk elem cells false)) cells).bind λr=>some (.sl (chunk sz len r.1),r.2)
    else none
   | _=>none
  | _=>none
def Z4B:Heap->List PV->Option (List FV×Heap):=ZT (ZN 6)
def Z07 (G:Heap):PV->Option (PV×Heap)
 | .agg cs=>(Z4B G cs).bind λr=>some (.agg (vs r.1),r.2)
 | .fptr cs=>some (.fptr cs,G)
 | .undef=>some (.undef,G)
 | .tup _=>none
 | x=>(ZN 6 G x).bind λr=>some (.v r.1,r.2)
def Z0M:Heap->List PV->Option (List PV×Heap)
 | G,[]=>some ([],G)
 | G,x::xs=>(Z07 G x).bind λr=>(Z0M r.2 xs).bind λs=>some (r.1::s.1,s.2)
def Z05 (G:Heap):PV->Option (PV×Heap)
 | .tup xs=>(Z0M G xs).bind λr=>some (.tup r.1,r.2)
 | x=>Z07 G x
def Z1e (G:Heap):PV->Option (PV×Heap)
 | .ptr id ver off=>some (.ptr id ver off,G)
 | .clo f a c=>some (.clo f a c,G)
 | .yld id=>some (.yld id,G)
 | x=>Z07 G x
def Zz:Heap->List PV->Option (List PV×Heap)
 | G,[]=>some ([],G)
 | G,x::xs=>(Z1e G x).bind λr=>(Zz r.2 xs).bind λs=>some (r.1::s.1,s.2)
def PV.isV:PV->Bool
 | .v _=>true
 | _=>false
def FV.Z3k:FV->Bool
 | .sl (_::_)=>false
 | _=>true
def PV.noRef1:PV->Bool
 | .v x=>x.Z3k
 | _=>false
def PV.noRef2:PV->Bool
 | .v x=>x.Z3k
 | .agg cs=>cs.all PV.noRef1
 | _=>false
def PV.Z3k:PV->Bool
 | .tup xs=>xs.all PV.noRef2
 | x=>x.noRef2
def PV.pure:PV->Bool
 | .v _ | .fptr _=>true
 | .agg cs=>cs.all PV.isV
 | _=>false
def PV.isN:PV->Bool
 | .v _ | .nils | .full _=>true
 | _=>false
def PV.calm:PV->Bool
 | .v _ | .fptr _ | .nils | .full _=>true
 | .agg cs=>cs.all PV.isN
 | _=>false
def tsize (P:Program) (t:TypeId):Option Nat:=(P.info? t).map (·.size)
def tbytes (P:Program) (t:TypeId):Option Nat:=(P.info? t).map (·.bytes)
def tzero (P:Program) (t:TypeId):Option (List PV):=((P.info? t).bind (·.zero)).bind λz=>Z4I z.cells.toList
def tagg (P:Program) (t:TypeId):Option Bool:=(P.underlying t).map λ| .struct _ | .array _ _=>true|_=>false
def tslice (P:Program) (t:TypeId):Option TypeId:=match P.underlying t with|some (.slice e)=>some e|_=>none
def tpointer (P:Program) (t:TypeId):Option TypeId:=match P.underlying t with|some (.pointer e)=>some e|_=>none
def tarray (P:Program) (t:TypeId):Option (Nat×TypeId):=match P.underlying t with|some (.array n e)=>some (n,e)|_=>none
def tfield (P:Program) (t:TypeId) (f:Nat):Option (Nat×TypeId):=match P.underlying t with|some (.struct fs)=>(fs[f]?).map λx=>(x.offset,x.type)|_=>none
def tplaces (P:Program) (t:TypeId):Option (List (Nat×Nat)) :=
 match P.underlying t with
 | some (.struct fs)=>fs.toList.mapM λf=>(P.info? f.type).map λi=>(f.offset,i.size)
 | _=>none
def tint (P:Program) (t:TypeId):Option IntKind:=match P.underlying t with|some (.int k)=>some k|_=>none
def tstr (P:Program) (t:TypeId):Bool:=match P.underlying t with|some .string=>true|_=>false
def partD (P:Program) (t:TypeId) (cs:List PV) (off:Nat):Option PV :=
 match tagg P t,tsize P t with
 | some true,some n=>if off+n<=cs.length then some (.agg ((cs.drop off).take n)) else none
 | some false,_=>cs[off]?
 | _,_=>none
def tfields (P:Program) (t:TypeId):Option (List (String×Nat×TypeId)) :=
 match P.underlying t with
 | some (.struct fs)=>if P.stoodInHeld t then none else some (fs.toList.map λf=>(f.name,f.offset,f.type))
 | _=>none
def Z0l (P:Program) (G:Heap) (t:TypeId):PV->Option PV
 | .ptr id ver off=>
  match G.ent id with
  | .blk _ cells _=>
   if cells.length=ver then
    match tagg P t,tsize P t with
    | some true,some n=>if off+n<=cells.length then some (.agg ((cells.drop off).take n)) else none
    | some false,_=>cells[off]?
    | _,_=>none
   else none
  | _=>none
 | .fptr cells=>
  match tagg P t,tsize P t with
  | some true,some n=>if n<=cells.length then some (.agg (vs (cells.take n))) else none
  | some false,_=>(cells[0]?).map .v
  | _,_=>none
 | _=>none
def splice (xs:List PV) (off:Nat) (ys:List PV):List PV:=xs.take off++ys++xs.drop (off+ys.length)
def Z18 (P:Program) (G:Heap) (t:TypeId) (x:PV):PV->Option Heap
 | .ptr id ver off=>
  match G.ent id with
  | .blk elem cells true=>
   if cells.length=ver then
    match tsize P t,x.cells with
    | some n,some ys=>if ys.length=n/\off+n<=cells.length then some (G.put id (.blk elem (splice cells off ys) true)) else none
    | _,_=>none
   else none
  | _=>none
 | _=>none
def newD (G:Heap) (id:Nat) (t:TypeId) (cells:List PV):PV×Heap:=(.ptr id cells.length 0,G.put id (.blk t cells true))
def Z3z (place:Nat->Option (Nat×Nat)):List PV->List (Nat×PV)->Option (List PV)
 | cells,[]=>some cells
 | cells,(i,x)::rest=>
  match place i,x.cells with
  | some (off,n),some ys=>if ys.length=n/\off+n<=cells.length then Z3z place (splice cells off ys) rest else none
  | _,_=>none
def Z3r (op:BinOp) (k:IntKind) (x y:Int):Option FV :=
 match op with
 | .add=>some (.int k (k.wrap (x+y)))
 | .sub=>some (.int k (k.wrap (x-y)))
 | .mul=>some (.int k (k.wrap (x*y)))
 | .quo=>if y=0 then none else some (.int k (k.wrap (x.tdiv y)))
 | .rem=>if y=0 then none else some (.int k (x.tmod y))
 | .and=>some (.int k (k.wrap (BitVec.ofInt k.bits x &&& BitVec.ofInt k.bits y).toNat))
 | .or=>some (.int k (k.wrap (BitVec.ofInt k.bits x ||| BitVec.ofInt k.bits y).toNat))
 | .xor=>some (.int k (k.wrap (BitVec.ofInt k.bits x ^^^ BitVec.ofInt k.bits y).toNat))
 | .andNot=>some (.int k (k.wrap (BitVec.ofInt k.bits x &&& ~~~ BitVec.ofInt k.bits y).toNat))
 | .eql=>some (.bool (x==y))
 | .neq=>some (.bool (x != y))
 | .lss=>some (.bool (decide (x<y)))
 | .leq=>some (.bool (decide (x<=y)))
 | .gtr=>some (.bool (decide (x>y)))
 | .geq=>some (.bool (decide (x>=y)))
 | _=>none
def eqFields (P:Program) (eq:TypeId->PV->PV->Option Bool) (xs ys:List PV):List (String×Nat×TypeId)->Option Bool
 | []=>some true
 | (name,off,ft)::fs=>
  if name = "_" then none else
  match partD P ft xs off,partD P ft ys off with
  | some a,some b=>(eq ft a b).bind λr=>(eqFields P eq xs ys fs).bind λs=>some (r&&s)
  | _,_=>none
def eqD (P:Program):Nat->TypeId->PV->PV->Option Bool
 | 0,_,_,_=>none
 | d+1,t,x,y=>
  match x,y with
  | .v (.bool a),.v (.bool b)=>match P.underlying t with|some .bool=>some (a==b)|_=>none
  | .v (.int k a),.v (.int k' b)=>match P.underlying t with|some (.int _)=>if k=k' then some (a==b) else none|_=>none
  | .v (.str a),.v (.str b)=>match P.underlying t with|some .string=>some (a==b)|_=>none
  | .agg xs,.agg ys=>(tfields P t).bind λfs=>eqFields P (eqD P d) xs ys fs
  | _,_=>none
def Heap.cur (G:Heap) (id n:Nat):Bool :=
 match G.ent id with
 | .blk _ cells _=>cells.length==n
 | _=>false
def Z3n (G:Heap):PV->Option Bool
 | .nils=>some true
 | .v (.sl (_::_))=>some false
 | .buf id len sz=>if G.cur id (len*sz) then some false else none
 | _=>none
def Z2h (G:Heap):PV->Option Bool
 | .v .nilp=>some true
 | .ptr id ver _=>if G.cur id ver then some false else none
 | _=>none
def Z4C (P:Program) (t:TypeId):PV->Bool
 | .agg _=>!P.eqGuardType P.depth t
 | _=>true
def binD (P:Program) (G:Heap) (op:BinOp) (t:TypeId) (x y:PV):Option FV :=
 match x,y with
 | .v (.int k a),.v (.int k' b)=>
  match op with
  | .shl=>if b<0 then none else some (.int k (k.wrap (a*2 ^ min b.toNat k.bits)))
  | .shr=>if b<0 then none else some (.int k (a.fdiv (2 ^ min b.toNat k.bits)))
  | _=>if k=k' then Z3r op k a b else none
 | .v (.str a),.v (.str b)=>
  match op with
  | .eql=>some (.bool (a.toList==b.toList))
  | .neq=>some (.bool (!(a.toList==b.toList)))
  | _=>none
 | x,.nils=>
  match tslice P t,op with
  | some _,.eql=>(Z3n G x).map .bool
  | some _,.neq=>(Z3n G x).map λb=>.bool (!b)
  | _,_=>none
 | x,.v .nilp=>
  match tpointer P t,op with
  | some _,.eql=>(Z2h G x).map .bool
  | some _,.neq=>(Z2h G x).map λb=>.bool (!b)
  | _,_=>none
 | x,y=>
  if Z4C P t x then
   match op with
   | .eql=>(eqD P 6 t x y).map .bool
   | .neq=>(eqD P 6 t x y).map λb=>.bool (!b)
   | _=>none
  else none
def unD (op:UnOp) (x:PV):Option FV :=
 match op,x with
 | .neg,.v (.int k a)=>some (.int k (k.wrap (0-a)))
 | .not,.v (.bool b)=>some (.bool (!b))
 | _,_=>none
def convD (P:Program) (src dst:TypeId) (x:PV):Option FV :=
 match x with
 | .v (.int _ a)=>match P.underlying src,tint P dst with
  | some _,some k=>some (.int k (k.wrap a))
  | _,_=>none
 | _=>none
def Z2x:PV->Option Nat
 | .v (.int _ n)=>if 0<=n then some n.toNat else none
 | _=>none
def lenD (P:Program) (G:Heap) (t:TypeId) (x:PV):Option FV :=
 match tslice P t with
 | some _=>
  match x with
  | .v (.sl xs)=>some (.int .i64 xs.length)
  | .full xs=>some (.int .i64 xs.length)
  | .nils=>some (.int .i64 0)
  | .buf id n sz=>if G.cur id (n*sz) then some (.int .i64 n) else none
  | _=>none
 | none=>
  match x with
  | .v (.str s)=>if tstr P t then some (.int .i64 s.size) else none
  | _=>none
def Z01 (P:Program) (G:Heap) (t:TypeId) (x i:PV):Option PV :=
 match Z2x i with
 | none=>none
 | some i=>
  match x with
  | .v (.sl xs)=>match (tslice P t).bind (tsize P),xs[i]? with|some sz,some y=>if y.length=sz then some (.fptr y) else none|_,_=>none
  | .buf id len sz=>
   match tslice P t with
   | some e=>if G.cur id (len*sz)&&tsize P e==some sz&&decide (i<len) then some (.ptr id (len*sz) (i*sz)) else none
   | none=>none
  | .fptr cells=>
   match tarray P t with
   | some (n,e)=>if i<n then (tsize P e).bind λs=>if (i+1)*s<=cells.length then some (.fptr (cells.drop (i*s))) else none else none
   | none=>none
  | .ptr id ver off=>
   match tarray P t with
   | some (n,e)=>if G.cur id ver&&decide (i<n) then (tsize P e).map λs=>.ptr id ver (off+i*s) else none
   | none=>none
  | _=>none
def indexD (P:Program) (t:TypeId) (x i:PV):Option PV :=
 match Z2x i with
 | none=>none
 | some i=>
  match x with
  | .agg cs=>match tarray P t with
   | some (n,e)=>if i<n then (tsize P e).bind λs=>partD P e cs (i*s) else none
   | none=>none
  | .v (.str s)=>if tstr P t then (s[i]?).map λb=>.v (.int .u8 b.toNat) else none
  | _=>none
def Z0C (P:Program) (G:Heap) (t:TypeId) (x:PV) (f:Nat):Option PV :=
 match tfield P t f with
 | none=>none
 | some (off,ft)=>
  match tsize P ft with
  | none|some 0=>none
  | some _=>
   match x with
   | .ptr id ver o=>if G.cur id ver then some (.ptr id ver (o+off)) else none
   | .fptr cells=>some (.fptr (cells.drop off))
   | _=>none
def fieldD (P:Program) (t:TypeId) (x:PV) (f:Nat):Option PV :=
 match tfield P t f,x with
 | some (off,ft),.agg cs=>partD P ft cs off
 | _,_=>none
def elemLen (xs:List (List FV)) (l sz:Nat):Bool:=match xs[l]? with|some y=>y.length==sz|none=>true
def sliceD (P:Program) (t:TypeId) (x:PV) (lo hi mx:Option PV):Option PV :=
 let l?:=match lo with|none=>some 0|some v=>Z2x v
 match x with
 | .v (.sl xs)=>
  match (tslice P t).bind (tsize P) with
  | none=>none
  | some sz=>
   let h?:=match hi with|none=>some xs.length|some v=>Z2x v
   match l?,h? with
   | some l,some h=>
    if l<=h/\h<=xs.length/\elemLen xs l sz=true then
     match mx with
     | none=>some (.v (.sl ((xs.take h).drop l)))
     | some m=>if Z2x m=some h/\hi.isSome=true then some (.full ((xs.take h).drop l)) else none
    else none
   | _,_=>none
 | _=>none
def viewD (P:Program) (t:TypeId) (id len sz:Nat) (lo hi mx:Option PV):Option PV :=
 match mx with
 | some _=>none
 | none=>
  match (tslice P t).bind (tsize P),(match lo with|none=>some 0|some v=>Z2x v),(match hi with|none=>some len|some v=>Z2x v) with
  | some s,some l,some h=>if s=sz/\l<h/\h<=len then some (.view id len l (h-l) sz) else none
  | _,_,_=>none
def Z1S (G:Heap) (sz:Nat):PV->Option (List PV×Nat)
 | .v (.sl ys)=>if ys.all (λy=>y.length==sz) then some (vs ys.flatten,ys.length) else none
 | .full ys=>if ys.all (λy=>y.length==sz) then some (vs ys.flatten,ys.length) else none
 | .nils=>some ([],0)
 | .buf id len s=>
  match G.ent id with
  | .blk _ cells _=>if s=sz/\cells.length=len*s then some (cells,len) else none
  | _=>none
 | .view id tot l n s=>
  match G.ent id with
  | .blk _ cells _=>if s=sz/\cells.length=tot*s/\l+n<=tot then some ((cells.drop (l*s)).take (n*s),n) else none
  | _=>none
 | _=>none
def room:Nat:=140737488355328
def Z0L (P:Program) (G:Heap) (id0:Nat) (t:TypeId) (x y:PV):Option (PV×Heap) :=
 match tslice P t with
 | none=>none
 | some e=>
  match tsize P e,tbytes P e with
  | some sz,some by_=>
   match Z1S G sz y with
   | none=>none
   | some (ys,n)=>
    if (sz=0\/by_=0\/(tzero P e).map List.length≠some sz) then none else
    match x with
    | .nils=>
     if n=0 then some (.nils,G)
     else if n*by_<=room then some (.buf id0 n sz,G.put id0 (.blk e ys true)) else none
    | .full xs=>
     if n=0 then none
     else if (xs.length+n)*by_<=room/\xs.all (λy=>y.length==sz) then some (.buf id0 (xs.length+n) sz,G.put id0 (.blk e (vs xs.flatten++ys) true)) else none
    | .buf id len s=>
     match G.ent id with
     | .blk e' cells true=>
      if s=sz/\e'=e/\cells.length=len*sz/\(len+n)*by_<=room then some (.buf id (len+n) sz,G.put id (.blk e (cells++ys) true)) else none
     | _=>none
    | _=>none
  | _,_=>none
def Z3q (P:Program) (G:Heap) (t:TypeId) (x y:PV):Option (PV×Heap) :=
 match tslice P t with
 | none=>none
 | some e=>
  match tsize P e with
  | none=>none
  | some sz=>
   match Z1S G sz y,x with
   | some (ys,n),.buf id len s=>
    match G.ent id with
    | .blk e' cells true=>
     if s=sz/\e'=e/\cells.length=len*sz then
      some (.v (.int .i64 (min n len:Nat)),G.put id (.blk e (splice cells 0 (ys.take (min n len*sz))) true))
     else none
    | _=>none
   | some (ys,n),.view id tot l m s=>
    match G.ent id with
    | .blk e' cells true=>
     if s=sz/\e'=e/\cells.length=tot*sz/\l+m<=tot then
      some (.v (.int .i64 (min n m:Nat)),G.put id (.blk e (splice cells (l*sz) (ys.take (min n m*sz))) true))
     else none
    | _=>none
   | _,_=>none
def makeD (P:Program) (G:Heap) (id0:Nat) (t:TypeId) (len cap:PV):Option (PV×Heap) :=
 match tslice P t,len,cap with
 | some e,.v (.int .i64 l),.v (.int .i64 c)=>
  match tsize P e,tbytes P e,tzero P e with
  | some sz,some by_,some z=>
   if l=c/\0<=l/\l.toNat*by_<=room/\z.length=sz/\sz≠0/\by_≠0 then some (.buf id0 l.toNat sz,G.put id0 (.blk e (List.replicate l.toNat z).flatten true)) else none
  | _,_,_=>none
 | _,_,_=>none
def mfind (a:Int):List (Int×Int)->Nat->Option (Nat×Int)
 | [],_=>none
 | p::l,i=>if a==p.1 then some (i,p.2) else mfind a l (i+1)
def mget (kv:List (Int×Int)) (a:Int):Int:=match mfind a kv 0 with|some p=>p.2|none=>0
def mset (kv:List (Int×Int)) (i:Nat) (b:Int):List (Int×Int):=kv.set i ((kv.getD i (0,0)).1,b)
def mput (kv:List (Int×Int)) (a b:Int):List (Int×Int):=match mfind a kv 0 with|some p=>mset kv p.1 b|none=>kv++[(a,b)]
def Z1L (f:Int->Int->Int) (k:IntKind):Int->List PV->Option Int
 | a,[]=>some a
 | a,.v (.int k' b)::xs=>if k=k' then Z1L f k (f a b) xs else none
 | _,_=>none
inductive Callee where
 | fn (f:FuncId)
 | yld (id:Nat)
abbrev ZR:=Callee->List PV->Heap->Option (PV×Heap)
def onward:PV->Nat->PV
 | .ptr id ver o,k=>.ptr id ver (o+k)
 | _,_=>.undef
def Z3o (P:Program) (call:ZR) (G:Heap):Prim->List PV->Option (PV×Heap)
 | .load t k off,[a]=>
  match Z0l P G t (onward a off) with
  | some (.v (.int k' n))=>if k'=k then some (.v (.int k n),G) else none
  | _=>none
 | .add t off,[a,.v (.int .i64 d)]=>
  match Z0l P G t (onward a off) with
  | some (.v (.int .i64 n))=>(Z18 P G t (.v (.int .i64 (IntKind.i64.wrap (n+d)))) (onward a off)).map λG'=>(.v (.int .i64 (IntKind.i64.wrap (n+d))),G')
  | _=>none
 | .once tu ti d m,[a,.clo g [] caps]=>
  match Z0l P G tu (onward a d) with
  | some (.v (.int .u32 n))=>
   if n=0 then
    match Z0l P G ti (onward a m) with
    | some (.v (.int .i32 0))=>
     (Z18 P G ti (.v (.int .i32 1)) (onward a m)).bind λG1=>(call (.fn g) caps G1).bind λr=>
      match Z0l P r.2 tu (onward a d),Z0l P r.2 ti (onward a m) with
      | some (.v (.int .u32 0)),some (.v (.int .i32 1))=>
       (Z18 P r.2 tu (.v (.int .u32 1)) (onward a d)).bind λG3=>(Z18 P G3 ti (.v (.int .i32 0)) (onward a m)).map λG4=>(.tup [],G4)
      | _,_=>none
    | _=>none
   else some (.tup [],G)
  | _=>none
 | _,_=>none
def Zg (P:Program) (G:Heap) (id0:Nat) (b:Builtin) (ts:List TypeId) (args:List PV):Option (PV×Heap) :=
 match b,ts,args with
 | .len,[t],[x]=>(lenD P G t x).map λr=>(.v r,G)
 | .append,[t,t'],[x,y]=>if t=t' then Z0L P G id0 t x y else none
 | .copy,[t,_],[x,y]=>Z3q P G t x y
 | .min,_,.v (.int k a)::xs=>(Z1L (λx y=>if y<x then y else x) k a xs).map λr=>(.v (.int k r),G)
 | .max,_,.v (.int k a)::xs=>(Z1L (λx y=>if y>x then y else x) k a xs).map λr=>(.v (.int k r),G)
 | _,_,_=>none
section
variable (X:Ctx)
def Z1 (e:Env):Operand->Option PV
 | .tmp t=>some (e t)
 | .const c=>PV.ofVal c
 | .global g=>(X.glob g).map .fptr
 | .func f=>some (.v (.fn f))
def ZG (e:Env):List Operand->Option (List PV)
 | []=>some []
 | x::xs=>(Z1 X e x).bind λy=>(ZG e xs).bind λys=>some (y::ys)
def Z24 (e:Env):List (Nat×Operand)->Option (List (Nat×PV))
 | []=>some []
 | (i,x)::xs=>(Z1 X e x).bind λy=>(Z24 e xs).bind λys=>some ((i,y)::ys)
def optD (e:Env):Option Operand->Option (Option PV)
 | none=>some none
 | some x=>(Z1 X e x).map some
def Z5r (e:Env) (t:TypeId) (parts:List (Nat×Operand)):Option PV :=
 match tzero X.P t,Z24 X e parts with
 | some z,some ps=>
  match tplaces X.P t with
  | some pl=>(Z3z (pl[·]?) z ps).map .agg
  | none=>
   match tarray X.P t with
   | some (_,el)=>(tsize X.P el).bind λn=>(Z3z (λi=>some (i*n,n)) z ps).map .agg
   | none=>none
 | _,_=>none
def fvsOf:List PV->Option (List FV)
 | []=>some []
 | .v x::xs=>(fvsOf xs).map (x::·)
 | _::_=>none
def litR (lit:Bool) (len sz id0:Nat) (el:TypeId) (cs:List PV):PV×Ent :=
 match lit&&len != 0,fvsOf cs with
 | true,some fs=>(.v (.sl (chunk sz len fs)),.blk el cs false)
 | _,_=>(.buf id0 len sz,.blk el cs true)
def isBuf:PV->Bool
 | .buf _ _ _=>true
 | _=>false
def isRef:PV->Bool
 | .buf _ _ _ | .nils | .full _=>true
 | _=>false
def bufId:PV->List Nat
 | .buf id _ _=>[id]
 | _=>[]
def Z2d:PV->List Nat
 | .agg cs=>cs.flatMap bufId
 | x=>bufId x
def needF:PV->Bool
 | .buf _ _ _ | .nils | .full _=>true
 | .agg cs=>cs.any isRef
 | _=>false
def Z28 (G:Heap):PV->Option (PV×Heap)
 | .v x=>some (.v x,G)
 | .nils=>some (.v (.sl []),G)
 | .full xs=>some (.v (.sl xs),G)
 | .buf id len sz=>
  match G.ent id with
  | .blk el cells _=>if cells.length=len*sz then (fvsOf cells).map λfs=>(.v (.sl (chunk sz len fs)),G.put id (.blk el cells false)) else none
  | _=>none
 | _=>none
def Z1Q:Heap->List PV->Option (List PV×Heap)
 | G,[]=>some ([],G)
 | G,x::xs=>(Z28 G x).bind λr=>(Z1Q r.2 xs).bind λq=>some (r.1::q.1,q.2)
def Z2f (G:Heap):PV->Option (PV×Heap)
 | .agg cs=>(Z1Q G cs).bind λr=>some (.agg r.1,r.2)
 | x=>Z28 G x
def Z09:Heap->List (Nat×PV)->Option (List (Nat×PV)×Heap)
 | G,[]=>some ([],G)
 | G,p::ps=>
  if needF p.2 then (Z2f G p.2).bind λr=>(Z09 r.2 ps).bind λq=>some ((p.1,r.1)::q.1,q.2)
  else (Z09 G ps).bind λq=>some (p::q.1,q.2)
def frzPs (hold:Bool) (G:Heap) (ps:List (Nat×PV)):Option (List (Nat×PV)×Heap) :=
 match hold with
 | true=>some (ps,G)
 | false=>Z09 G ps
def Z0q (G:Heap) (id0:Nat) (t:TypeId) (len:Nat) (ps:List (Nat×PV)):Option (PV×Heap) :=
 match tslice X.P t with
 | some el=>
  match tsize X.P el,tzero X.P el with
  | some sz,some z=>
   if z.length=sz/\sz≠0/\len*sz<=1000000 then
    (Z3z (λi=>some (i*sz,sz)) (List.replicate len z).flatten ps).map λcs=>((litR X.lit len sz id0 el cs).1,G.put id0 (litR X.lit len sz id0 el cs).2)
   else none
  | _,_=>none
 | none=>none
def Z0Q (e:Env) (G:Heap) (id0:Nat) (t:TypeId) (len:Nat) (parts:List (Nat×Operand)):Option (PV×Heap) :=
 (Z24 X e parts).bind λps=>(frzPs (X.hold t parts) G ps).bind λr=>Z0q X r.2 id0 t len r.1
def ZM (call:ZR) (e:Env) (G:Heap) (id0:Nat) (c:Call):Option (PV×Heap) :=
 match ZG X e c.args.toList with
 | none=>none
 | some args=>
  match c.callee with
  | .builtin b=>Zg X.P G id0 b c.argTypes.toList args
  | .invoke _ _=>none
  | .value f=>
   match Z1 X e f with
   | some (.v (.fn f))=>call (.fn f) args G
   | some (.clo f first caps)=>call (.fn f) (first++args++caps) G
   | some (.yld id)=>call (.yld id) args G
   | _=>none
def Z2 (call:ZR) (e:Env) (G:Heap) (id0:Nat):Op->Option (PV×Heap)
 | .move x | .assign x=>(Z1 X e x).map (·,G)
 | .pick c a b=>
  match Z1 X e c with
  | some (.v (.bool true))=>(Z1 X e a).map (·,G)
  | some (.v (.bool false))=>(Z1 X e b).map (·,G)
  | _=>none
 | .alloc t=>(tzero X.P t).map λz=>newD G id0 t z
 | .box t x=>((Z1 X e x).bind PV.cells).map λcs=>newD G id0 t cs
 | .build t parts=>(Z5r X e t parts.toList).map (·,G)
 | .buildSlice t len parts=>Z0Q X e G id0 t len parts.toList
 | .load t a=>((Z1 X e a).bind λa=>Z0l X.P G t a).map (·,G)
 | .store t a x=>match Z1 X e a,Z1 X e x with
  | some a,some x=>(Z18 X.P G t x a).map λG'=>(.undef,G')
  | _,_=>none
 | .nilCheck x=>
  match Z1 X e x with
  | some (.ptr id ver off)=>if G.cur id ver then some (.ptr id ver off,G) else none
  | some (.fptr cs)=>some (.fptr cs,G)
  | some (.clo f a c)=>some (.clo f a c,G)
  | some (.v (.fn f))=>some (.v (.fn f),G)
  | some (.yld id)=>some (.yld id,G)
  | _=>none
 | .binOp op t x y _=>match Z1 X e x,Z1 X e y with
  | some x,some y=>(binD X.P G op t x y).map λr=>(.v r,G)
  | _,_=>none
 | .unOp op _ x=>((Z1 X e x).bind λx=>unD op x).map λr=>(.v r,G)
 | .convert src dst x=>((Z1 X e x).bind λx=>convD X.P src dst x).map λr=>(.v r,G)
 | .makeFunc (.func f) first caps=>
  match ZG X e first.toList,ZG X e caps.toList with
  | some [],some []=>some (.v (.fn f),G)
  | some a,some c=>some (.clo f a c,G)
  | _,_=>none
 | .makeSlice t l c=>match Z1 X e l,Z1 X e c with
  | some l,some c=>makeD X.P G id0 t l c
  | _,_=>none
 | .slice t x lo' hi' mx'=>
  match Z1 X e x,optD X e lo',optD X e hi',optD X e mx' with
  | some (.buf id len sz),some lo,some hi,some mx=>
   if X.view (.slice t x lo' hi' mx') then (viewD X.P t id len sz lo hi mx).map (·,G)
   else (ZN 6 G (.buf id len sz)).bind λr=>(sliceD X.P t (.v r.1) lo hi mx).map (·,r.2)
  | some x,some lo,some hi,some mx=>(sliceD X.P t x lo hi mx).map (·,G)
  | _,_,_,_=>none
 | .fieldAddr t x f=>((Z1 X e x).bind λx=>Z0C X.P G t x f).map (·,G)
 | .field t x f=>((Z1 X e x).bind λx=>fieldD X.P t x f).map (·,G)
 | .indexAddr t x i=>match Z1 X e x,Z1 X e i with
  | some x,some i=>(Z01 X.P G t x i).map (·,G)
  | _,_=>none
 | .index t x i=>match Z1 X e x,Z1 X e i with
  | some x,some i=>(indexD X.P t x i).map (·,G)
  | _,_=>none
 | .extract x i=>match Z1 X e x with
  | some (.tup vs)=>(vs[i]?).map (·,G)
  | _=>none
 | .call c=>ZM X call e G id0 c
 | _=>none
end
def putD (n:Nat) (e:Env) (dst:Option Tmp) (x:PV):Env :=
 match dst with
 | none=>e
 | some d=>if d<n then upd e d x else e
def ZP (ops:Array Oper) (e:Env) (o:Oper):Option Bool :=
 match o.guard with
 | none=>some true
 | some (j,want)=>
  match (ops[j]?).bind (·.dst) with
  | none=>some false
  | some d=>
   match e d with
   | .v (.bool b)=>some (b==want)
   | .undef=>some false
   | _=>none
def Zv (X:Ctx) (call:ZR) (n:Nat) (ops:Array Oper) (base i:Nat) (o:Oper) (e:Env) (G:Heap):Option (Env×Heap) :=
 match ZP ops e o with
 | some true=>(Z2 X call e G (base+i) o.op).bind λr=>some (putD n e o.dst r.1,r.2)
 | some false=>some (putD n e o.dst .undef,G)
 | none=>none
def Z0a (X:Ctx) (call:ZR) (n:Nat) (ops:Array Oper) (base:Nat):Nat->List Oper->Env->Heap->Option (Env×Heap)
 | _,[],e,G=>some (e,G)
 | i,o::os,e,G=>(Zv X call n ops base i o e G).bind λr=>Z0a X call n ops base (i+1) os r.1 r.2
def vids:PV->List Nat
 | .ptr id _ _=>[id]
 | .buf id _ _=>[id]
 | .view id _ _ _ _=>[id]
 | _=>[]
def Z2a (G:Heap) (args:List PV):Bool:=args.all λx=>match x with
 | .buf id _ _=>(match G.ent id with | .blk _ cells true=>cells.all PV.isV|_=>false)
 | .nils=>true
 | x=>x.pure
inductive OpK where
 | pure|read|write|call|bad
 deriving DecidableEq
def Zh:Op->OpK
 | .move _ | .assign _ | .pick .. | .alloc _ | .box .. | .build .. | .buildSlice .. | .unOp .. | .convert .. | .field .. | .index .. | .extract .. | .makeSlice .. | .slice ..=>.pure
 | .makeFunc (.func _) _ _=>.pure
 | .binOp op _ _ _ _=>match op with | .eql | .neq=>.read|_=>.pure
 | .load .. | .nilCheck _ | .indexAddr .. | .fieldAddr ..=>.read
 | .store ..=>.write
 | .call c=>match c.callee with
  | .builtin .len=>.read
  | .builtin .append | .builtin .copy=>.write
  | .builtin .min | .builtin .max=>.pure
  | .value _=>.call
  | _=>.bad
 | _=>.bad
def ZF:Op->List Operand
 | .load _ a=>[a]
 | .nilCheck a=>[a]
 | .indexAddr _ a _=>[a]
 | .fieldAddr _ a _=>[a]
 | .binOp _ _ x y _=>[x,y]
 | .store _ a _=>[a]
 | .call c=>match c.callee with
  | .builtin _=>c.args.toList
  | _=>[]
 | _=>[]
def touched (X:Ctx) (e:Env) (op:Op):List Nat :=
 (ZF op).flatMap λx=>match Z1 X e x with|some v=>vids v|none=>[]
def isRW (op:Op):Bool:=match Zh op with | .read | .write=>true|_=>false
def isW (op:Op):Bool:=match Zh op with | .write=>true|_=>false
def unord (bef:Array Nat) (i j:Nat):Bool:=i != j && !((bef.getD (max i j) 0).testBit (min i j))
def Z2A (bef:Array Nat) (ops:Array Oper) (j:Nat):Bool :=
 (List.range ops.size).any λi=>unord bef i j&&(match ops[i]? with|some o=>isW o.op|none=>false)
def Z5l (bef:Array Nat) (ops:Array Oper) (i:Nat):Bool :=
 (List.range ops.size).any λj=>unord bef i j&&(match ops[j]? with|some o=>isRW o.op|none=>false)
def stableOp (ops:Array Oper) (op:Op):Bool:=(ZF op).all λx=>match x with | .tmp t=>!(ops.any λo=>o.dst==some t)|_=>true
def rootT (ops:Array Oper) (t:Nat):Option Nat :=
 match ops.toList.find? (λo=>o.dst==some t) with
 | none=>some t
 | some o=>match o.op with
  | .fieldAddr _ (.tmp u) _ | .nilCheck (.tmp u) | .indexAddr _ (.tmp u) _ | .move (.tmp u)=>if ops.toList.any (λo=>o.dst==some u) then none else some u
  | _=>none
def rootOp (ops:Array Oper) (op:Op):Bool:=(ZF op).all λx=>match x with | .tmp t=>(rootT ops t).isSome|_=>true
def Z0y (X:Ctx) (ops:Array Oper) (e:Env) (op:Op):List Nat:=(ZF op).flatMap λx=>match x with
 | .tmp t=>(match rootT ops t with|some u=>vids (e u)|none=>[])
 | x=>(match Z1 X e x with|some v=>vids v|none=>[])
def Z17 (X:Ctx) (e:Env) (bef:Array Nat) (ops:Array Oper) (i k:Nat):Bool :=
 (List.range ops.size).any λj=>unord bef i j&&(match ops[j]? with|some o=>isRW o.op && !(rootOp ops o.op && !(Z0y X ops e o.op).contains k)|none=>false)
def Z2p (bef:Array Nat) (ops:Array Oper) (i:Nat):Bool:=!Z2A bef ops i||(match ops[i]? with|some o=>stableOp ops o.op || !rootOp ops o.op|none=>true)
def Z1j (ops:Array Oper):Bool :=
 let bef:=Region.before ops
 Region.lexB .any ops&&ops.all (λo=>Zh o.op != .bad) &&
 (List.range ops.size).all λi=>match ops[i]? with
  | some o=>(if isW o.op then !Z2A bef ops i else true)&&o.after.all λe=>!Region.binds .any e||decide (e.on<i)
  | none=>true
def Z3G (X:Ctx) (e:Env) (args:List PV):Go.Callee->Bool
 | .value f=>match Z1 X e f with
  | some (.v (.fn f))=>args.all PV.calm && !X.opn f && !X.keep f
  | some (.clo f first caps)=>first.all PV.calm&&args.all PV.calm&&caps.all PV.calm && !X.opn f && !X.keep f
  | _=>false
 | _=>false
def Z1m (bef:Array Nat) (ops:Array Oper) (i:Nat):Bool:=(List.range ops.size).all λj=>!unord bef i j
def frozen (X:Ctx) (e:Env):Op->List Nat
 | .buildSlice t _ parts=>match X.hold t parts.toList,Z24 X e parts.toList with
  | false,some ps=>ps.flatMap λp=>Z2d p.2
  | _,_=>[]
 | _=>[]
def ZO (X:Ctx) (ops:Array Oper) (base i:Nat) (o:Oper) (e:Env):Bool :=
 let bef:=Region.before ops
 match Zh o.op with
 | .pure=>match o.op with
  | .slice _ x _ _ _=>match Z1 X e x with
   | some (.buf _ _ _)=>X.view o.op
   | _=>true
  | _=>(frozen X e o.op).all λk=>decide (base<=k)&&decide (k<base+ops.size)&&(bef.getD i 0).testBit (k-base)&&(List.range ops.size).all λj=>!(unord bef i j&&(bef.getD j 0).testBit (k-base))
 | .read=>((touched X e o.op).all λk=>decide (k<base)||(!Z2A bef ops i&&(bef.getD i 0).testBit (k-base)&&decide (k<base+ops.size)))&&(Z2p bef ops i || !rootOp ops o.op||(touched X e o.op).all λk=>(Z0y X ops e o.op).contains k)
 | .write=>(touched X e o.op).all λk=>(decide (k<base) && !Z17 X e bef ops i k)||(decide (base<=k)&&(bef.getD i 0).testBit (k-base)&&decide (k<base+ops.size))
 | .call=>match o.op with
  | .call c=>match ZG X e c.args.toList with
   | some args=>Z3G X e args c.callee
   | none=>false
  | _=>false
 | .bad=>false
def ZK (X:Ctx) (ops:Array Oper) (base i:Nat) (o:Oper) (e:Env):Bool:=Z1m (Region.before ops) ops i||ZO X ops base i o e
def quiet:Op->Bool
 | .move _ | .assign _ | .pick .. | .unOp .. | .convert .. | .field .. | .index .. | .extract .. | .load .. | .nilCheck _ | .indexAddr .. | .fieldAddr .. | .binOp .. | .build ..=>true
 | .makeFunc (.func _) _ _=>true
 | .call c=>match c.callee with
  | .builtin .len | .builtin .min | .builtin .max=>true
  | _=>false
 | _=>false
def Z4Z (ops:Array Oper) (i:Nat):Bool:=(List.range ops.size).all λj=>!unord (Region.before ops) i j||(match ops[j]? with|some o=>quiet o.op|none=>true)
def Alike (a b:Ent):Prop:=b=a\/∃ el cells l l',a = .blk el cells l/\b = .blk el cells l'
def mild:Op->Bool
 | .alloc _=>true
 | op=>quiet op
def Z2y (ops:Array Oper) (i:Nat):Bool:=(List.range ops.size).all λj=>!unord (Region.before ops) i j||(match ops[j]? with|some o=>mild o.op|none=>true)
def Z2V (X:Ctx) (ops:Array Oper) (base i:Nat) (e:Env) (op:Op):Bool:=Z2y ops i&&match op with
 | .call c=>match c.callee with
  | .value f=>match Z1 X e f,ZG X e c.args.toList with
   | some (.v (.fn f)),some args=>X.shut f&&X.keep f && !X.opn f && !args.all PV.pure&&(args.flatMap vids).all λk=>decide (k<base)
   | _,_=>false
  | _=>false
 | _=>false
def Z1V (X:Ctx) (ops:Array Oper) (i:Nat) (e:Env) (op:Op):Bool:=Z2y ops i&&match op with
 | .call c=>match c.callee with
  | .value f=>match Z1 X e f,ZG X e c.args.toList with
   | some (.v (.fn f)),some args=>X.fresh f&&X.opn f && !X.keep f&&args.all PV.pure
   | _,_=>false
  | _=>false
 | _=>false
def Z1o (X:Ctx) (call:ZR) (ops:Array Oper) (base i:Nat) (o:Oper) (e:Env) (G:Heap):Prop :=
 Zh o.op = .call/\(Z2V X ops base i e o.op=true\/(Z4Z ops i=true/\∀ id r G',Z2 X call e G id o.op=some (r,G')->∀ k,k<base+ops.size->Alike (G.ent k) (G'.ent k))\/(Z1V X ops i e o.op=true/\base+ops.size<=G.nx))
noncomputable def Zk (X:Ctx) (call:ZR) (n:Nat) (ops:Array Oper) (base i:Nat) (o:Oper) (e:Env) (G:Heap):Option (Env×Heap) :=
 if ZP ops e o=some true/\ZK X ops base i o e=false then @ite _ (Z1o X call ops base i o e G) (Classical.propDecidable _) (Zv X call n ops base i o e G) none else Zv X call n ops base i o e G
noncomputable def Z0E (X:Ctx) (call:ZR) (n:Nat) (ops:Array Oper) (base:Nat):Nat->List Oper->Env->Heap->Option (Env×Heap)
 | _,[],e,G=>some (e,G)
 | i,o::os,e,G=>(Zk X call n ops base i o e G).bind λr=>Z0E X call n ops base (i+1) os r.1 r.2
inductive Ex where
 | normal
 | exit (id:Nat)
 | ret
 deriving DecidableEq
abbrev Out:=Ex×Env×Heap
def Z0O (step:Env->Heap->Option Out):Nat->Env->Heap->Option Out
 | 0,_,_=>none
 | k+1,e,G=>
  match step e G with
  | some (.normal,e',G')=>Z0O step k e' G'
  | r=>r
def jumpD:Option Code->Option Ex
 | none=>some .normal
 | some .ret=>some .ret
 | some (.exit id)=>some (.exit id)
 | _=>none
noncomputable def Z5 (X:Ctx) (call:ZR) (lf n:Nat) (fn:FuncId):Code->Env->Heap->Option Out
 | .skip,e,G=>some (.normal,e,G)
 | .region _ ops draw,e,G=>
  let G0:Heap:=⟨G.nx+ops.size,G.ent⟩
  if draw then
   if Z1j ops then (Z0E X call n ops G.nx 0 ops.toList e G0).map λr=>(.normal,r.1,r.2) else none
  else (Z0a X call n ops G.nx 0 ops.toList e G0).map λr=>(.normal,r.1,r.2)
 | .seq a b,e,G=>
  match Z5 X call lf n fn a e G with
  | some (.normal,e',G')=>Z5 X call lf n fn b e' G'
  | r=>r
 | .cond c a b,e,G=>
  match Z1 X e c with
  | some (.v (.bool true))=>Z5 X call lf n fn a e G
  | some (.v (.bool false))=>Z5 X call lf n fn b e G
  | _=>none
 | .block id c,e,G=>
  match Z5 X call lf n fn c e G with
  | some (.exit id',e',G')=>if id'=id then some (.normal,e',G') else some (.exit id',e',G')
  | r=>r
 | .loop c,e,G=>Z0O (Z5 X call lf n fn c) lf e G
 | .exit id,e,G=>some (.exit id,e,G)
 | .ret,e,G=>some (.ret,e,G)
 | .label _,e,G=>some (.normal,e,G)
 | .scope c,e,G=>Z5 X call lf n fn c e G
 | .rangeFunc g ps assign body,e,G=>
  match Z1 X e g with
  | some g=>
   let id:=G.nx
   let G1:Heap:=⟨G.nx+1,upd G.ent id (.loop fn e n ps.toList assign body .ready none)⟩
   let r:=match g with
    | .v (.fn f)=>call (.fn f) [PV.yld id] G1
    | .clo f first caps=>call (.fn f) (first++[PV.yld id]++caps) G1
    | _=>none
   match r with
   | some (_,G2)=>
    match G2.ent id with
    | .loop fn' e' n' ps' as' bo' st pend=>
     if st=LoopState.busy then none else
     match jumpD pend with
     | some x=>some (x,e,G2.put id (.loop fn' e' n' ps' as' bo' .exhausted pend))
     | none=>none
    | _=>none
   | none=>none
  | none=>none
 | _,_,_=>none
def ZY (P:Program) (e:Env) (G:Heap):List ResultVar->Option (List PV)
 | []=>some []
 | .tmp t::rs=>(ZY P e G rs).map λxs=>e t::xs
 | .cell a t::rs=>(Z0l P G t (e a)).bind λx=>(ZY P e G rs).map λxs=>x::xs
def Z0J:List PV->PV
 | [x]=>x
 | xs=>.tup xs
def Z2t (args:List PV):Env:=λt=>args.getD t .undef
noncomputable def Z02 (X:Ctx) (call:ZR) (lf:Nat) (f:FuncId) (args:List PV) (G:Heap):Option (PV×Heap) :=
 match X.prim f with
 | some p=>Z3o X.P call G p args
 | none=>
 match X.P.funcs[f]? with
 | none=>none
 | some fn=>
  match fn.body with
  | none=>none
  | some c=>
   match Z5 X call lf (max fn.ntmps args.length) f c (Z2t args) G with
   | some (.normal,e,G')|some (.ret,e,G')=>(ZY X.P e G' fn.results.toList).map λxs=>(Z0J xs,G')
   | _=>none
def Z1p (e:Env) (n:Nat):List Nat->List PV->Env
 | p::ps,x::xs=>Z1p (putD n e (some p) x) n ps xs
 | _,_=>e
noncomputable def Za (X:Ctx):Nat->ZR
 | 0,_,_,_=>none
 | k+1,.fn f,args,G=>
  match X.intr f args with
  | some r=>if args.all PV.pure then some (r,G) else none
  | none=>
   match (if X.keep f then some (args,G) else Zz G args) with
   | none=>none
   | some (args,G1)=>
    match X.intr f args with
    | some r=>if args.all PV.pure then some (r,G1) else none
    | none=>
    if X.opn f then (if X.fresh f&&args.all PV.pure then (Z02 X (Za X k) k f args (G1.only [])).map λr=>(r.1,G1.join r.2) else Z02 X (Za X k) k f args G1)
    else if args.all PV.pure then (Z02 X (Za X k) k f args Heap.empty).bind λr=>(Z05 r.2 r.1).map λs=>(s.1,if X.thaw f&&s.1.Z3k then G else G1)
    else if X.keep f&&X.shut f then
     if Z2a G1 args then (Z02 X (Za X k) k f args (G1.only (args.flatMap vids))).bind λr=>(Z05 r.2 r.1).bind λs=>@ite _ (∀ id∈args.flatMap vids,s.2.ent id=G1.ent id) (Classical.propDecidable _) (some (s.1,G1)) none else none
    else (Z02 X (Za X k) k f args G1).bind λr=>Z05 r.2 r.1
 | k+1,.yld id,args,G=>
  match G.ent id with
  | .loop fn e n ps as_ bo .ready none=>
   if ps.length=args.length then
    match Zz G args with
    | none=>none
    | some (args,G)=>
    match Z5 X (Za X k) k n fn as_ (Z1p e n ps args) G with
    | some (.normal,e1,G1)=>
     match G1.ent id with
     | .loop _ _ _ _ _ _ .ready pend=>
      match Z5 X (Za X k) k n fn bo e1 (G1.put id (.loop fn e n ps as_ bo .busy pend)) with
      | some (x,_,G2)=>
       match x with
       | .normal=>some (.v (.bool true),G2.put id (.loop fn e n ps as_ bo .ready none))
       | .exit t=>some (.v (.bool false),G2.put id (.loop fn e n ps as_ bo .done (some (.exit t))))
       | .ret=>some (.v (.bool false),G2.put id (.loop fn e n ps as_ bo .done (some .ret)))
      | none=>none
     | _=>none
    | _=>none
   else none
  | _=>none
end Go.Dn

namespace Go.Dn
open Go
inductive FVR (w:World) (Imm:Nat->Prop):FV->Value->Prop
 | bool (b:Bool):FVR w Imm (.bool b) (.bool b)
 | int (k:IntKind) (n:Int):FVR w Imm (.int k n) (.int k n)
 | str (s:ByteArray):FVR w Imm (.str s) (.string s)
 | nilp:FVR w Imm .nilp (.pointer none)
 | nilf:FVR w Imm .nilf .nilFunc
 | fn (f:FuncId):FVR w Imm (.fn f) (.func (.func f) #[] #[])
 | nil:FVR w Imm (.sl []) (.slice none 0 0)
 | empty (a:Addr) (cap:Nat):FVR w Imm (.sl []) (.slice (some a) 0 cap)
 | sl (xs:List (List FV)) (b off cap sz:Nat) (vals:Nat->Nat->Value) (himm:Imm b) (hcap:xs.length<=cap)
   (hsz:∀ e∈xs,e.length=sz)
   (hcell:∀ i j,i<xs.length->j<sz->w.cell? ⟨b,off+i*sz+j,none⟩=some (vals i j))
   (hval:∀ (i j:Nat) (e:List FV) (x:FV),xs[i]? = some e->e[j]? = some x->FVR w Imm x (vals i j)) :
   FVR w Imm (.sl xs) (.slice (some ⟨b,off,none⟩) xs.length cap)
theorem FVR.mono {w w':World} {Imm Imm':Nat->Prop} {x:FV} {v:Value} (h:FVR w Imm x v)
  (hm:∀ b,Imm b->Imm' b/\w'.heap[b]? = w.heap[b]?):FVR w' Imm' x v:=by
 induction h with
 | bool b=>exact .bool b
 | int k n=>exact .int k n
 | str s=>exact .str s
 | nilp=>exact .nilp
 | nilf=>exact .nilf
 | fn f=>exact .fn f
 | nil=>exact .nil
 | empty a cap=>exact .empty a cap
 | sl xs b off cap sz vals himm hcap hsz hcell hval ih=>
  refine .sl xs b off cap sz vals (hm b himm).1 hcap hsz (λi j hi hj=>?_) ih;rw [<- hcell i j hi hj];simp only [World.cell?,(hm b himm).2]
theorem FVR.Z2S {w:World} {Imm:Nat->Prop} {x:FV} {v:Value} (h:FVR w Imm x v):v.oneCell'=true:=by
 cases h<;>rfl
def Heap.Z3b (G:Heap) (id:Nat):Prop:=∃ el cells lv,G.ent id = .blk el cells lv
def Heap.ver (G:Heap) (id:Nat):Nat:=match G.ent id with | .blk _ cells _=>cells.length|_=>0
def Heap.Z5b (G:Heap) (id:Nat):Prop:=∃ fn e n ps as_ bo st pend,G.ent id = .loop fn e n ps as_ bo st pend
def Heap.isMap (G:Heap) (id:Nat):Prop:=∃ kv,G.ent id = .map kv
def Live (G:Heap) (id:Nat):Prop:=(∃ el cells,G.ent id = .blk el cells true)\/G.Z5b id\/G.isMap id
def Imm (w:World) (Y:Nat->Prop) (G:Heap) (D:Nat->Nat) (b:Nat):Prop :=
 b<w.heap.size/\¬ Y b/\∀ id,Live G id->D id≠b
structure St where
 w:World
 Y:Nat->Prop
 G:Heap
 D:Nat->Nat
def St.imm (s:St):Nat->Prop:=Imm s.w s.Y s.G s.D
inductive PVR (s:St):PV->Value->Prop
 | undef:PVR s .undef Go.undef
 | v {x:FV} {v:Value} (h:FVR s.w s.imm x v):PVR s (.v x) v
 | nils:PVR s .nils (.slice none 0 0)
 | full {xs:List (List FV)} {o:Option Addr} (h:FVR s.w s.imm (.sl xs) (.slice o xs.length xs.length)) :
   PVR s (.full xs) (.slice o xs.length xs.length)
 | buf {id len sz:Nat} {v:Value} (hb:s.G.Z3b id) (hv:len*sz<=s.G.ver id) (ho:∃ a cap,v = .slice (some a) len cap/\len<=cap)
   (h:s.G.ver id=len*sz->∃ cap cs el fr,v = .slice (some ⟨s.D id,0,none⟩) len cap/\len<=cap/\s.w.heap[s.D id]? = some (.cells cs el fr)/\cs.size=cap*sz/\cap<=maxLen) :
   PVR s (.buf id len sz) v
 | ptr {id ver off:Nat} {v:Value} (hb:s.G.Z3b id) (hv:ver<=s.G.ver id) (ho:v.oneCell'=true)
   (h:s.G.ver id=ver->v = .pointer (some ⟨s.D id,off,none⟩)):PVR s (.ptr id ver off) v
 | fptr {cells:List FV} {b off:Nat} (himm:s.imm b)
   (hcell:∀ (j:Nat) (x:FV),cells[j]? = some x->∃ u,s.w.cell? ⟨b,off+j,none⟩=some u/\FVR s.w s.imm x u):PVR s (.fptr cells) (.pointer (some ⟨b,off,none⟩))
 | clo {f:FuncId} {first caps:List PV} {fv cv:Array Value} (hf:first.length=fv.size) (hc:caps.length=cv.size)
   (h1:∀ (i:Nat) (x:PV),first[i]? = some x->PVR s x (fv.getD i Go.undef))
   (h2:∀ (i:Nat) (x:PV),caps[i]? = some x->PVR s x (cv.getD i Go.undef)):PVR s (.clo f first caps) (.func (.func f) fv cv)
 | yld {id:Nat} (h:s.G.Z5b id):PVR s (.yld id) (.func (.yield (s.D id)) #[] #[])
 | agg {cells:List PV} {cs:Array Value} (hs:cells.length=cs.size)
   (h:∀ (i:Nat) (x:PV),cells[i]? = some x->PVR s x (cs.getD i Go.undef)) (ho:∀ (i:Nat) (u:Value),cs[i]? = some u->u.oneCell'=true):PVR s (.agg cells) (.agg cs)
 | tup {xs:List PV} {vs:Array Value} (hs:xs.length=vs.size)
   (h:∀ (i:Nat) (x:PV),xs[i]? = some x->PVR s x (vs.getD i Go.undef)):PVR s (.tup xs) (.tuple vs)
 | mp {id:Nat} (h:s.G.isMap id):PVR s (.mp id) (.map (some (s.D id)))
 | view {id tot off len sz:Nat} {v:Value} (hb:s.G.Z3b id) (hv:tot*sz<=s.G.ver id) (ho:∃ a cap,v = .slice (some a) len cap/\len<=cap)
   (h:s.G.ver id=tot*sz->∃ cap,v = .slice (some ⟨s.D id,off*sz,none⟩) len cap):PVR s (.view id tot off len sz) v
structure Ev (s s':St):Prop where
 Y:s'.Y=s.Y
 size:s.w.heap.size<=s'.w.heap.size
 keep:∀ b,b<s.w.heap.size->(∀ id,Live s.G id->s.D id≠b)->s'.w.heap[b]? = s.w.heap[b]?
 live:∀ id,Live s'.G id->s'.D id<s.w.heap.size->∃ id0,Live s.G id0/\s.D id0=s'.D id
 blk:∀ id el cells lv,s.G.ent id = .blk el cells lv->∃ cells' lv',s'.G.ent id = .blk el cells' lv'/\cells.length<=cells'.length /\
  (cells'.length=cells.length->s'.D id=s.D id/\∀ cs e fr,s.w.heap[s.D id]? = some (.cells cs e fr)->∃ cs' fr',s'.w.heap[s.D id]? = some (.cells cs' e fr')/\cs'.size=cs.size)
 loop:∀ id fn e n ps as_ bo st pend,s.G.ent id = .loop fn e n ps as_ bo st pend->(∃ st' pend',s'.G.ent id = .loop fn e n ps as_ bo st' pend')/\s'.D id=s.D id
 map:∀ id kv,s.G.ent id = .map kv->(∃ kv',s'.G.ent id = .map kv')/\s'.D id=s.D id
 os:s'.w.os=s.w.os
 tape:s'.w.tape=s.w.tape
 output:s'.w.output=s.w.output
theorem Ev.refl (s:St):Ev s s where
 Y:=rfl
 size:=YA _
 keep:=λ_ _ _=>rfl
 live:=λid h _=>⟨id,h,rfl⟩
 blk:=λid el cells lv h=>⟨cells,lv,h,YA _,λ_=>⟨rfl,λcs e fr h=>⟨cs,fr,h,rfl⟩⟩⟩
 loop:=λid fn e n ps as_ bo st pend h=>⟨⟨st,pend,h⟩,rfl⟩
 map:=λid kv h=>⟨⟨kv,h⟩,rfl⟩
 os:=rfl
 tape:=rfl
 output:=rfl
theorem Ev.trans {s s' s'':St} (h:Ev s s') (h':Ev s' s''):Ev s s'' where
 Y:=h'.Y.trans h.Y
 size:=YT h.size h'.size
 keep:=λb hb hl=>by
  rw [h'.keep b (YL hb h.size),h.keep b hb hl];intro id hid heq;obtain ⟨id0,h0,h1⟩:=h.live id hid (heq▸hb);exact hl id0 h0 (h1.trans heq)
 live:=λid hid hlt=>by
  obtain ⟨id1,h1,e1⟩:=h'.live id hid (YL hlt h.size);obtain ⟨id0,h0,e0⟩:=h.live id1 h1 (by rw [e1];exact hlt)
  exact ⟨id0,h0,e0.trans e1⟩
 blk:=λid el cells lv hb=>by
  obtain ⟨c1,l1,e1,le1,k1⟩:=h.blk id el cells lv hb;obtain ⟨c2,l2,e2,le2,k2⟩:=h'.blk id el c1 l1 e1;refine ⟨c2,l2,e2,YT le1 le2,λheq=>?_⟩;have q1:c1.length=cells.length:=by omega
  have q2:c2.length=c1.length:=by omega
  obtain ⟨a1,b1⟩:=k1 q1;obtain ⟨a2,b2⟩:=k2 q2;refine ⟨a2.trans a1,λcs e fr hc=>?_⟩;obtain ⟨cs1,fr1,hc1,hs1⟩:=b1 cs e fr hc;obtain ⟨cs2,fr2,hc2,hs2⟩:=b2 cs1 e fr1 (by rw [a1];exact hc1)
  exact ⟨cs2,fr2,by rw [a1] at hc2;exact hc2,hs2.trans hs1⟩
 loop:=λid fn e n ps as_ bo st pend hl=>by
  obtain ⟨⟨s1,p1,e1⟩,i1⟩:=h.loop id fn e n ps as_ bo st pend hl;obtain ⟨h2,i2⟩:=h'.loop id fn e n ps as_ bo s1 p1 e1;exact ⟨h2,i2.trans i1⟩
 map:=λid kv hl=>by
  obtain ⟨⟨k1,e1⟩,i1⟩:=h.map id kv hl;obtain ⟨h2,i2⟩:=h'.map id k1 e1;exact ⟨h2,i2.trans i1⟩
 os:=h'.os.trans h.os
 tape:=h'.tape.trans h.tape
 output:=h'.output.trans h.output
theorem Ev.imm {s s':St} (h:Ev s s') (b:Nat) (hb:s.imm b):s'.imm b/\s'.w.heap[b]? = s.w.heap[b]?:=by
 obtain ⟨h1,h2,h3⟩:=hb
 refine ⟨⟨YL h1 h.size,by rw [h.Y];exact h2,λid hid heq=>?_⟩,h.keep b h1 h3⟩
 obtain ⟨id0,h0,e0⟩:=h.live id hid (heq▸h1)
 exact h3 id0 h0 (e0.trans heq)
theorem Ev.fvr {s s':St} (h:Ev s s') {x:FV} {v:Value} (hx:FVR s.w s.imm x v):FVR s'.w s'.imm x v:=hx.mono h.imm
theorem Ev.Z3b {s s':St} (h:Ev s s') {id:Nat} (hb:s.G.Z3b id):s'.G.Z3b id:=by
 obtain ⟨el,cells,lv,e⟩:=hb
 obtain ⟨c',l',e',_⟩:=h.blk id el cells lv e
 exact ⟨el,c',l',e'⟩
theorem Ev.ver {s s':St} (h:Ev s s') {id:Nat} (hb:s.G.Z3b id):s.G.ver id<=s'.G.ver id /\
  (s'.G.ver id=s.G.ver id->s'.D id=s.D id/\∀ cs e fr,s.w.heap[s.D id]? = some (.cells cs e fr)->∃ cs' fr',s'.w.heap[s.D id]? = some (.cells cs' e fr')/\cs'.size=cs.size):=by
 obtain ⟨el,cells,lv,e⟩:=hb
 obtain ⟨c',l',e',hle,hk⟩:=h.blk id el cells lv e
 simp only [Heap.ver,e,e']
 exact ⟨hle,hk⟩
theorem Ev.pvr {s s':St} (h:Ev s s') {x:PV} {v:Value} (hx:PVR s x v):PVR s' x v:=by
 induction hx with
 | undef=>exact .undef
 | v hx=>exact .v (h.fvr hx)
 | nils=>exact .nils
 | full hx=>exact .full (h.fvr hx)
 | buf hb hv ho hk=>
  obtain ⟨hle,heq⟩:=h.ver hb;refine .buf (h.Z3b hb) (YT hv hle) ho λe=>?_;have e1:s'.G.ver _=s.G.ver _:=Nat.le_antisymm (by omega) hle
  obtain ⟨hi,hs⟩:=heq e1;obtain ⟨cap,cs,el,fr,q1,q2,q3,q4,q5⟩:=hk (by omega)
  obtain ⟨cs',fr',r1,r2⟩:=hs cs el fr q3;exact ⟨cap,cs',el,fr',by rw [hi];exact q1,q2,by rw [hi];exact r1,r2.trans q4,q5⟩
 | ptr hb hv ho hk=>
  obtain ⟨hle,heq⟩:=h.ver hb;refine .ptr (h.Z3b hb) (YT hv hle) ho λe=>?_;have e1:s'.G.ver _=s.G.ver _:=Nat.le_antisymm (by omega) hle
  rw [(heq e1).1];exact hk (by omega)
 | @fptr cells b off himm hcell=>
  refine .fptr (h.imm _ himm).1 (λj x hj=>?_);obtain ⟨u,h1,h2⟩:=hcell j x hj;refine ⟨u,?_,h.fvr h2⟩;rw [<- h1];simp only [World.cell?,(h.imm _ himm).2]
 | clo hf hc _ _ ih1 ih2=>exact .clo hf hc ih1 ih2
 | yld hl=>
  obtain ⟨fn,e,n,ps,as_,bo,st,pend,hl⟩:=hl;obtain ⟨⟨st',pend',h1⟩,h2⟩:=h.loop _ _ _ _ _ _ _ _ _ hl;rw [<- h2];exact .yld ⟨_,_,_,_,_,_,_,_,h1⟩
 | agg hs _ ho ih=>exact .agg hs ih ho
 | tup hs _ ih=>exact .tup hs ih
 | mp hm=>
  obtain ⟨kv,hm⟩:=hm;obtain ⟨⟨kv',h1⟩,h2⟩:=h.map _ _ hm;rw [<- h2];exact .mp ⟨_,h1⟩
 | view hb hv ho hk=>
  obtain ⟨hle,heq⟩:=h.ver hb;refine .view (h.Z3b hb) (YT hv hle) ho λe=>?_;have e1:s'.G.ver _=s.G.ver _:=Nat.le_antisymm (by omega) hle
  rw [(heq e1).1];exact hk (by omega)
def mlist (kv:List (Int×Int)) (j:Nat):List MapEntry:=(kv.zipIdx j).map λp=>{ key:=.int .i64 p.1.1,val:=.int .i64 p.1.2,born:=p.2 }
def mobj (kv:List (Int×Int)):Obj:=.map (mlist kv 0).toArray kv.length
def EntOK (s:St) (id:Nat):Ent->Prop
 | .none=>True
 | .blk el cells lv=>∃ cs fr,s.w.heap[s.D id]? = some (.cells cs el fr)/\cells.length<=cs.size/\(lv=true->fr=(0,0)) /\
   ∀ (j:Nat) (x:PV),cells[j]? = some x->∃ u,cs[j]? = some u/\PVR s x u/\u.oneCell'=true
 | .loop _ e n ps as_ bo st pend=>∃ fn tmps defers,s.w.heap[s.D id]? = some (.loop { state:=st,pending:=pend,fn:=fn,tmps:=tmps,params:=ps.toArray,assign:=as_,body:=bo,defers:=defers }) /\
   tmps.size=n/\∀ t,PVR s (e t) (tmps.getD t Go.undef)
 | .map kv=>s.w.heap[s.D id]? = some (mobj kv)
structure Inv (s:St):Prop where
 ent:∀ id,EntOK s id (s.G.ent id)
 inj:∀ id id',Live s.G id->Live s.G id'->s.D id=s.D id'->id=id'
 notY:∀ id,Live s.G id->¬ s.Y (s.D id)
 fz:∀ id el cells,s.G.ent id = .blk el cells false->s.imm (s.D id)
 nx:∀ id,s.G.nx<=id->s.G.ent id = .none
 Ylt:∀ b,s.Y b->b<s.w.heap.size
def EnvR (s:St) (n:Nat) (e:Env) (a:Act):Prop:=a.tmps.size=n/\∀ t,PVR s (e t) (a.tmps.getD t Go.undef)
theorem EnvR.mono {s s':St} {n:Nat} {e:Env} {a:Act} (h:EnvR s n e a) (hev:Ev s s'):EnvR s' n e a :=
 ⟨h.1,λt=>hev.pvr (h.2 t)⟩
theorem Live.lt {s:St} (hi:Inv s) {id:Nat} (h:Live s.G id):s.D id<s.w.heap.size:=by
 have he:=hi.ent id
 rcases h with ⟨el,cells,e⟩|⟨fn,e',n,ps,as_,bo,st,pend,e⟩|⟨kv,e⟩
 ·rw [e] at he;obtain ⟨cs,fr,h1,_⟩:=he;exact (Array.getElem?_eq_some_iff.1 h1).1
 ·rw [e] at he;obtain ⟨fn2,tmps,defers,h1,_⟩:=he;exact (Array.getElem?_eq_some_iff.1 h1).1
 ·rw [e] at he;exact (Array.getElem?_eq_some_iff.1 he).1
end Go.Dn

namespace Go.Dn
open Go
variable {X:Ctx} {s:St} {n:Nat} {e:Env} {a:Act}
def Zp (X:Ctx) (s:St):Prop:=∀ g cells,X.glob g=some cells->PVR s (.fptr cells) (.pointer (some ⟨g,0,none⟩))
theorem Zp.mono {s':St} (h:Zp X s) (hev:Ev s s'):Zp X s':=λg cells hg=>hev.pvr (h g cells hg)
theorem ofVal_fvr {c:Value} {x:FV} (h:FV.ofVal c=some x):FVR s.w s.imm x c:=by
 unfold FV.ofVal at h
 split at h<;>simp at h<;>subst h
 ·exact .bool _
 ·exact .int _ _
 ·exact .str _
 ·exact .nilp
 ·exact .nilf
theorem Z6P {c:Value} {x:PV} (h:PV.ofCell c=some x):PVR s x c/\c.oneCell'=true:=by
 unfold PV.ofCell at h
 split at h
 ·simp at h;subst h;exact ⟨.nils,rfl⟩
 ·simp only [Y0] at h;obtain ⟨y,hy,rfl⟩:=h;exact ⟨.v (ofVal_fvr hy),(ofVal_fvr (s:=s) hy).Z2S⟩
theorem Z2P:∀ {cs:List Value} {xs:List PV},Z4I cs=some xs->xs.length=cs.length/\∀ (i:Nat) (x:PV),xs[i]? = some x->∃ u,cs[i]? = some u/\PVR s x u/\u.oneCell'=true
 | [],xs,h=>by simp [Z4I] at h;subst h;simp
 | c::cs,xs,h=>by
  simp only [Z4I,Y2,Y5] at h;obtain ⟨y,hy,ys,hys,rfl⟩:=h;obtain ⟨h1,h2⟩:=Z2P hys;refine ⟨by simp [h1],λi x hi=>?_⟩
  cases i with
  | zero=>simp at hi;subst hi;exact ⟨c,by simp,Z6P hy⟩
  | succ i=>simp at hi;simpa using h2 i x hi
theorem ofVal_pvr {c:Value} {x:PV} (h:PV.ofVal c=some x):PVR s x c:=by
 unfold PV.ofVal at h
 split at h
 ·simp only [Y0] at h;obtain ⟨xs,hx,rfl⟩:=h;obtain ⟨h1,h2⟩:=Z2P (s:=s) hx;refine .agg (by simpa using h1) (λi x hi=>?_) (λi u hu=>?_)
  ·obtain ⟨u,hu,hp,_⟩:=h2 i x hi;rename_i cs;simp only [Yw] at hu
   simpa [Y7,hu] using hp
  ·rename_i cs;have hl:i<xs.length:=by
    have:=(Array.getElem?_eq_some_iff.1 hu).1;simp only [Ys] at h1;omega
   obtain ⟨u',hu',_,ho⟩:=h2 i xs[i] (Y3 hl);simp only [Yw] at hu';rw [hu] at hu';cases hu';exact ho
 ·rename_i vs
  split at h
  ·rename_i hz;simp at h;subst h;have:vs = #[]:=Y0D hz;subst this;exact .undef
  ·simp at h
 ·exact (Z6P h).1
theorem Z6 {x:Operand} {y:PV} (hG:Zp X s) (he:EnvR s n e a) (h:Z1 X e x=some y):PVR s y (a.eval x):=by
 cases x with
 | tmp t=>simp [Z1] at h;subst h;exact he.2 t
 | const c=>exact ofVal_pvr h
 | global g=>
  simp only [Z1,Y0] at h;obtain ⟨cs,hc,rfl⟩:=h;exact hG g cs hc
 | func f=>simp [Z1] at h;subst h;exact .v (.fn f)
theorem Z58 (hG:Zp X s) (he:EnvR s n e a):∀ {xs:List Operand} {ys:List PV},ZG X e xs=some ys ->
  ys.length=xs.length/\∀ (i:Nat) (y:PV),ys[i]? = some y->∃ o,xs[i]? = some o/\PVR s y (a.eval o)
 | [],ys,h=>by simp [ZG] at h;subst h;simp
 | x::xs,ys,h=>by
  simp only [ZG,Y2,Y5] at h;obtain ⟨y,hy,zs,hzs,rfl⟩:=h;obtain ⟨h1,h2⟩:=Z58 hG he hzs;refine ⟨by simp [h1],λi z hi=>?_⟩
  cases i with
  | zero=>simp at hi;subst hi;exact ⟨x,by simp,Z6 hG he hy⟩
  | succ i=>simp at hi;simpa using h2 i z hi
def PVRs (s:St) (xs:List PV) (vs:Array Value):Prop:=xs.length=vs.size/\∀ (i:Nat) (x:PV),xs[i]? = some x->PVR s x (vs.getD i Go.undef)
theorem PVRs.mono {s':St} {xs:List PV} {vs:Array Value} (h:PVRs s xs vs) (hev:Ev s s'):PVRs s' xs vs:=⟨h.1,λi x hi=>hev.pvr (h.2 i x hi)⟩
theorem Z10 (hG:Zp X s) (he:EnvR s n e a) {xs:Array Operand} {ys:List PV} (h:ZG X e xs.toList=some ys):PVRs s ys (xs.map a.eval):=by
 obtain ⟨h1,h2⟩:=Z58 hG he h
 refine ⟨by simpa using h1,λi y hi=>?_⟩
 obtain ⟨o,ho,hp⟩:=h2 i y hi
 simp only [Yw] at ho
 simpa [Y7,ho] using hp
def Nx (X:Ctx) (s:St) (a:Act) (dst:Option Tmp) (x:PV) (G':Heap) (a':Act) (w':World):Prop :=
 ∃ D' v,a'=a.put dst v/\Inv ⟨w',s.Y,G',D'⟩/\Ev s ⟨w',s.Y,G',D'⟩/\PVR ⟨w',s.Y,G',D'⟩ x v
def Gives (X:Ctx) (s:St) (x:PV) (G':Heap) (r:Result Value):Prop :=
 ∃ D' v w',r = .ok v w'/\Inv ⟨w',s.Y,G',D'⟩/\Ev s ⟨w',s.Y,G',D'⟩/\PVR ⟨w',s.Y,G',D'⟩ x v
theorem Gives.same {x:PV} {v:Value} (hi:Inv s) (h:PVR s x v):Gives X s x s.G (.ok v s.w) :=
 ⟨s.D,v,s.w,rfl,hi,Ev.refl s,h⟩
theorem Zt {P:Program} {t:TypeId} {d:TypeDesc} (w:World) (h:P.underlying t=some d):(underlying t).run P w = .ok d w:=by
 simp [underlying,h]
theorem info_of {P:Program} {t:TypeId} {i:TypeInfo} (w:World) (h:P.info? t=some i):(typeInfo t).run P w = .ok i w:=by
 simp [typeInfo,h]
theorem Z0X {P:Program} {t:TypeId} {k:Nat} (w:World) (h:tsize P t=some k):(sizeOf t).run P w = .ok k w:=by
 simp only [tsize,Y0] at h
 obtain ⟨i,hi,rfl⟩:=h
 simp [sizeOf,info_of w hi]
theorem Z54 {P:Program} {t:TypeId} {b:Bool} (w:World) (h:tagg P t=some b):(isAgg t).run P w = .ok b w:=by
 simp only [tagg,Y0] at h
 obtain ⟨d,hd,rfl⟩:=h
 simp only [isAgg,Sem.run_bind,Zt w hd,Result.andThen_ok]
 cases d<;>rfl
theorem Z0D {P:Program} {t e:TypeId} (h:tslice P t=some e):P.underlying t=some (.slice e):=by
 unfold tslice at h
 split at h
 ·simp at h;subst h;assumption
 ·simp at h
theorem Z3D {P:Program} {t:TypeId} {r:Nat×TypeId} (h:tarray P t=some r):P.underlying t=some (.array r.1 r.2):=by
 unfold tarray at h
 split at h
 ·simp at h;subst h;assumption
 ·simp at h
theorem tstr_run {P:Program} {t:TypeId} (h:tstr P t=true):P.underlying t=some .string:=by
 unfold tstr at h
 split at h
 ·assumption
 ·simp at h
theorem Z1J {x:PV} {i:Nat} (h:Z2x x=some i) {v:Value} (hv:PVR s x v):∃ k,v = .int k (i:Int):=by
 unfold Z2x at h
 split at h
 ·rename_i k m
  split at h
  ·rename_i h0;simp at h;subst h;cases hv with
   | v hv=>cases hv;exact ⟨k,by congr 1;omega⟩
  ·simp at h
 ·simp at h
theorem Z4w {G:Heap} {id k:Nat} (h:G.cur id k=true):G.Z3b id/\G.ver id=k:=by
 unfold Heap.cur at h
 split at h
 ·rename_i el cells lv he;simp at h;exact ⟨⟨el,cells,lv,he⟩,by simp [Heap.ver,he,h]⟩
 ·simp at h
theorem PVR.Z2S {x:PV} {v:Value} (h:PVR s x v) (hx:∀ cs,x ≠ .agg cs) (ht:∀ vs,x ≠ .tup vs) (hu:x ≠ .undef):v.oneCell'=true:=by
 cases h with
 | undef=>exact absurd rfl hu
 | v h=>exact h.Z2S
 | nils=>rfl
 | full h=>rfl
 | buf hb hv ho h=>obtain ⟨_,_,rfl,_⟩:=ho;rfl
 | view hb hv ho h=>obtain ⟨_,_,rfl,_⟩:=ho;rfl
 | ptr hb hv ho h=>exact ho
 | fptr himm hcell=>rfl
 | clo hf hc h1 h2=>rfl
 | yld h=>rfl
 | mp h=>rfl
 | agg hs h ho=>exact absurd rfl (hx _)
 | tup hs h=>exact absurd rfl (ht _)
theorem Z5c {x:PV} {ys:List PV} {v:Value} (hc:x.cells=some ys) (h:PVR s x v) :
  ys.length=v.cells.size/\∀ (i:Nat) (y:PV),ys[i]? = some y->∃ u,v.cells[i]? = some u/\PVR s y u/\u.oneCell'=true:=by
 have one:∀ {x:PV} {v:Value},PVR s x v->(∀ cs,x ≠ .agg cs)->(∀ vs,x ≠ .tup vs)->x ≠ .undef->ys=[x] ->
   ys.length=v.cells.size/\∀ (i:Nat) (y:PV),ys[i]? = some y->∃ u,v.cells[i]? = some u/\PVR s y u/\u.oneCell'=true:=by
  intro x v h h1 h2 h3 hy;subst hy;have ho:=h.Z2S h1 h2 h3;have hv:v.cells = #[v]:=by cases v<;>first|rfl|simp [Value.oneCell'] at ho
  rw [hv];refine ⟨rfl,λi y hi=>?_⟩
  cases i with
  | zero=>simp at hi;subst hi;exact ⟨v,rfl,h,ho⟩
  | succ i=>simp at hi
 cases x with
 | undef=>simp [PV.cells] at hc
 | tup _=>simp [PV.cells] at hc
 | agg cs=>
  simp [PV.cells] at hc;subst hc;cases h with
  | @agg _ cv hs h ho=>
   refine ⟨hs,λi y hi=>?_⟩;have hl:i<cv.size:=by rw [<- hs];exact (List.getElem?_eq_some_iff.1 hi).1
   refine ⟨cv[i],by simp [Value.cells,hl],?_,ho i _ (YV hl)⟩
   have:=h i y hi
   simpa [Y7,hl] using this
 | v y=>simp [PV.cells] at hc;exact one h (by simp) (by simp) (by simp) hc.symm
 | nils=>simp [PV.cells] at hc;exact one h (by simp) (by simp) (by simp) hc.symm
 | full y=>simp [PV.cells] at hc;exact one h (by simp) (by simp) (by simp) hc.symm
 | buf _ _ _=>simp [PV.cells] at hc;exact one h (by simp) (by simp) (by simp) hc.symm
 | ptr _ _ _=>simp [PV.cells] at hc;exact one h (by simp) (by simp) (by simp) hc.symm
 | fptr _=>simp [PV.cells] at hc;exact one h (by simp) (by simp) (by simp) hc.symm
 | clo _ _ _=>simp [PV.cells] at hc;exact one h (by simp) (by simp) (by simp) hc.symm
 | yld _=>simp [PV.cells] at hc;exact one h (by simp) (by simp) (by simp) hc.symm
 | mp _=>simp [PV.cells] at hc;exact one h (by simp) (by simp) (by simp) hc.symm
 | view _ _ _ _ _=>simp [PV.cells] at hc;exact one h (by simp) (by simp) (by simp) hc.symm
end Go.Dn

namespace Go.Dn
open Go
theorem Z7 {α:Type} (f:Nat->α) (i:Nat) (x:α):upd f i x i=x:=by simp [upd]
theorem ZH {α:Type} (f:Nat->α) {i j:Nat} (x:α) (h:j≠i):upd f i x j=f j:=by simp [upd,h]
theorem Z0T {G:Heap} {id:Nat} {en:Ent} {id':Nat} (h:id'≠id):Live (G.put id en) id'↔Live G id':=by
 simp [Live,Heap.Z5b,Heap.isMap,Heap.put,upd,h]
structure Put (s:St) (id:Nat) (el:TypeId) (cells':List PV) (g:Nat) (w':World) (cs':Array Value):Prop where
 old:s.G.ent id = .none\/∃ cells,s.G.ent id = .blk el cells true/\cells.length<=cells'.length/\(cells'.length=cells.length->g=s.D id)
 place:s.w.heap.size<=g\/(g=s.D id/\(∃ cells,s.G.ent id = .blk el cells true)/\∀ cs e fr,s.w.heap[g]? = some (.cells cs e fr)->cs'.size=cs.size)
 size:s.w.heap.size<=w'.heap.size
 others:∀ b,b<s.w.heap.size->b≠g->w'.heap[b]? = s.w.heap[b]?
 here:w'.heap[g]? = some (.cells cs' el (0,0))
 len:cells'.length<=cs'.size
 cells:∀ (j:Nat) (x:PV),cells'[j]? = some x->∃ u,cs'[j]? = some u/\PVR s x u/\u.oneCell'=true
 nx:id<s.G.nx
 os:w'.os=s.w.os
 tape:w'.tape=s.w.tape
 output:w'.output=s.w.output
def St.put (s:St) (id:Nat) (el:TypeId) (cells':List PV) (g:Nat) (w':World):St:=⟨w',s.Y,s.G.put id (.blk el cells' true),upd s.D id g⟩
theorem Put.old_elem {s:St} (hi:Inv s) {id:Nat} {el:TypeId} {cells:List PV} {lv:Bool} (h:s.G.ent id = .blk el cells lv):∃ cs fr,s.w.heap[s.D id]? = some (.cells cs el fr):=by
 have:=hi.ent id
 rw [h] at this
 obtain ⟨cs,fr,h1,_⟩:=this
 exact ⟨cs,fr,h1⟩
theorem Put.ev {s:St} {id:Nat} {el:TypeId} {cells':List PV} {g:Nat} {w':World} {cs':Array Value} (hi:Inv s) (h:Put s id el cells' g w' cs') :
  Ev s (s.put id el cells' g w') where
 Y:=rfl
 size:=h.size
 keep:=λb hb hl=>by
  refine h.others b hb λe=>?_;rcases h.place with hp|⟨hp,⟨cells,hc⟩,_⟩
  ·omega
  ·exact hl id (.inl ⟨el,cells,hc⟩) (by rw [e,hp])
 live:=λid' hid hlt=>by
  by_cases e:id'=id
  ·subst e;simp only [St.put,Z7] at hlt ⊢;rcases h.place with hp|⟨hp,⟨cells,hc⟩,_⟩
   ·omega
   ·exact ⟨id',.inl ⟨el,cells,hc⟩,hp.symm⟩
  ·simp only [St.put,ZH _ _ e] at hlt ⊢;exact ⟨id',(Z0T e).1 hid,rfl⟩
 blk:=λid' el' cells lv hb=>by
  by_cases e:id'=id
  ·subst e;rcases h.old with ho|⟨c0,ho,hle,hg⟩
   ·rw [ho] at hb;cases hb
   ·rw [ho] at hb;cases hb;refine ⟨cells',true,by simp [St.put,Heap.put,Z7],hle,λheq=>?_⟩
    have hg':=hg heq;subst hg';refine ⟨by simp [St.put,Z7],λcs e fr hcs=>?_⟩
    obtain ⟨cs0,fr0,h0⟩:=Put.old_elem hi ho;rw [h0] at hcs;cases hcs;refine ⟨cs',(0,0),by rw [<- h.here];rfl,?_⟩
    rcases h.place with hp|⟨_,_,hsz⟩
    ·have:=(Array.getElem?_eq_some_iff.1 h0).1;omega
    ·exact hsz _ _ _ h0
  ·refine ⟨cells,lv,by simp [St.put,Heap.put,ZH _ _ e,hb],YA _,λ_=>⟨by simp [St.put,ZH _ _ e],λcs e' fr hcs=>?_⟩⟩
   refine ⟨cs,fr,?_,rfl⟩;rw [<- hcs];refine h.others _ (Array.getElem?_eq_some_iff.1 hcs).1 λhg=>?_;rcases h.place with hp|⟨hp,⟨c,hc⟩,_⟩
   ·have:=(Array.getElem?_eq_some_iff.1 hcs).1;omega
   ·cases lv with
    | true=>exact e (hi.inj id' id (.inl ⟨el',cells,hb⟩) (.inl ⟨el,c,hc⟩) (hg.trans hp))
    | false=>exact (hi.fz id' el' cells hb).2.2 id (.inl ⟨el,c,hc⟩) (hp▸hg.symm)
 loop:=λid' fn e n ps as_ bo st pend hl=>by
  by_cases e':id'=id
  ·subst e';rcases h.old with ho|⟨c0,ho,_⟩<;>rw [ho] at hl<;>cases hl
  ·exact ⟨⟨st,pend,by simp [St.put,Heap.put,ZH _ _ e',hl]⟩,by simp [St.put,ZH _ _ e']⟩
 map:=λid' kv hl=>by
  by_cases e':id'=id
  ·subst e';rcases h.old with ho|⟨c0,ho,_⟩<;>rw [ho] at hl<;>cases hl
  ·exact ⟨⟨kv,by simp [St.put,Heap.put,ZH _ _ e',hl]⟩,by simp [St.put,ZH _ _ e']⟩
 os:=h.os
 tape:=h.tape
 output:=h.output
theorem Put.ne {s:St} {id:Nat} {el:TypeId} {cells':List PV} {g:Nat} {w':World} {cs':Array Value} (hi:Inv s) (h:Put s id el cells' g w' cs')
  {id':Nat} (hne:id'≠id) (hl:Live s.G id'):s.D id'≠g:=by
 intro e
 rcases h.place with hp|⟨hp,⟨c,hc⟩,_⟩
 ·have:=hl.lt hi;omega
 ·exact hne (hi.inj id' id hl (.inl ⟨el,c,hc⟩) (e.trans hp))
theorem Put.inv {s:St} {id:Nat} {el:TypeId} {cells':List PV} {g:Nat} {w':World} {cs':Array Value} (hi:Inv s) (h:Put s id el cells' g w' cs') :
  Inv (s.put id el cells' g w'):=by
 have hev:=h.ev hi
 refine ⟨λid'=>?_,λid1 id2 h1 h2 he=>?_,λid' hl=>?_,λid' el' c hb=>?_,λid' hn=>?_,λb hb=>YL (hi.Ylt b hb) h.size⟩
 ·by_cases e:id'=id
  ·subst e;have:(s.put id' el cells' g w').G.ent id' = .blk el cells' true:=by simp [St.put,Heap.put,Z7]
   rw [this];refine ⟨cs',(0,0),by simp only [St.put,Z7];exact h.here,h.len,λ_=>rfl,λj x hj=>?_⟩
   obtain ⟨u,hu,hp,ho⟩:=h.cells j x hj;exact ⟨u,hu,hev.pvr hp,ho⟩
  ·have h1:(s.put id el cells' g w').G.ent id'=s.G.ent id':=by simp [St.put,Heap.put,ZH _ _ e]
   have h2:(s.put id el cells' g w').D id'=s.D id':=by simp [St.put,ZH _ _ e]
   rw [h1];have he:=hi.ent id'
   cases hent:s.G.ent id' with
   | none=>trivial
   | blk el' c lv=>
    rw [hent] at he;obtain ⟨cs,fr,q1,q2,q3,q4⟩:=he;refine ⟨cs,fr,?_,q2,q3,λj x hj=>?_⟩
    ·rw [h2,<- q1];refine h.others _ (Array.getElem?_eq_some_iff.1 q1).1 λhg=>?_
     cases lv with
     | true=>exact h.ne hi e (.inl ⟨el',c,hent⟩) hg
     | false=>
      rcases h.place with hp|⟨hp,⟨c',hc⟩,_⟩
      ·have:=(Array.getElem?_eq_some_iff.1 q1).1;omega
      ·exact (hi.fz id' el' c hent).2.2 id (.inl ⟨el,c',hc⟩) (hp▸hg.symm)
    ·obtain ⟨u,hu,hp,ho⟩:=q4 j x hj;exact ⟨u,hu,hev.pvr hp,ho⟩
   | loop fn e' n ps as_ bo st pend=>
    rw [hent] at he;obtain ⟨fn2,tmps,defers,q1,q2,q3⟩:=he;refine ⟨fn2,tmps,defers,?_,q2,λt=>hev.pvr (q3 t)⟩;rw [h2,<- q1];exact h.others _ (Array.getElem?_eq_some_iff.1 q1).1 (h.ne hi e (.inr (.inl ⟨_,_,_,_,_,_,_,_,hent⟩)))
   | map kv=>
    rw [hent] at he;show w'.heap[_]? = _;rw [h2,<- he];exact h.others _ (Array.getElem?_eq_some_iff.1 he).1 (h.ne hi e (.inr (.inr ⟨_,hent⟩)))
 ·by_cases e1:id1=id<;>by_cases e2:id2=id
  ·rw [e1,e2]
  ·subst e1;simp only [St.put,Z7,ZH _ _ e2] at he;exact absurd he.symm (h.ne hi e2 ((Z0T e2).1 h2))
  ·subst e2;simp only [St.put,Z7,ZH _ _ e1] at he;exact absurd he (h.ne hi e1 ((Z0T e1).1 h1))
  ·simp only [St.put,ZH _ _ e1,ZH _ _ e2] at he;exact hi.inj id1 id2 ((Z0T e1).1 h1) ((Z0T e2).1 h2) he
 ·by_cases e:id'=id
  ·subst e;simp only [St.put,Z7];intro hy;rcases h.place with hp|⟨hp,⟨c,hc⟩,_⟩
   ·have:=hi.Ylt _ hy;omega
   ·rw [hp] at hy;exact hi.notY id' (.inl ⟨el,c,hc⟩) hy
  ·simp only [St.put,ZH _ _ e];exact hi.notY id' ((Z0T e).1 hl)
 ·by_cases e:id'=id
  ·subst e;simp [St.put,Heap.put,Z7] at hb
  ·have hb':s.G.ent id' = .blk el' c false:=by simpa [St.put,Heap.put,ZH _ _ e] using hb
   have:(s.put id el cells' g w').D id'=s.D id':=by simp [St.put,ZH _ _ e]
   rw [this];exact (hev.imm _ (hi.fz id' el' c hb')).1
 ·have hne:id'≠id:=by
   intro e;subst e;have:=h.nx;simp only [St.put,Heap.put] at hn;omega
  simp only [St.put,Heap.put,ZH _ _ hne];exact hi.nx id' hn
theorem Z1U {s:St} (hi:Inv s) {id:Nat} (hid:s.G.ent id = .none) (hnx:id<s.G.nx) (el:TypeId) (cells:List PV) (cs:Array Value) (w':World)
  (hw:w'.heap=s.w.heap.push (.cells cs el (0,0))) (hos:w'.os=s.w.os) (ht:w'.tape=s.w.tape) (ho:w'.output=s.w.output)
  (hl:cells.length<=cs.size) (hc:∀ (j:Nat) (x:PV),cells[j]? = some x->∃ u,cs[j]? = some u/\PVR s x u/\u.oneCell'=true) :
  Put s id el cells s.w.heap.size w' cs where
 old:=.inl hid
 place:=.inl (YA _)
 size:=by rw [hw];simp
 others:=λb hb _=>by rw [hw,Array.getElem?_push];simp;omega
 here:=by rw [hw];simp
 len:=hl
 cells:=hc
 nx:=hnx
 os:=hos
 tape:=ht
 output:=ho
end Go.Dn

namespace Go.Dn
open Go
variable {X:Ctx} {s:St} {n:Nat} {e:Env} {a:Act} {P:Program}
theorem Z1M (b o j:Nat):(⟨b,o,none⟩ : Addr).add j=⟨b,o+j,none⟩:=by
 unfold Addr.add;split<;>simp_all
theorem loadCells_pvr (b o:Nat) (xs:List PV) (h:∀ (j:Nat) (x:PV),xs[j]? = some x->∃ u,s.w.cell? ⟨b,o+j,none⟩=some u/\PVR s x u/\u.oneCell'=true) :
  ∃ cs:Array Value,(loadCells ⟨b,o,none⟩ xs.length).run P s.w = .ok cs s.w/\PVR s (.agg xs) (.agg cs):=by
 let f:Nat->Value:=λj=>(s.w.cell? ⟨b,o+j,none⟩).getD Go.undef
 have hf:∀ j,j<xs.length->s.w.cell? ⟨b,o+j,none⟩=some (f j):=λj hj=>by
  obtain ⟨u,hu,_⟩:=h j xs[j] (Y3 hj);simp [f,hu]
 have hr:=run_loadCells_list (P:=P) s.w ⟨b,o,none⟩ ((List.range xs.length).map f) (λj v hv=>by
  rw [Z1M];simp only [YI,Y0] at hv;obtain ⟨k,hk,rfl⟩:=hv;obtain ⟨hlt,rfl⟩:=List.getElem?_eq_some_iff.1 hk
  simp only [List.getElem_range] at *
  exact hf _ (by simpa using hlt))
 simp only [YU,List.length_range] at hr
 refine ⟨_,hr,.agg (by simp) (λi x hi=>?_) (λi u hu=>?_)⟩
 ·have hl:i<xs.length:=(List.getElem?_eq_some_iff.1 hi).1;obtain ⟨u,hu,hp,_⟩:=h i x hi;have:f i=u:=by simp [f,hu]
  simpa [Y7,hl,this] using hp
 ·simp only [Y0L,YI,Y0] at hu;obtain ⟨k,hk,rfl⟩:=hu;obtain ⟨hlt,rfl⟩:=List.getElem?_eq_some_iff.1 hk
  simp only [List.getElem_range] at *
  have hl:i<xs.length:=by simpa using hlt
  obtain ⟨u,hu,_,ho⟩:=h i xs[i] (Y3 hl);have:f i=u:=by simp [f,hu]
  rw [this];exact ho
theorem Z4F (hi:Inv s) {id:Nat} {el:TypeId} {cells:List PV} {lv:Bool} (hb:s.G.ent id = .blk el cells lv) (j:Nat) (x:PV) (hj:cells[j]? = some x) :
  ∃ u,s.w.cell? ⟨s.D id,j,none⟩=some u/\PVR s x u/\u.oneCell'=true:=by
 have:=hi.ent id
 rw [hb] at this
 obtain ⟨cs,fr,h1,_,_,h4⟩:=this
 obtain ⟨u,hu,hp,ho⟩:=h4 j x hj
 exact ⟨u,by simp [World.cell?,h1,hu],hp,ho⟩
theorem Z69 {t:TypeId} {k b o:Nat} (ha:tagg P t=some true) (hs:tsize P t=some k) (xs:List PV) (hl:xs.length=k)
  (h:∀ (j:Nat) (x:PV),xs[j]? = some x->∃ u,s.w.cell? ⟨b,o+j,none⟩=some u/\PVR s x u/\u.oneCell'=true) :
  ∃ v,(loadVar t ⟨b,o,none⟩).run P s.w = .ok v s.w/\PVR s (.agg xs) v:=by
 obtain ⟨cs,h1,h2⟩:=loadCells_pvr (P:=P) b o xs h
 refine ⟨.agg cs,?_,h2⟩
 subst hl
 simp [loadVar,Z54 s.w ha,Z0X s.w hs,h1]
theorem Z65 {t:TypeId} {b o:Nat} {u:Value} (ha:tagg P t=some false) (h:s.w.cell? ⟨b,o,none⟩=some u) :
  (loadVar t ⟨b,o,none⟩).run P s.w = .ok u s.w:=by
 simp [loadVar,Z54 s.w ha,h]
theorem load_ok (hi:Inv s) {t:TypeId} {p x:PV} {v:Value} (hp:PVR s p v) (h:Z0l P s.G t p=some x) :
  ∃ ad u,v = .pointer (some ad)/\(loadVar t ad).run P s.w = .ok u s.w/\PVR s x u:=by
 unfold Z0l at h
 split at h
 ·rename_i id ver off
  split at h
  ·rename_i el cells lv hb
   split at h
   ·rename_i hver;cases hp with
    | ptr hbk hv ho hk=>
     have hvv:=hk (by simp [Heap.ver,hb,hver])
     subst hvv
     split at h
     ·rename_i k ha hs
      split at h
      ·rename_i hle;simp at h;subst h;obtain ⟨u,h1,h2⟩:=Z69 (s:=s) (P:=P) (b:=s.D id) (o:=off) ha hs ((cells.drop off).take k) (by simp;omega) (λj x hj=>by
        rw [YM] at hj
        split at hj
        ·rw [YX] at hj;exact Z4F hi hb _ x hj
        ·cases hj)
       exact ⟨_,u,rfl,h1,h2⟩
      ·simp at h
     ·rename_i ha;obtain ⟨u,h1,h2,_⟩:=Z4F hi hb off x h;exact ⟨_,u,rfl,Z65 ha h1,h2⟩
     ·simp at h
   ·simp at h
  ·simp at h
 ·rename_i cells;cases hp with
  | @fptr _ b off himm hc=>
   have hc':∀ (j:Nat) (x:PV),(vs cells)[j]? = some x->∃ u,s.w.cell? ⟨b,off+j,none⟩=some u/\PVR s x u/\u.oneCell'=true:=λj x hj=>by
    simp only [vs,YI,Y0] at hj;obtain ⟨y,hy,rfl⟩:=hj;obtain ⟨u,h1,h2⟩:=hc j y hy;exact ⟨u,h1,.v h2,h2.Z2S⟩
   split at h
   ·rename_i k ha hs
    split at h
    ·rename_i hle;simp at h;subst h;obtain ⟨u,h1,h2⟩:=Z69 (s:=s) (P:=P) (b:=b) (o:=off) ha hs (vs (cells.take k)) (by simp [vs];omega) (λj x hj=>by
      refine hc' j x ?_;simp only [vs,List.map_take,YM] at hj ⊢
      split at hj
      ·exact hj
      ·cases hj)
     exact ⟨_,u,rfl,h1,h2⟩
    ·simp at h
   ·rename_i ha;simp only [Y0] at h;obtain ⟨y,hy,rfl⟩:=h;obtain ⟨u,h1,h2⟩:=hc 0 y hy;exact ⟨_,u,rfl,Z65 ha (by simpa using h1),.v h2⟩
   ·simp at h
 ·simp at h
theorem load_gives (hi:Inv s) {t:TypeId} {p x:PV} {v:Value} (hp:PVR s p v) (h:Z0l P s.G t p=some x) :
  Gives X s x s.G ((Instr.loadAt t v).run P s.w):=by
 obtain ⟨ad,u,rfl,h1,h2⟩:=load_ok hi hp h
 simp only [Instr.loadAt,Instr.sureAddr,Sem.run_bind,Sem.run_pure,Result.andThen_ok,h1]
 exact .same hi h2
theorem Z6y (xs ys:List PV) (off:Nat) (h:off+ys.length<=xs.length) (j:Nat) :
  (splice xs off ys)[j]? = if j<off then xs[j]? else if j<off+ys.length then ys[j-off]? else xs[j]?:=by
 unfold splice
 rw [Yq,Y0O]
 simp only [YR]
 have:min off xs.length=off:=by omega
 rw [this]
 split
 ·rename_i hj;rw [YM];simp [hj]
 ·rename_i hj;rw [Y0O]
  split
  ·rename_i hk;have:j<off+ys.length:=by omega
   simp [this]
  ·rename_i hk;have:¬ j<off+ys.length:=by omega
   simp only [this,if_false,YX]
   congr 1;omega
theorem Z1q (xs ys:List PV) (off:Nat) (h:off+ys.length<=xs.length):(splice xs off ys).length=xs.length:=by
 simp [splice];omega
theorem Z43 (cs:Array Value) (ys:List Value) (off:Nat) (h:off+ys.length<=cs.size) (j:Nat) :
  ((cs.toList.take off++ys++cs.toList.drop (off+ys.length)).toArray)[j]? = if j<off then cs[j]? else if j<off+ys.length then ys[j-off]? else cs[j]?:=by
 simp only [Y0L]
 rw [Yq,Y0O]
 simp only [YR,Ys]
 have:min off cs.size=off:=by omega
 rw [this]
 split
 ·rename_i hj;rw [YM];simp [hj]
 ·rename_i hj;rw [Y0O]
  split
  ·rename_i hk;have:j<off+ys.length:=by omega
   simp [this]
  ·rename_i hk;have:¬ j<off+ys.length:=by omega
   simp only [this,if_false,YX,Yw]
   congr 1;omega
theorem Z4d (hi:Inv s) {id:Nat} {el:TypeId} {cells:List PV} (hb:s.G.ent id = .blk el cells true) (hnx:id<s.G.nx)
  (ys:List PV) (us:List Value) (off:Nat) (hl:ys.length=us.length) (hle:off+ys.length<=cells.length)
  (hy:∀ (j:Nat) (y:PV),ys[j]? = some y->∃ u,us[j]? = some u/\PVR s y u/\u.oneCell'=true)
  {cs:Array Value} (hcs:s.w.heap[s.D id]? = some (.cells cs el (0,0))) :
  Put s id el (splice cells off ys) (s.D id) (s.w.setRow (s.D id) (cs.toList.take off++us++cs.toList.drop (off+us.length)).toArray)
   (cs.toList.take off++us++cs.toList.drop (off+us.length)).toArray:=by
 have he:=hi.ent id
 rw [hb] at he
 obtain ⟨cs0,fr,h1,h2,_,h4⟩:=he
 rw [h1] at hcs
 simp only [Y5,Obj.cells.injEq] at hcs
 obtain ⟨rfl,_,rfl⟩:=hcs
 have hsz:(cs0.toList.take off++us++cs0.toList.drop (off+us.length)).toArray.size=cs0.size:=by simp;omega
 refine ⟨.inr ⟨cells,hb,by rw [Z1q _ _ _ hle];exact YA _,λ_=>rfl⟩,.inr ⟨rfl,⟨cells,hb⟩,λcs e fr hc=>?_⟩,by simp,λb _ hne=>setRow_other _ _ _ _ hne,
  setRow_heap _ _ _ _ _ _ h1,by rw [Z1q _ _ _ hle,hsz];exact h2,λj x hj=>?_,hnx,rfl,rfl,rfl⟩
 ·rw [h1] at hc;cases hc;exact hsz
 ·rw [Z6y _ _ _ hle] at hj;rw [Z43 _ _ _ (by omega)]
  rw [<- hl]
  split
  ·rename_i hlt;rw [if_pos hlt] at hj;exact h4 j x hj
  ·rename_i hlt;rw [if_neg hlt] at hj
   split
   ·rename_i hk;rw [if_pos hk] at hj;exact hy _ x hj
   ·rename_i hk;rw [if_neg hk] at hj;exact h4 j x hj
theorem Z4x (hi:Inv s) {id:Nat} {el:TypeId} {cells:List PV} (hb:s.G.ent id = .blk el cells true):∃ cs,s.w.heap[s.D id]? = some (.cells cs el (0,0))/\cells.length<=cs.size:=by
 have he:=hi.ent id
 rw [hb] at he
 obtain ⟨cs0,fr,h1,h2,h3,h4⟩:=he
 rw [h3 rfl] at h1
 exact ⟨cs0,h1,h2⟩
theorem nx_of (hi:Inv s) {id:Nat} (h:s.G.ent id ≠ .none):id<s.G.nx:=by
 rcases YF id s.G.nx with h'|h'
 ·exact h'
 ·exact absurd (hi.nx id h') h
theorem store_ok (hi:Inv s) {t:TypeId} {p x:PV} {v u:Value} {G':Heap} (hp:PVR s p v) (hx:PVR s x u) (h:Z18 P s.G t x p=some G') :
  ∃ D' w',(Instr.storeAt t v u).run P s.w = .ok () w'/\Inv ⟨w',s.Y,G',D'⟩/\Ev s ⟨w',s.Y,G',D'⟩:=by
 unfold Z18 at h
 split at h
 ·rename_i id ver off
  split at h
  ·rename_i el cells hb
   split at h
   ·rename_i hver;cases hp with
    | ptr hbk hv ho hk=>
     have hvv:=hk (by simp [Heap.ver,hb,hver])
     subst hvv
     split at h
     ·rename_i k ys hs hc
      split at h
      ·rename_i hle;simp at h;subst h;obtain ⟨hl1,hle⟩:=hle;obtain ⟨c1,c2⟩:=Z5c hc hx;obtain ⟨cs,hcs,hcl⟩:=Z4x hi hb;have hput:=Z4d hi hb (nx_of hi (by rw [hb];simp)) ys u.cells.toList off (by simpa using c1) (by omega)
        (λj y hj=>by obtain ⟨q,q1,q2,q3⟩:=c2 j y hj;exact ⟨q,by simpa using q1,q2,q3⟩) hcs
       have hst:=run_storeCells_at P (s.D id) off el u.cells.toList 0 cs s.w hcs (by simp;omega) (λq hq=>by
        obtain ⟨j,hj,rfl⟩:=Y0C hq;have hj':j<ys.length:=by rw [c1];simpa using hj
        obtain ⟨q',q1,_,q3⟩:=c2 j ys[j] (Y3 hj');have:u.cells[j]? = some (u.cells.toList[j]):=by simp
        rw [this] at q1;cases q1;exact q3)
       simp only [Nat.add_zero] at hst;refine ⟨_,_,?_,hput.inv hi,hput.ev hi⟩;have hne:(u.cells.size≠k)=False:=by simp;omega
       simp [Instr.storeAt,Instr.sureAddr,storeVar,Z0X s.w hs,hst,<- c1,hl1]
      ·simp at h
     ·simp at h
   ·simp at h
  ·simp at h
 ·simp at h
theorem tzero_ok {t:TypeId} {z:List PV} (h:tzero P t=some z):∃ v,(∀ w,(zeroValue t).run P w = .ok v w)/\z.length=v.cells.size /\
  ∀ (i:Nat) (y:PV),z[i]? = some y->∃ u,v.cells[i]? = some u/\PVR s y u/\u.oneCell'=true:=by
 simp only [tzero,Y2] at h
 obtain ⟨v,⟨i,hi,hz⟩,hc⟩:=h
 obtain ⟨h1,h2⟩:=Z2P (s:=s) hc
 refine ⟨v,λw=>by simp [zeroValue,info_of w hi,hz],by simpa using h1,λi y hy=>?_⟩
 obtain ⟨u,q1,q2,q3⟩:=h2 i y hy
 exact ⟨u,by simpa using q1,q2,q3⟩
theorem Z50 (hi:Inv s) {id0:Nat} (hid:s.G.ent id0 = .none) (hnx:id0<s.G.nx) {t:TypeId} {cells:List PV} {v:Value} (hl:cells.length=v.cells.size)
  (hc:∀ (i:Nat) (y:PV),cells[i]? = some y->∃ u,v.cells[i]? = some u/\PVR s y u/\u.oneCell'=true) :
  Gives X s (newD s.G id0 t cells).1 (newD s.G id0 t cells).2 ((do pure (Value.pointer (some (<- newVar t v))):Sem Value).run P s.w):=by
 have hput:=Z1U hi hid hnx t cells v.cells { s.w with heap:=s.w.heap.push (.cells v.cells t) } rfl rfl rfl rfl (by omega) hc
 refine ⟨_,_,_,rfl,hput.inv hi,hput.ev hi,?_⟩
 refine .ptr ⟨t,cells,true,by simp [newD,Heap.put,Z7]⟩ (by simp [newD,Heap.ver,Heap.put,Z7]) rfl λ_=>?_
 simp [Z7]
end Go.Dn

namespace Go.Dn
open Go
variable {X:Ctx} {s:St} {n:Nat} {e:Env} {a:Act} {P:Program}
def Z1W (s:St) (xs:List PV) (cs:Array Value):Prop :=
 xs.length=cs.size/\∀ (i:Nat) (x:PV),xs[i]? = some x->∃ u,cs[i]? = some u/\PVR s x u/\u.oneCell'=true
theorem Z1W.agg {xs:List PV} {cs:Array Value} (h:Z1W s xs cs):PVR s (.agg xs) (.agg cs):=by
 refine .agg h.1 (λi x hi=>?_) (λi u hu=>?_)
 ·obtain ⟨u,hu,hp,_⟩:=h.2 i x hi
  simpa [Y7,hu] using hp
 ·have hl:i<xs.length:=by rw [h.1];exact (Array.getElem?_eq_some_iff.1 hu).1
  obtain ⟨u',hu',_,ho⟩:=h.2 i xs[i] (Y3 hl);rw [hu] at hu';cases hu';exact ho
theorem Z3F {xs:List PV} {v:Value} (h:PVR s (.agg xs) v):∃ cs,v = .agg cs/\Z1W s xs cs:=by
 cases h with
 | @agg _ cs hs h ho=>
  refine ⟨cs,rfl,hs,λi x hi=>?_⟩;have hl:i<cs.size:=by rw [<- hs];exact (List.getElem?_eq_some_iff.1 hi).1
  refine ⟨cs[i],by simp [hl],?_,ho i _ (YV hl)⟩
  simpa [Y7,hl] using h i x hi
theorem Z4A (off:Nat):∀ (l:List (Value×Nat)) (cells:Array Value),(l.foldl (λcs (c,j)=>cs.setIfInBounds (off+j) c) cells).size=cells.size
 | [],_=>rfl
 | (c,j)::l,cells=>by rw [List.foldl_cons,Z4A off l];simp
theorem Z4R (off:Nat):∀ (l:List Value) (b:Nat) (cells:Array Value),off+b+l.length<=cells.size->∀ k,
  ((l.zipIdx b).foldl (λcs (c,j)=>cs.setIfInBounds (off+j) c) cells)[k]? = if off+b<=k/\k<off+b+l.length then l[k-(off+b)]? else cells[k]?
 | [],b,cells,_,k=>by simp;omega
 | c::l,b,cells,h,k=>by
  simp only [List.zipIdx_cons,List.foldl_cons];rw [Z4R off l (b+1) _ (by simp at h ⊢;omega) k]
  simp only [Yc] at h ⊢
  by_cases hk:k=off+b
  ·subst hk;have h1:¬ (off+(b+1)<=off+b/\off+b<off+(b+1)+l.length):=by omega
   have h2:off+b<=off+b/\off+b<off+b+(l.length+1):=by omega
   rw [if_neg h1,if_pos h2];have h3:off+b<cells.size:=by omega
   simp [h3]
  ·by_cases h3:off+(b+1)<=k/\k<off+(b+1)+l.length
   ·have h2:off+b<=k/\k<off+b+(l.length+1):=by omega
    rw [if_pos h3,if_pos h2];have:k-(off+b)=(k-(off+(b+1)))+1:=by omega
    rw [this];simp
   ·have h2:¬ (off+b<=k/\k<off+b+(l.length+1)):=by omega
    rw [if_neg h3,if_neg h2];rw [Array.getElem?_setIfInBounds_ne (by omega)]
def Z20 (s:St):List (Nat×PV)->List (Nat×Value)->Prop
 | [],[]=>True
 | (i,x)::xs,(j,v)::vs=>i=j/\PVR s x v/\Z20 s xs vs
 | _,_=>False
theorem fill_ok {place:Nat->Option (Nat×Nat)}:∀ {ps:List (Nat×PV)} {vs:List (Nat×Value)} {cells out:List PV} {cs:Array Value},Z20 s ps vs->Z1W s cells cs ->
  Z3z place cells ps=some out->∃ cs',Instr.fill place cs vs=some cs'/\Z1W s out cs'
 | [],[],cells,out,cs,_,hc,h=>by
  simp [Z3z] at h;subst h;exact ⟨cs,rfl,hc⟩
 | (i,x)::ps,(j,v)::vs,cells,out,cs,hp,hc,h=>by
  obtain ⟨rfl,hx,hp⟩:=hp;simp only [Z3z] at h
  split at h
  ·rename_i off k ys hpl hcl
   split at h
   ·rename_i hle;obtain ⟨hl1,hle⟩:=hle;obtain ⟨c1,c2⟩:=Z5c hcl hx;have hcs:Z1W s (splice cells off ys) (v.cells.zipIdx.foldl (λcs (c,j)=>cs.setIfInBounds (off+j) c) cs):=by
     have hz:v.cells.zipIdx.foldl (λ(cs:Array Value) (c,j)=>cs.setIfInBounds (off+j) c) cs=(v.cells.toList.zipIdx 0).foldl (λ(cs:Array Value) (c,j)=>cs.setIfInBounds (off+j) c) cs:=by
      rw [<- Y0U];simp
     rw [hz];refine ⟨by rw [Z1q _ _ _ (by omega),Z4A];exact hc.1,λq y hq=>?_⟩
     rw [Z6y _ _ _ (by omega)] at hq
     rw [Z4R off v.cells.toList 0 cs (by simp;rw [<- hc.1];omega) q]
     simp only [Nat.add_zero,Ys,<- c1]
     split at hq
     ·rename_i hlt;rw [if_neg (by omega)]
      exact hc.2 q y hq
     ·rename_i hlt
      split at hq
      ·rename_i hk;rw [if_pos (by omega)]
       obtain ⟨u,q1,q2,q3⟩:=c2 _ y hq;exact ⟨u,by simpa using q1,q2,q3⟩
      ·rename_i hk;rw [if_neg (by omega)]
       exact hc.2 q y hq
    obtain ⟨cs',h1,h2⟩:=fill_ok hp hcs h;refine ⟨cs',?_,h2⟩;simp only [Instr.fill,hpl];rw [if_neg (by simp;rw [<- c1,<- hc.1];omega)]
    exact h1
   ·simp at h
  ·simp at h
 | [],_::_,_,_,_,hp,_,_=>hp.elim
 | _::_,[],_,_,_,hp,_,_=>hp.elim
theorem parts_ok (hG:Zp X s) (he:EnvR s n e a):∀ {xs:List (Nat×Operand)} {ps:List (Nat×PV)},Z24 X e xs=some ps->Z20 s ps (xs.map λ(i,x)=>(i,a.eval x))
 | [],ps,h=>by simp [Z24] at h;subst h;trivial
 | (i,x)::xs,ps,h=>by
  simp only [Z24,Y2,Y5] at h;obtain ⟨y,hy,ys,hys,rfl⟩:=h;exact ⟨rfl,Z6 hG he hy,parts_ok hG he hys⟩
theorem Z2M {t:TypeId} {z:List PV} (h:tzero P t=some z):∃ i v,P.info? t=some i/\i.zero=some v/\Z1W s z v.cells:=by
 simp only [tzero,Y2] at h
 obtain ⟨v,⟨i,hi,hz⟩,hc⟩:=h
 obtain ⟨h1,h2⟩:=Z2P (s:=s) hc
 refine ⟨i,v,hi,hz,by simpa using h1,λi y hy=>?_⟩
 obtain ⟨u,q1,q2,q3⟩:=h2 i y hy
 exact ⟨u,by simpa using q1,q2,q3⟩
theorem build_ok (hG:Zp X s) (he:EnvR s n e a) {t:TypeId} {parts:Array (Nat×Operand)} {x:PV} (h:Z5r X e t parts.toList=some x) :
  ∃ v,(Instr.build t (parts.map λ(i,x)=>(i,a.eval x))).run X.P s.w = .ok v s.w/\PVR s x v:=by
 unfold Z5r at h
 split at h
 ·rename_i z ps hz hps;have hp:=parts_ok hG he hps;obtain ⟨i,v,hi,hzv,hcz⟩:=Z2M (s:=s) hz
  split at h
  ·rename_i pl hpl;simp only [Y0] at h;obtain ⟨cs,hf,rfl⟩:=h;obtain ⟨cs',h1,h2⟩:=fill_ok hp hcz hf;refine ⟨.agg cs',run_build s.w t _ cs' ?_,h2.agg⟩;unfold tplaces at hpl
   split at hpl
   ·rename_i fs hu;unfold Program.built;simp only [hi,hu,hzv,hpl]
    simpa using h1
   ·simp at hpl
  ·split at h
   ·rename_i r len el harr;simp only [Y2,Y0] at h;obtain ⟨k,hk,cs,hf,rfl⟩:=h;obtain ⟨cs',h1,h2⟩:=fill_ok hp hcz hf;refine ⟨.agg cs',run_build s.w t _ cs' ?_,h2.agg⟩;have hu:=Z3D harr;simp only [tsize,Y0] at hk;obtain ⟨ie,hie,rfl⟩:=hk;unfold Program.built;simp only [hi,hu,hzv,hie]
    simpa using h1
   ·simp at h
 ·simp at h
theorem part_ok {t:TypeId} {xs:List PV} {off:Nat} {x:PV} {cs:Array Value} (hc:Z1W s xs cs) (h:partD P t xs off=some x) :
  ∃ v,(∀ w,(part t cs off).run P w = .ok v w)/\PVR s x v:=by
 unfold partD at h
 split at h
 ·rename_i k ha hk
  split at h
  ·rename_i hle;simp at h;subst h;refine ⟨.agg (cs.extract off (off+k)),λw=>by simp [part,Z54 w ha,Z0X w hk],Z1W.agg ⟨by simp;rw [<- hc.1];omega,λi y hi=>?_⟩⟩
   rw [YM] at hi
   split at hi
   ·rename_i hlt;rw [YX] at hi;obtain ⟨u,h1,h2,h3⟩:=hc.2 _ y hi;refine ⟨u,?_,h2,h3⟩;rw [Array.getElem?_extract,if_pos (by rw [<- hc.1];omega)]
    exact h1
   ·cases hi
  ·simp at h
 ·rename_i ha;obtain ⟨u,h1,h2,_⟩:=hc.2 off x h;exact ⟨u,λw=>by simp [part,Z54 w ha,h1],h2⟩
 ·simp at h
theorem Z6V {t:TypeId} {f:Nat} {r:Nat×TypeId} (h:tfield P t f=some r):∃ fs fd,P.underlying t=some (.struct fs)/\fs[f]? = some fd/\fd.offset=r.1/\fd.type=r.2:=by
 unfold tfield at h
 split at h
 ·rename_i fs hu;simp only [Y0] at h;obtain ⟨fd,h1,rfl⟩:=h;exact ⟨fs,fd,hu,h1,rfl,rfl⟩
 ·simp at h
theorem field_ok {t:TypeId} {p x:PV} {f:Nat} {v:Value} (hp:PVR s p v) (h:fieldD P t p f=some x):∃ u,(Instr.field t v f).run P s.w = .ok u s.w/\PVR s x u:=by
 unfold fieldD at h
 split at h
 ·rename_i off ft cs hf;obtain ⟨fs,fd,hu,hfd,e1,e2⟩:=Z6V hf;obtain ⟨arr,rfl,hc⟩:=Z3F hp;obtain ⟨u,h1,h2⟩:=part_ok hc h;refine ⟨u,?_,h2⟩;simp only at e1 e2;subst e1 e2;simp [Instr.field,Zt s.w hu,hfd,asAgg,h1 s.w]
 ·simp at h
theorem ptr_inv {id ver off:Nat} {v:Value} (h:PVR s (.ptr id ver off) v) (hc:s.G.cur id ver=true):v = .pointer (some ⟨s.D id,off,none⟩):=by
 cases h with
 | ptr hb hv ho hk=>exact hk (Z4w hc).2
theorem fieldAddr_ok {t:TypeId} {p x:PV} {f:Nat} {v:Value} (hp:PVR s p v) (h:Z0C P s.G t p f=some x):∃ u,(Instr.fieldAt t v f).run P s.w = .ok u s.w/\PVR s x u:=by
 unfold Z0C at h
 split at h
 ·simp at h
 ·rename_i off ft hf;obtain ⟨fs,fd,hu,hfd,e1,e2⟩:=Z6V hf;simp only at e1 e2;subst e1 e2
  split at h
  ·simp at h
  ·simp at h
  ·rename_i k hk1 hk;have hk0:k≠0:=hk1;have hplace:∀ b o,(fieldPlace ⟨b,o,none⟩ fd).run P s.w = .ok ⟨b,o+fd.offset,none⟩ s.w:=λb o=>by
    simp [fieldPlace,Z0X s.w hk,hk0,Z1M]
   split at h
   ·rename_i id ver o
    split at h
    ·rename_i hc;simp at h;subst h;have hv:=ptr_inv hp hc;subst hv;refine ⟨_,by simp [Instr.fieldAt,Zt s.w hu,hfd,Instr.sureAddr,hplace];rfl,?_⟩
     cases hp with
     | ptr hb hv ho hk=>exact .ptr hb hv rfl λ_=>rfl
    ·simp at h
   ·rename_i cells;simp at h;subst h;cases hp with
    | @fptr _ b o himm hcell=>
     refine ⟨_,by simp [Instr.fieldAt,Zt s.w hu,hfd,Instr.sureAddr,hplace];rfl,.fptr himm λj y hj=>?_⟩
     rw [YX] at hj;obtain ⟨u,h1,h2⟩:=hcell _ y hj;exact ⟨u,by rw [<- h1];congr 2;omega,h2⟩
   ·simp at h
end Go.Dn

namespace Go.Dn
open Go
variable {X:Ctx} {s:St} {n:Nat} {e:Env} {a:Act} {P:Program}
theorem Z16 {k:IntKind} {m:Int} {v:Value} (h:PVR s (.v (.int k m)) v):v = .int k m:=by cases h with|v h=>cases h;rfl
theorem Z0s {b:Bool} {v:Value} (h:PVR s (.v (.bool b)) v):v = .bool b:=by cases h with|v h=>cases h;rfl
theorem Z4D {b:ByteArray} {v:Value} (h:PVR s (.v (.str b)) v):v = .string b:=by cases h with|v h=>cases h;rfl
theorem Z30 {v:Value} (h:PVR s .nils v):v = .slice none 0 0:=by cases h;rfl
theorem Z3L {id len sz:Nat} {v:Value} (h:PVR s (.buf id len sz) v) (hc:s.G.cur id (len*sz)=true) :
  ∃ cap cs el fr,v = .slice (some ⟨s.D id,0,none⟩) len cap/\len<=cap/\s.w.heap[s.D id]? = some (.cells cs el fr)/\cs.size=cap*sz/\cap<=maxLen:=by
 cases h with
 | buf hb hv ho hk=>exact hk (Z4w hc).2
theorem view_inv {id tot off len sz:Nat} {v:Value} (h:PVR s (.view id tot off len sz) v) (hc:s.G.cur id (tot*sz)=true):∃ cap,v = .slice (some ⟨s.D id,off*sz,none⟩) len cap:=by
 cases h with
 | view hb hv ho hk=>exact hk (Z4w hc).2
theorem tfields_run {t:TypeId} {l:List (String×Nat×TypeId)} (h:tfields P t=some l):∃ fs,P.underlying t=some (.struct fs)/\P.stoodInHeld t=false/\l=fs.toList.map λf=>(f.name,f.offset,f.type):=by
 unfold tfields at h
 split at h
 ·rename_i fs hu
  by_cases hs:P.stoodInHeld t=true
  ·rw [if_pos hs] at h;cases h
  ·rw [if_neg hs] at h;cases h;exact ⟨fs,hu,by simpa using hs,rfl⟩
 ·cases h
theorem eqF_ok {eq:TypeId->PV->PV->Option Bool} {d:Nat} (ih:∀ {t:TypeId} {x y:PV} {r:Bool} {v u:Value},eq t x y=some r->PVR s x v->PVR s y u->∀ k,d<=k->(Op.equalIn k t v u).run P s.w = .ok r s.w) :
  ∀ {fs:List Field} {xs ys:List PV} {cs ds:Array Value} {r:Bool},eqFields P eq xs ys (fs.map λf=>(f.name,f.offset,f.type))=some r->Z1W s xs cs->Z1W s ys ds ->
  ∀ k,d<=k->(Op.eqFields k cs ds fs).run P s.w = .ok r s.w
 | [],xs,ys,cs,ds,r,h,_,_=>by
  intro k _;simp [eqFields] at h;subst h;simp [Op.eqFields]
 | f::fs,xs,ys,cs,ds,r,h,hx,hy=>by
  intro k hk;simp only [Yz,eqFields] at h
  split at h
  ·simp at h
  ·rename_i hn
   split at h
   ·rename_i a b ha hb;simp only [Y2,Y5] at h;obtain ⟨q,hq,z,hz,rfl⟩:=h;obtain ⟨va,h1,h2⟩:=part_ok hx ha;obtain ⟨vb,h3,h4⟩:=part_ok hy hb;have h5:=ih hq h2 h4 k hk;have h6:=eqF_ok ih hz hx hy k hk;simp only [Op.eqFields,ne_eq,hn,not_false_eq_true,if_true,Sem.run_bind,h1,h3,h5,Result.andThen_ok];cases q
    ·simp
    ·simpa using h6
   ·simp at h
theorem eq_ok:∀ (d:Nat) {t:TypeId} {x y:PV} {r:Bool} {v u:Value},eqD P d t x y=some r->PVR s x v->PVR s y u->∀ k,d<=k->(Op.equalIn k t v u).run P s.w = .ok r s.w
 | 0,_,_,_,_,_,_,h,_,_=>by simp [eqD] at h
 | d+1,t,x,y,r,v,u,h,hv,hu=>by
  intro k hk;obtain ⟨k,rfl⟩ : ∃ m,k=m+1:=⟨k-1,by omega⟩
  unfold eqD at h
  split at h
  ·have:=Z0s hv;have:=Z0s hu;subst_vars
   split at h
   ·rename_i hty;simp at h;subst h;exact run_equalIn_bool' s.w k t _ _ hty
   ·simp at h
  ·have:=Z16 hv;have:=Z16 hu;subst_vars
   split at h
   ·rename_i kk hty
    split at h
    ·rename_i hkk;subst hkk;simp at h;subst h;exact run_equalIn_int s.w k t _ _ _ _ hty
    ·simp at h
   ·simp at h
  ·have:=Z4D hv;have:=Z4D hu;subst_vars
   split at h
   ·rename_i hty;simp at h;subst h;simp [Op.equalIn,Zt s.w hty]
   ·simp at h
  ·simp only [Y2] at h;obtain ⟨l,hl,hf⟩:=h;obtain ⟨fs,hfs,hst,rfl⟩:=tfields_run hl;obtain ⟨xs,rfl,hx⟩:=Z3F hv;obtain ⟨ys,rfl,hy⟩:=Z3F hu;have hfo:P.fieldsOf t=fs:=by simp [Program.fieldsOf,hfs]
   rw [run_equalIn_struct (P:=P) s.w k t xs ys (by rw [hfo];exact hfs) hst,hfo]
   exact eqF_ok (λh1 h2 h3=>eq_ok d h1 h2 h3) hf hx hy k (by omega)
  ·simp at h
theorem intBin_ok {op:BinOp} {k:IntKind} {x y:Int} {r:FV} (h:Z3r op k x y=some r) (t:TypeId) :
  ∃ u,(∀ w,(binOp op t (.int k x) (.int k y)).run P w = .ok u w)/\PVR s (.v r) u:=by
 unfold Z3r at h
 split at h
 case h_4=>
  by_cases hy:y=0
  ·rw [if_pos hy] at h;cases h
  ·rw [if_neg hy] at h;cases h;refine ⟨_,λw=>?_,.v (.int _ _)⟩;simp [binOp,Op.intDiv,hy]
 case h_5=>
  by_cases hy:y=0
  ·rw [if_pos hy] at h;cases h
  ·rw [if_neg hy] at h;cases h;refine ⟨_,λw=>?_,.v (.int _ _)⟩;simp [binOp,Op.intDiv,hy]
 case h_1=>cases h;refine ⟨_,λw=>?_,.v (.int _ _)⟩;simp [binOp,Op.intArith]
 case h_2=>cases h;refine ⟨_,λw=>?_,.v (.int _ _)⟩;simp [binOp,Op.intArith]
 case h_3=>cases h;refine ⟨_,λw=>?_,.v (.int _ _)⟩;simp [binOp,Op.intArith]
 case h_6=>cases h;refine ⟨_,λw=>?_,.v (.int _ _)⟩;simp [binOp,Op.intBits]
 case h_7=>cases h;refine ⟨_,λw=>?_,.v (.int _ _)⟩;simp [binOp,Op.intBits]
 case h_8=>cases h;refine ⟨_,λw=>?_,.v (.int _ _)⟩;simp [binOp,Op.intBits]
 case h_9=>cases h;refine ⟨_,λw=>?_,.v (.int _ _)⟩;simp [binOp,Op.intBits]
 case h_10=>cases h;refine ⟨_,λw=>?_,.v (.bool _)⟩;simp [binOp,Op.intCmp]
 case h_11=>cases h;refine ⟨_,λw=>?_,.v (.bool _)⟩;simp [binOp,Op.intCmp]
 case h_12=>cases h;refine ⟨_,λw=>?_,.v (.bool _)⟩;simp [binOp,Op.intCmp]
 case h_13=>cases h;refine ⟨_,λw=>?_,.v (.bool _)⟩;simp [binOp,Op.intCmp]
 case h_14=>cases h;refine ⟨_,λw=>?_,.v (.bool _)⟩;simp [binOp,Op.intCmp]
 case h_15=>cases h;refine ⟨_,λw=>?_,.v (.bool _)⟩;simp [binOp,Op.intCmp]
 all_goals cases h
theorem eqNil (d:Nat) {t el:TypeId} (hu:P.underlying t=some (.slice el)) (o:Option Addr) (l c:Nat) (w:World) :
  (Op.equalIn (d+1) t (.slice o l c) (.slice none 0 0)).run P w = .ok o.isNone w:=by
 cases o<;>simp [Op.equalIn,Zt w hu]
theorem eqNilP (d:Nat) {t el:TypeId} (hu:P.underlying t=some (.pointer el)) (o:Option Addr) (w:World) :
  (Op.equalIn (d+1) t (.pointer o) (.pointer none)).run P w = .ok o.isNone w:=by
 cases o<;>simp [Op.equalIn,Zt w hu]
theorem Z56 {t el:TypeId} (h:tpointer P t=some el):P.underlying t=some (.pointer el):=by
 unfold tpointer at h
 split at h
 ·rename_i e he;cases h;exact he
 ·cases h
theorem Z1B {t:TypeId} {v u:Value} {r:Bool} {w:World} (h:(Op.equalIn 10000 t v u).run P w = .ok r w)
  (hv:(∃ a b,v = .bool a/\u = .bool b)\/(∃ a b,v = .agg a/\u = .agg b)\/(∃ o l c o' l' c',v = .slice o l c/\u = .slice o' l' c')\/(∃ a b,v = .pointer a/\u = .pointer b)) :
  (binOp .eql t v u).run P w = .ok (.bool r) w/\(binOp .neq t v u).run P w = .ok (.bool (!r)) w:=by
 have h':(Op.equal t v u).run P w = .ok r w:=h
 rcases hv with ⟨a,b,rfl,rfl⟩|⟨a,b,rfl,rfl⟩|⟨o,l,c,o',l',c',rfl,rfl⟩|⟨a,b,rfl,rfl⟩<;>simp only [binOp,Sem.run_bind,h',Result.andThen_ok,Sem.run_pure,and_self]
theorem bin_ok {op:BinOp} {t:TypeId} {x y:PV} {r:FV} {v u:Value} (hx:PVR s x v) (hy:PVR s y u) (h:binD P s.G op t x y=some r) (o1 o2:Operand) :
  ∃ z,(do eqGuard op t o1 o2 v u;binOp op t v u:Sem Value).run P s.w = .ok z s.w/\PVR s (.v r) z:=by
 unfold binD at h
 split at h
 ·rename_i k a k' b;have:=Z16 hx;have:=Z16 hy;subst_vars;have hg:(eqGuard op t o1 o2 (.int k a) (.int k' b)).run P s.w = .ok () s.w:=by cases op<;>simp [eqGuard]
  simp only [Sem.run_bind,hg,Result.andThen_ok]
  split at h
  ·by_cases hb:b<0
   ·rw [if_pos hb] at h;cases h
   ·rw [if_neg hb] at h;cases h;refine ⟨_,?_,.v (.int _ _)⟩;simp [binOp,Op.shift,hb]
  ·by_cases hb:b<0
   ·rw [if_pos hb] at h;cases h
   ·rw [if_neg hb] at h;cases h;refine ⟨_,?_,.v (.int _ _)⟩;simp [binOp,Op.shift,hb]
  ·by_cases hk:k=k'
   ·subst hk;rw [if_pos rfl] at h;obtain ⟨z,h1,h2⟩:=intBin_ok (s:=s) (P:=P) h t;exact ⟨z,h1 s.w,h2⟩
   ·rw [if_neg hk] at h;cases h
 ·rename_i a b;have:=Z4D hx;have:=Z4D hy;subst_vars;have hg:(eqGuard op t o1 o2 (.string a) (.string b)).run P s.w = .ok () s.w:=by cases op<;>simp [eqGuard]
  simp only [Sem.run_bind,hg,Result.andThen_ok]
  split at h
  ·cases h;refine ⟨_,?_,.v (.bool _)⟩;simp [binOp,Op.stringOp]
  ·cases h;refine ⟨_,?_,.v (.bool _)⟩;simp [binOp,Op.stringOp]
  ·cases h
 ·have:=Z30 hy;subst_vars;have key:∀ b,Z3n s.G x=some b->∃ o l c,v = .slice o l c/\o.isNone=b:=by
   intro b hb;unfold Z3n at hb
   split at hb
   ·cases hb;exact ⟨_,_,_,Z30 hx,rfl⟩
   ·cases hb;cases hx with
    | v hx=>cases hx with|sl=>exact ⟨_,_,_,rfl,rfl⟩
   ·rename_i id len sz
    by_cases hc:s.G.cur id (len*sz)=true
    ·rw [if_pos hc] at hb;cases hb;obtain ⟨cap,_,_,_,h1,_⟩:=Z3L hx hc;exact ⟨_,_,_,h1,rfl⟩
    ·rw [if_neg hc] at hb;cases hb
   ·cases hb
  split at h
  ·rename_i el hel;simp only [Y0] at h;obtain ⟨b,hb,rfl⟩:=h;obtain ⟨o,l,c,rfl,rfl⟩:=key b hb;have hg:(eqGuard .eql t o1 o2 (.slice o l c) (.slice none 0 0)).run P s.w = .ok () s.w:=by simp [eqGuard]
   refine ⟨_,?_,.v (.bool _)⟩;simp only [Sem.run_bind,hg,Result.andThen_ok];exact (Z1B (eqNil 9999 (Z0D hel) o l c s.w) (.inr (.inr (.inl ⟨_,_,_,_,_,_,rfl,rfl⟩)))).1
  ·rename_i el hel;simp only [Y0] at h;obtain ⟨b,hb,rfl⟩:=h;obtain ⟨o,l,c,rfl,rfl⟩:=key b hb;have hg:(eqGuard .neq t o1 o2 (.slice o l c) (.slice none 0 0)).run P s.w = .ok () s.w:=by simp [eqGuard]
   refine ⟨_,?_,.v (.bool _)⟩;simp only [Sem.run_bind,hg,Result.andThen_ok];exact (Z1B (eqNil 9999 (Z0D hel) o l c s.w) (.inr (.inr (.inl ⟨_,_,_,_,_,_,rfl,rfl⟩)))).2
  ·cases h
 ·have hu:u = .pointer none:=by
   cases hy with
   | v hy=>cases hy;rfl
  subst hu;have key:∀ b,Z2h s.G x=some b->∃ o,v = .pointer o/\o.isNone=b:=by
   intro b hb;unfold Z2h at hb
   split at hb
   ·cases hb;cases hx with
    | v hx=>cases hx;exact ⟨_,rfl,rfl⟩
   ·rename_i id ver off
    by_cases hc:s.G.cur id ver=true
    ·rw [if_pos hc] at hb;cases hb;exact ⟨_,ptr_inv hx hc,rfl⟩
    ·rw [if_neg hc] at hb;cases hb
   ·cases hb
  split at h
  ·rename_i el hel;simp only [Y0] at h;obtain ⟨b,hb,rfl⟩:=h;obtain ⟨o,rfl,rfl⟩:=key b hb;have hg:(eqGuard .eql t o1 o2 (.pointer o) (.pointer none)).run P s.w = .ok () s.w:=by simp [eqGuard]
   refine ⟨_,?_,.v (.bool _)⟩;simp only [Sem.run_bind,hg,Result.andThen_ok];exact (Z1B (eqNilP 9999 (Z56 hel) o s.w) (.inr (.inr (.inr ⟨_,_,rfl,rfl⟩)))).1
  ·rename_i el hel;simp only [Y0] at h;obtain ⟨b,hb,rfl⟩:=h;obtain ⟨o,rfl,rfl⟩:=key b hb;have hg:(eqGuard .neq t o1 o2 (.pointer o) (.pointer none)).run P s.w = .ok () s.w:=by simp [eqGuard]
   refine ⟨_,?_,.v (.bool _)⟩;simp only [Sem.run_bind,hg,Result.andThen_ok];exact (Z1B (eqNilP 9999 (Z56 hel) o s.w) (.inr (.inr (.inr ⟨_,_,rfl,rfl⟩)))).2
  ·cases h
 ·rename_i x' y' hn1 hn2 hn3 hn4
  by_cases hgf:Z4C P t x=true
  ·rw [if_pos hgf] at h;have main:∀ r0,eqD P 6 t x y=some r0->(∃ a b,x = .v (.bool a)/\y = .v (.bool b))\/(∃ a b,x = .agg a/\y = .agg b):=by
    intro r0 h0;unfold eqD at h0
    split at h0
    ·exact .inl ⟨_,_,rfl,rfl⟩
    ·first|exact (hn1 _ _ _ _ rfl rfl).elim|exact (hn2 _ _ _ _ rfl rfl).elim|exact (hn3 _ _ _ _ rfl rfl).elim|exact (x' _ _ _ _ rfl rfl).elim|exact (y' _ _ _ _ rfl rfl).elim
    ·first|exact (hn1 _ _ rfl rfl).elim|exact (hn2 _ _ rfl rfl).elim|exact (hn3 _ _ rfl rfl).elim|exact (hn4 _ _ rfl rfl).elim|exact (x' _ _ rfl rfl).elim|exact (y' _ _ rfl rfl).elim
    ·exact .inr ⟨_,_,rfl,rfl⟩
    ·cases h0
   have fin:∀ r0,eqD P 6 t x y=some r0->(op = .eql\/op = .neq)->(eqGuard op t o1 o2 v u).run P s.w = .ok () s.w/\(binOp .eql t v u).run P s.w = .ok (.bool r0) s.w/\(binOp .neq t v u).run P s.w = .ok (.bool (!r0)) s.w:=by
    intro r0 h0 hop;have heq:=eq_ok 6 h0 hx hy 10000 (by omega)
    rcases main r0 h0 with ⟨a,b,rfl,rfl⟩|⟨a,b,rfl,rfl⟩
    ·have:=Z0s hx;have:=Z0s hy;subst_vars;exact ⟨by rcases hop with rfl|rfl<;>simp [eqGuard],Z1B heq (.inl ⟨_,_,rfl,rfl⟩)⟩
    ·obtain ⟨xs,rfl,hx'⟩:=Z3F hx;obtain ⟨ys,rfl,hy'⟩:=Z3F hy;have hg:P.eqGuardType P.depth t=false:=by simpa [Z4C] using hgf
     exact ⟨run_eqGuard_agg s.w _ t o1 o2 xs ys hg,Z1B heq (.inr (.inl ⟨_,_,rfl,rfl⟩))⟩
   split at h
   ·simp only [Y0] at h;obtain ⟨b,hb,rfl⟩:=h;obtain ⟨f1,f2,f3⟩:=fin b hb (.inl rfl);exact ⟨_,by simp only [Sem.run_bind,f1,Result.andThen_ok];exact f2,.v (.bool _)⟩
   ·simp only [Y0] at h;obtain ⟨b,hb,rfl⟩:=h;obtain ⟨f1,f2,f3⟩:=fin b hb (.inr rfl);exact ⟨_,by simp only [Sem.run_bind,f1,Result.andThen_ok];exact f3,.v (.bool _)⟩
   ·cases h
  ·rw [if_neg hgf] at h;cases h
theorem un_ok {op:UnOp} {x:PV} {r:FV} {v:Value} (hx:PVR s x v) (h:unD op x=some r):∃ z,(Op.unary op v).run P s.w = .ok z s.w/\PVR s (.v r) z:=by
 unfold unD at h
 split at h
 ·have:=Z16 hx;subst_vars;cases h;refine ⟨_,?_,.v (.int _ _)⟩;simp [Op.unary,Op.intArith]
 ·have:=Z0s hx;subst_vars;cases h;refine ⟨_,?_,.v (.bool _)⟩;simp [Op.unary]
 ·cases h
theorem tint_run {t:TypeId} {k:IntKind} (h:tint P t=some k):P.underlying t=some (.int k):=by
 unfold tint at h
 split at h
 ·cases h;assumption
 ·cases h
theorem conv_ok {src dst:TypeId} {x:PV} {r:FV} {v:Value} (hx:PVR s x v) (h:convD P src dst x=some r):∃ z,(convert src dst v).run P s.w = .ok z s.w/\PVR s (.v r) z:=by
 unfold convD at h
 split at h
 ·have:=Z16 hx;subst_vars
  split at h
  ·rename_i d k hs hd;cases h;refine ⟨_,?_,.v (.int _ _)⟩;simp only [convert,Sem.run_bind,Zt s.w hs,Zt s.w (tint_run hd),Result.andThen_ok,Conv.intToInt,Sem.run_pure]
  ·cases h
 ·cases h
theorem len_ok {t ty:TypeId} {ts:Array TypeId} (hts:ts[0]? = some t) {x:PV} {r:FV} {v:Value} (hx:PVR s x v) (h:lenD P s.G t x=some r) :
  ∃ z,(Builtin.len_ ts ty #[v]).run P s.w = .ok z s.w/\PVR s (.v r) z:=by
 unfold lenD at h
 split at h
 ·rename_i el hel;have hu:=Z0D hel;have main:∀ (o:Option Addr) (l c:Nat),(Builtin.len_ ts ty #[.slice o l c]).run P s.w = .ok (.int .i64 l) s.w:=λo l c=>by
   simp [Builtin.len_,hts,Zt s.w hu,goInt]
  split at h
  ·cases h;cases hx with
   | v hx=>cases hx with
    | nil=>exact ⟨_,main _ _ _,.v (.int _ _)⟩
    | empty=>exact ⟨_,main _ _ _,.v (.int _ _)⟩
    | sl=>exact ⟨_,main _ _ _,.v (.int _ _)⟩
  ·cases h;cases hx with
   | full=>exact ⟨_,main _ _ _,.v (.int _ _)⟩
  ·cases h;have:=Z30 hx;subst_vars;exact ⟨_,main _ _ _,.v (.int _ _)⟩
  ·rename_i id k sz
   by_cases hc:s.G.cur id (k*sz)=true
   ·rw [if_pos hc] at h;cases h;obtain ⟨cap,_,_,_,rfl,_⟩:=Z3L hx hc;exact ⟨_,main _ _ _,.v (.int _ _)⟩
   ·rw [if_neg hc] at h;cases h
  ·cases h
 ·split at h
  ·rename_i b
   by_cases hc:tstr P t=true
   ·rw [if_pos hc] at h;cases h;have:=Z4D hx;subst_vars;refine ⟨_,?_,.v (.int _ _)⟩;simp [Builtin.len_,hts,Zt s.w (tstr_run hc),goInt]
   ·rw [if_neg hc] at h;cases h
  ·cases h
theorem Z4O {t el:TypeId} {k:IntKind} {b off len cap i sz:Nat} (hu:P.underlying t=some (.slice el)) (hs:tsize P el=some sz) (hi:i<len) (w:World) :
  (Instr.indexAt t (.slice (some ⟨b,off,none⟩) len cap) (.int k (i:Int))).run P w = .ok (.pointer (some ⟨b,off+i*sz,none⟩)) w:=by
 have h1:(0:Int)<=(i:Int)/\(i:Int)<(len:Int):=by omega
 have h2:¬ len<=i:=by omega
 simp [Instr.indexAt,asIntOf,Zt w hu,Z0X w hs,h1,h2,Z1M]
theorem Z4Q {t el:TypeId} {k:IntKind} {b off len i sz:Nat} (hu:P.underlying t=some (.array len el)) (hs:tsize P el=some sz) (hi:i<len) (w:World) :
  (Instr.indexAt t (.pointer (some ⟨b,off,none⟩)) (.int k (i:Int))).run P w = .ok (.pointer (some ⟨b,off+i*sz,none⟩)) w:=by
 have h1:(0:Int)<=(i:Int)/\(i:Int)<(len:Int):=by omega
 have h2:¬ len<=i:=by omega
 simp [Instr.indexAt,asIntOf,Zt w hu,Z0X w hs,h1,h2,Z1M,Instr.sureAddr]
theorem sl_elem {xs:List (List FV)} {v:Value} (h:FVR s.w s.imm (.sl xs) v) {i:Nat} {e:List FV} (he:xs[i]? = some e) :
  ∃ b off cap sz,v = .slice (some ⟨b,off,none⟩) xs.length cap/\e.length=sz/\(∀ e∈xs,e.length=sz)/\PVR s (.fptr e) (.pointer (some ⟨b,off+i*sz,none⟩)):=by
 cases h with
 | nil=>simp at he
 | empty a cap=>simp at he
 | sl xs b off cap sz vals himm hcap hsz hcell hval=>
  have hlt:=(List.getElem?_eq_some_iff.1 he).1;have hm:e∈xs:=Y6 he;refine ⟨b,off,cap,sz,rfl,hsz e hm,hsz,.fptr himm λj x hj=>?_⟩;have hj':j<sz:=by rw [<- hsz e hm];exact (List.getElem?_eq_some_iff.1 hj).1
  exact ⟨_,hcell i j hlt hj',hval i j e x he hj⟩
end Go.Dn

namespace Go.Dn
open Go
variable {X:Ctx} {s:St} {n:Nat} {e:Env} {a:Act} {P:Program}
theorem indexAddr_ok (hi:Inv s) {t:TypeId} {x i y:PV} {v u:Value} (hx:PVR s x v) (hy:PVR s i u) (h:Z01 P s.G t x i=some y) :
  ∃ z,(Instr.indexAt t v u).run P s.w = .ok z s.w/\PVR s y z:=by
 unfold Z01 at h
 split at h
 ·cases h
 ·rename_i j hj;obtain ⟨k,rfl⟩:=Z1J hj hy
  split at h
  ·rename_i xs
   split at h
   ·rename_i sz el hel hxe
    by_cases hl:el.length=sz
    ·rw [if_pos hl] at h;cases h;simp only [Y2] at hel;obtain ⟨et,hu,hs⟩:=hel
     cases hx with
     | v hx=>
      obtain ⟨b,off,cap,sz',rfl,h1,h2,h3⟩:=sl_elem hx hxe;have:sz'=sz:=by omega
      subst this;exact ⟨_,Z4O (Z0D hu) hs (List.getElem?_eq_some_iff.1 hxe).1 s.w,h3⟩
    ·rw [if_neg hl] at h;cases h
   ·cases h
  ·rename_i id len sz
   split at h
   ·rename_i et hu
    by_cases hc:(s.G.cur id (len*sz)&&tsize P et==some sz&&decide (j<len))=true
    ·rw [if_pos hc] at h;cases h;simp only [Y8,beq_iff_eq,decide_eq_true_eq] at hc;obtain ⟨⟨hc1,hc2⟩,hc3⟩:=hc;obtain ⟨cap,cs,el,fr,rfl,h2,h3,h4,h5⟩:=Z3L hx hc1;refine ⟨_,Z4O (Z0D hu) hc2 hc3 s.w,?_⟩;obtain ⟨q1,q2⟩:=Z4w hc1;refine .ptr q1 (by omega) rfl λ_=>by simp
    ·rw [if_neg hc] at h;cases h
   ·cases h
  ·rename_i cells
   split at h
   ·rename_i len et ha
    by_cases hc:j<len
    ·rw [if_pos hc] at h;simp only [Y2] at h;obtain ⟨sz,hs,h⟩:=h
     by_cases hl:(j+1)*sz<=cells.length
     ·rw [if_pos hl] at h;cases h;cases hx with
      | @fptr _ b off himm hcell=>
       refine ⟨_,Z4Q (Z3D ha) hs hc s.w,.fptr himm λq x hq=>?_⟩;rw [YX] at hq;have:=hcell _ x hq
       rwa [<- Nat.add_assoc] at this
     ·rw [if_neg hl] at h;cases h
    ·rw [if_neg hc] at h;cases h
   ·cases h
  ·rename_i id ver off
   split at h
   ·rename_i len et ha
    by_cases hc:(s.G.cur id ver&&decide (j<len))=true
    ·rw [if_pos hc] at h;simp only [Y8,decide_eq_true_eq] at hc;simp only [Y0] at h;obtain ⟨sz,hs,rfl⟩:=h;have hv:=ptr_inv hx hc.1;subst hv;refine ⟨_,Z4Q (Z3D ha) hs hc.2 s.w,?_⟩;obtain ⟨q1,q2⟩:=Z4w hc.1;exact .ptr q1 (by omega) rfl λ_=>rfl
    ·rw [if_neg hc] at h;cases h
   ·cases h
  ·cases h
theorem index_ok {t:TypeId} {x i y:PV} {v u:Value} (hx:PVR s x v) (hy:PVR s i u) (h:indexD P t x i=some y) :
  ∃ z,(Instr.index t v u).run P s.w = .ok z s.w/\PVR s y z:=by
 unfold indexD at h
 split at h
 ·cases h
 ·rename_i j hj;obtain ⟨k,rfl⟩:=Z1J hj hy
  split at h
  ·rename_i cs
   split at h
   ·rename_i len et ha
    by_cases hc:j<len
    ·rw [if_pos hc] at h;simp only [Y2] at h;obtain ⟨sz,hs,hp⟩:=h;obtain ⟨arr,rfl,hcs⟩:=Z3F hx;obtain ⟨z,h1,h2⟩:=part_ok hcs hp;refine ⟨z,?_,h2⟩;have h3:(0:Int)<=(j:Int)/\(j:Int)<(len:Int):=by omega
     simp only [Instr.index,asIntOf,Sem.run_bind,Sem.run_pure,Result.andThen_ok,Zt s.w (Z3D ha),h3,and_self,if_true,Z0X s.w hs,Int.toNat_natCast,h1]
    ·rw [if_neg hc] at h;cases h
   ·cases h
  ·rename_i b
   by_cases hc:tstr P t=true
   ·rw [if_pos hc] at h;simp only [Y0] at h;obtain ⟨c,hc1,rfl⟩:=h;have:=Z4D hx;subst_vars;refine ⟨_,?_,.v (.int _ _)⟩;simp [Instr.index,asIntOf,Zt s.w (tstr_run hc),hc1]
   ·rw [if_neg hc] at h;cases h
  ·cases h
theorem Z5m {len cap l h m:Nat} {lo hi mx:Option Value} (hlo:(lo=none/\l=0)\/∃ k,lo=some (.int k (l:Int))) (hh:(hi=none/\h=len/\mx=none)\/∃ k,hi=some (.int k (h:Int)))
  (hm:(mx=none/\m=cap)\/∃ k,mx=some (.int k (m:Int))) (h1:l<=h) (h2:h<=m) (h3:m<=cap) (w:World) :
  (Instr.sliceBounds true len cap lo hi mx).run P w = .ok (l,h,m) w:=by
 have e1:(0:Int)<=(l:Int):=by omega
 have e2:(0:Int)<=(h:Int):=by omega
 have e3:(0:Int)<=(m:Int):=by omega
 rcases hlo with ⟨rfl,rfl⟩|⟨kl,rfl⟩<;>rcases hh with ⟨rfl,rfl,rfl⟩|⟨kh,rfl⟩<;>rcases hm with ⟨hmm,rfl⟩|⟨km,hmm⟩<;>first|(cases hmm;done)|(try subst hmm)
 all_goals simp [Instr.sliceBounds,run_sliceBound,h1,h2,h3,e1,e2,e3]
 all_goals (try (rw [run_sliceBound _ _ _ _ _ (by omega) (by omega)]))
 all_goals (try simp)
 all_goals (try (rw [run_sliceBound _ _ _ _ _ (by omega) (by omega)]))
 all_goals (try simp)
 all_goals (try (rw [run_sliceBound _ _ _ _ _ (by omega) (by omega)]))
 all_goals (try simp)
theorem sl_slice {xs:List (List FV)} {o:Option Addr} {cap l h m sz:Nat} (hx:FVR s.w s.imm (.sl xs) (.slice o xs.length cap)) (h1:l<=h) (h2:h<=xs.length) (h3:h<=m) (h4:m<=cap)
  (h5:∀ y,xs[l]? = some y->y.length=sz):FVR s.w s.imm (.sl ((xs.take h).drop l)) (.slice (if m=l then o else o.map (·.add (l*sz))) (h-l) (m-l)):=by
 have hlen:((xs.take h).drop l).length=h-l:=by simp;omega
 generalize hv:Value.slice o xs.length cap=v at hx
 cases hx with
 | nil=>
  simp only [Value.slice.injEq,Yu] at hv;obtain ⟨rfl,_,rfl⟩:=hv;have:m=l:=by simp at h2;omega
  subst this;simp only [Yu,Nat.le_zero_eq] at h2;subst h2;have:m=0:=by omega
  subst this
  simpa using FVR.nil
 | empty a cap'=>
  simp only [Value.slice.injEq,Yu] at hv;obtain ⟨rfl,_,rfl⟩:=hv;simp only [Yu,Nat.le_zero_eq] at h2;subst h2;have hl:l=0:=by omega
  subst hl;simp only [List.take_nil,List.drop_nil]
  by_cases hml:m=0
  ·rw [if_pos hml];exact FVR.empty _ _
  ·rw [if_neg hml];exact FVR.empty _ _
 | sl xs b off cap' sz' vals himm hcap hsz hcell hval=>
  simp only [Value.slice.injEq] at hv;obtain ⟨rfl,_,rfl⟩:=hv
  by_cases hml:m=l
  ·have hl:h=l:=by omega
   subst hl;have:(xs.take h).drop h=[]:=by simp
   rw [this,if_pos hml];have:=FVR.sl (w:=s.w) (Imm:=s.imm) [] b off (m-h) sz' vals himm (by simp) (by simp) (by simp) (by simp)
   simpa using this
  ·rw [if_neg hml];simp only [Y9,Z1M];rw [<- hlen];refine FVR.sl _ b (off+l*sz) (m-l) sz' (λi j=>vals (l+i) j) himm (by omega) (λe he=>hsz e (Yd (List.mem_of_mem_drop he))) (λi j hi hj=>?_) (λi j e x he hj=>?_)
   ·have hll:l<xs.length:=by simp at hi;omega
    have hszz:sz'=sz:=by
     rw [<- hsz xs[l] (Ya hll)];exact h5 _ (Y3 hll)
    subst hszz;have:=hcell (l+i) j (by simp at hi;omega) hj
    rw [<- this]
    congr 2
    rw [Yf];omega
   ·rw [YX,YM] at he
    split at he
    ·exact hval _ j e x he hj
    ·cases he
theorem full_fvr {xs:List (List FV)} {v:Value} (h:PVR s (.full xs) v):PVR s (.v (.sl xs)) v:=by
 cases h with
 | full h=>exact .v h
theorem sl_inv {xs:List (List FV)} {v:Value} (h:PVR s (.v (.sl xs)) v):∃ o cap,v = .slice o xs.length cap/\xs.length<=cap/\FVR s.w s.imm (.sl xs) (.slice o xs.length cap):=by
 cases h with
 | v h=>
  cases h with
  | nil=>exact ⟨none,0,rfl,YA _,.nil⟩
  | empty a cap=>exact ⟨_,cap,rfl,YW _,.empty a cap⟩
  | sl xs b off cap sz vals himm hcap hsz hcell hval=>exact ⟨_,cap,rfl,hcap,.sl xs b off cap sz vals himm hcap hsz hcell hval⟩
def OptR (s:St):Option PV->Option Value->Prop
 | none,none=>True
 | some x,some v=>PVR s x v
 | _,_=>False
theorem slice_ok {t:TypeId} {x y:PV} {v:Value} {lo hi mx:Option PV} {lo' hi' mx':Option Value} (hx:PVR s x v) (h1:OptR s lo lo') (h2:OptR s hi hi') (h3:OptR s mx mx')
  (h:sliceD P t x lo hi mx=some y):∃ z,(Instr.sliceAt t v lo' hi' mx').run P s.w = .ok z s.w/\PVR s y z:=by
 unfold sliceD at h
 simp only at h
 split at h
 ·rename_i xs
  split at h
  ·cases h
  ·rename_i sz hsz;simp only [Y2] at hsz;obtain ⟨et,hu,hs⟩:=hsz;have hu':=Z0D hu;have hel:P.elem t=et:=by simp [Program.elem,hu']
   obtain ⟨o,cap,rfl,hcap,hf⟩:=sl_inv hx
   split at h
   ·rename_i l h' hl hh
    by_cases hc:l<=h'/\h'<=xs.length/\elemLen xs l sz=true
    ·rw [if_pos hc] at h;obtain ⟨c1,c2,c3⟩:=hc;have c3':∀ y,xs[l]? = some y->y.length=sz:=λy hy=>by simpa [elemLen,hy] using c3
     have hlo:(lo'=none/\l=0)\/∃ k,lo'=some (.int k (l:Int)):=by
      cases lo with
      | none=>cases lo' with
       | none=>simp at hl;exact .inl ⟨rfl,hl.symm⟩
       | some _=>exact h1.elim
      | some lo=>cases lo' with
       | none=>exact h1.elim
       | some lo'=>
        obtain ⟨k,rfl⟩:=Z1J hl h1;exact .inr ⟨k,rfl⟩
     have hrun:∀ m,(Instr.sliceBounds true xs.length cap lo' hi' mx').run P s.w = .ok (l,h',m) s.w ->
       (Instr.sliceAt t (.slice o xs.length cap) lo' hi' mx').run P s.w = .ok (.slice (if m=l then o else o.map (·.add (l*sz))) (h'-l) (m-l)) s.w:=λm hb=>by
      rw [run_sliceAt_slice s.w t _ lo' hi' mx' (by rw [hel];exact hu'),run_slice_any s.w t o xs.length cap (by rw [hel];exact hu') lo' hi' mx',hb]
      simp only [Result.andThen_ok,hel,Z0X s.w hs,sliced]
     split at h
     ·cases h;have hmx:mx'=none:=by cases mx' with
       | none=>rfl
       | some _=>exact h3.elim
      subst hmx;have hhi:(hi'=none/\h'=xs.length/\(none:Option Value)=none)\/∃ k,hi'=some (.int k (h':Int)):=by
       cases hi with
       | none=>cases hi' with
        | none=>simp at hh;exact .inl ⟨rfl,hh.symm,rfl⟩
        | some _=>exact h2.elim
       | some hi=>cases hi' with
        | none=>exact h2.elim
        | some hi'=>
         obtain ⟨k,rfl⟩:=Z1J hh h2;exact .inr ⟨k,rfl⟩
      exact ⟨_,hrun cap (Z5m hlo hhi (.inl ⟨rfl,rfl⟩) c1 (by omega) (YA _) s.w),.v (sl_slice hf c1 c2 (by omega) (YA _) c3')⟩
     ·rename_i m
      by_cases hm:Z2x m=some h'/\hi.isSome=true
      ·rw [if_pos hm] at h;cases h;cases mx' with
       | none=>exact h3.elim
       | some mx'=>
        obtain ⟨k,rfl⟩:=Z1J hm.1 h3
        cases hi with
        | none=>exact absurd hm.2 (by simp)
        | some hi=>
         cases hi' with
         | none=>exact h2.elim
         | some hi'=>
          obtain ⟨k2,rfl⟩:=Z1J hh h2;refine ⟨_,hrun h' (Z5m hlo (.inr ⟨k2,rfl⟩) (.inr ⟨k,rfl⟩) c1 (YA _) (by omega) s.w),?_⟩
          have hfv:=sl_slice hf c1 c2 (YA _) (by omega) c3'
          have hlen:((xs.take h').drop l).length=h'-l:=by simp;omega
          rw [<- hlen] at hfv ⊢;exact .full hfv
      ·rw [if_neg hm] at h;cases h
    ·rw [if_neg hc] at h;cases h
   ·cases h
 ·cases h
theorem view_ok {t:TypeId} {id len sz:Nat} {y:PV} {v:Value} {lo hi mx:Option PV} {lo' hi' mx':Option Value} (hx:PVR s (.buf id len sz) v) (h1:OptR s lo lo') (h2:OptR s hi hi') (h3:OptR s mx mx')
  (h:viewD P t id len sz lo hi mx=some y):∃ z,(Instr.sliceAt t v lo' hi' mx').run P s.w = .ok z s.w/\PVR s y z:=by
 unfold viewD at h
 split at h
 ·cases h
 ·have hmx:mx'=none:=by cases mx' with
   | none=>rfl
   | some _=>exact h3.elim
  subst hmx
  split at h
  ·rename_i sz' l h' hsz hl hh
   by_cases hc:sz'=sz/\l<h'/\h'<=len
   ·rw [if_pos hc] at h;cases h;obtain ⟨rfl,c1,c2⟩:=hc;simp only [Y2] at hsz;obtain ⟨et,hu,hs⟩:=hsz;have hu':=Z0D hu;have hel:P.elem t=et:=by simp [Program.elem,hu']
    cases hx with
    | buf hb hv ho hk=>
    obtain ⟨a,cap,rfl,hcap⟩:=ho;have hlo:(lo'=none/\l=0)\/∃ k,lo'=some (.int k (l:Int)):=by
     cases lo with
     | none=>cases lo' with
      | none=>simp at hl;exact .inl ⟨rfl,hl.symm⟩
      | some _=>exact h1.elim
     | some lo=>cases lo' with
      | none=>exact h1.elim
      | some lo'=>
       obtain ⟨k,rfl⟩:=Z1J hl h1;exact .inr ⟨k,rfl⟩
    have hhi:(hi'=none/\h'=len/\(none:Option Value)=none)\/∃ k,hi'=some (.int k (h':Int)):=by
     cases hi with
     | none=>cases hi' with
      | none=>simp at hh;exact .inl ⟨rfl,hh.symm,rfl⟩
      | some _=>exact h2.elim
     | some hi=>cases hi' with
      | none=>exact h2.elim
      | some hi'=>
       obtain ⟨k,rfl⟩:=Z1J hh h2;exact .inr ⟨k,rfl⟩
    have hrun:(Instr.sliceAt t (.slice (some a) len cap) lo' hi' none).run P s.w = .ok (.slice (some (a.add (l*sz'))) (h'-l) (cap-l)) s.w:=by
     rw [run_sliceAt_slice s.w t _ lo' hi' none (by rw [hel];exact hu'),run_slice_any s.w t (some a) len cap (by rw [hel];exact hu') lo' hi' none,Z5m hlo hhi (.inl ⟨rfl,rfl⟩) (Nat.le_of_lt c1) (by omega) (YA _) s.w]
     simp only [Result.andThen_ok,hel,Z0X s.w hs,sliced];rw [if_neg (by omega)]
     rfl
    refine ⟨_,hrun,.view hb hv ⟨_,_,rfl,by omega⟩ λe=>?_⟩
    obtain ⟨cap',cs,el,fr,q1,_⟩:=hk e;simp only [Value.slice.injEq,Y5] at q1;rw [q1.1];exact ⟨cap-l,by rw [Z1M,Y0A]⟩
   ·rw [if_neg hc] at h;cases h
  ·cases h
end Go.Dn

namespace Go.Dn
open Go
variable {X:Ctx} {s:St} {n:Nat} {e:Env} {a:Act} {P:Program}
theorem Z61 {sz:Nat}:∀ {ys:List (List FV)},(∀ e∈ys,e.length=sz)->ys.flatten.length=ys.length*sz
 | [],_=>by simp
 | y::ys,h=>by
  simp only [YO,YY,Yc];rw [h y (by simp),Z61 (λe he=>h e (by simp [he])),Yf]
  omega
theorem Z67 {sz:Nat}:∀ {ys:List (List FV)},(∀ e∈ys,e.length=sz)->∀ {k:Nat} {x:FV},ys.flatten[k]? = some x ->
  ∃ i j e,k=i*sz+j/\j<sz/\ys[i]? = some e/\e[j]? = some x
 | [],_,k,x,h=>by simp at h
 | y::ys,hl,k,x,h=>by
  simp only [YO] at h
  by_cases hk:k<y.length
  ·rw [YJ hk] at h;exact ⟨0,k,y,by simp,by rw [<- hl y (by simp)];exact hk,by simp,h⟩
  ·rw [YP (by omega)] at h
   obtain ⟨i,j,e,h1,h2,h3,h4⟩:=Z67 (λe he=>hl e (by simp [he])) h
   refine ⟨i+1,j,e,?_,h2,by simpa using h3,h4⟩
   rw [hl y (by simp)] at h1 hk
   rw [Yf];omega
structure Brings (s:St) (sz:Nat) (ys:List PV) (n:Nat) (u:Value) (o:Option Addr) (c:Nat) (news:List Value):Prop where
 val:u = .slice o n c
 len:ys.length=n*sz
 nlen:news.length=n*sz
 rel:∀ (j:Nat) (x:PV),ys[j]? = some x->∃ z,news[j]? = some z/\PVR s x z/\z.oneCell'=true
 cell:n=0\/∃ ad,o=some ad/\∀ (j:Nat) (z:Value),news[j]? = some z->s.w.cell? (ad.add j)=some z
theorem Z5e {sz n:Nat} {ys:List PV} {b off cap:Nat} (hl:ys.length=n*sz)
  (h:∀ (j:Nat) (x:PV),ys[j]? = some x->∃ z,s.w.cell? ⟨b,off+j,none⟩=some z/\PVR s x z/\z.oneCell'=true) :
  ∃ o c news,Brings s sz ys n (.slice (some ⟨b,off,none⟩) n cap) o c news:=by
 let f:Nat->Value:=λj=>(s.w.cell? ⟨b,off+j,none⟩).getD Go.undef
 have hf:∀ j,j<ys.length->s.w.cell? ⟨b,off+j,none⟩=some (f j):=λj hj=>by
  obtain ⟨z,hz,_⟩:=h j ys[j] (Y3 hj);simp [f,hz]
 refine ⟨_,cap,(List.range ys.length).map f,rfl,hl,by simp [hl],λj x hj=>?_,.inr ⟨_,rfl,λj z hz=>?_⟩⟩
 ·obtain ⟨z,hz,hp,ho⟩:=h j x hj;have hlt:=(List.getElem?_eq_some_iff.1 hj).1;exact ⟨f j,by simp [hlt],by simpa [f,hz] using hp,by simpa [f,hz] using ho⟩
 ·simp only [YI,Y0] at hz;obtain ⟨k,hk,rfl⟩:=hz;obtain ⟨hlt,rfl⟩:=List.getElem?_eq_some_iff.1 hk
  simp only [List.getElem_range,Z1M] at *
  exact hf _ (by simpa using hlt)
theorem Z4s (hi:Inv s) {sz:Nat} {y:PV} {u:Value} {r:List PV×Nat} (hy:PVR s y u) (h:Z1S s.G sz y=some r) :
  ∃ o c news,Brings s sz r.1 r.2 u o c news:=by
 unfold Z1S at h
 have slc:∀ ys:List (List FV),PVR s (.v (.sl ys)) u->(∀ e∈ys,e.length=sz)->∃ o c news,Brings s sz (vs ys.flatten) ys.length u o c news:=by
  intro ys hy hl;cases hy with
  | v hy=>
   cases hy with
   | nil=>exact ⟨none,0,[],rfl,by simp [vs],by simp,by simp [vs],.inl rfl⟩
   | empty a cap=>exact ⟨some a,cap,[],rfl,by simp [vs],by simp,by simp [vs],.inr ⟨a,rfl,by simp⟩⟩
   | sl ys b off cap sz' vals himm hcap hsz hcell hval=>
    refine Z5e (by simp only [vs,YU,Z61 hl]) (λk x hk=>?_)
    simp only [vs,YI,Y0] at hk;obtain ⟨z,hz,rfl⟩:=hk;obtain ⟨i,j,e,rfl,h2,h3,h4⟩:=Z67 hl hz;have hszz:sz'=sz:=by rw [<- hsz e (Y6 h3),hl e (Y6 h3)]
    subst hszz;have hv:=hval i j e z h3 h4;exact ⟨_,by rw [<- hcell i j (List.getElem?_eq_some_iff.1 h3).1 h2];congr 2;omega,.v hv,hv.Z2S⟩
 split at h
 ·rename_i ys
  by_cases hc:(ys.all λy=>y.length==sz)=true
  ·rw [if_pos hc] at h;cases h;exact slc ys hy (by simpa using hc)
  ·rw [if_neg hc] at h;cases h
 ·rename_i ys
  by_cases hc:(ys.all λy=>y.length==sz)=true
  ·rw [if_pos hc] at h;cases h;exact slc ys (full_fvr hy) (by simpa using hc)
  ·rw [if_neg hc] at h;cases h
 ·cases h;have:=Z30 hy;subst_vars;exact ⟨none,0,[],rfl,by simp,by simp,by simp,.inl rfl⟩
 ·rename_i id len sz'
  split at h
  ·rename_i el cells lv hb
   by_cases hc:sz'=sz/\cells.length=len*sz'
   ·rw [if_pos hc] at h;cases h;obtain ⟨rfl,hc⟩:=hc;obtain ⟨cap,cs,el,fr,rfl,h2,h3,h4,h5⟩:=Z3L hy (by simp [Heap.cur,hb,hc])
    refine Z5e hc λj x hj=>?_;have:=Z4F hi hb j x hj
    simpa using this
   ·rw [if_neg hc] at h;cases h
  ·cases h
 ·rename_i id tot l n sz'
  split at h
  ·rename_i el cells lv hb
   by_cases hc:sz'=sz/\cells.length=tot*sz'/\l+n<=tot
   ·rw [if_pos hc] at h;cases h;obtain ⟨rfl,hc,hle⟩:=hc;obtain ⟨cap,rfl⟩:=view_inv hy (by simp [Heap.cur,hb,hc])
    have hm:(l+n)*sz'<=tot*sz':=YS _ hle;rw [Yf] at hm;refine Z5e (by simp only [YR,Y0Q,hc];omega) λj x hj=>?_
    rw [YM] at hj
    split at hj
    ·rw [YX] at hj;exact Z4F hi hb _ x hj
    ·cases hj
   ·rw [if_neg hc] at h;cases h
  ·cases h
 ·cases h
theorem tinfo_run {t:TypeId} {k b:Nat} (h1:tsize P t=some k) (h2:tbytes P t=some b):∃ i,P.info? t=some i/\i.size=k/\i.bytes=b:=by
 simp only [tsize,Y0] at h1
 obtain ⟨i,hi,rfl⟩:=h1
 simp only [tbytes,hi,Y9,Y5] at h2
 exact ⟨i,hi,rfl,h2⟩
theorem Z3Y {t ty el:TypeId} {i:TypeInfo} (hu:P.underlying t=some (.slice el)) (hi:P.info? el=some i) (o o':Option Addr) (l c c':Nat) (hle:l<=c) (w:World)
  (ho:o'=none\/∃ ad,o'=some ad):(Builtin.append_ #[t,t] ty #[.slice o l c,.slice o' 0 c']).run P w = .ok (.slice o l c) w:=by
 have hf:(Builtin.firstCells i.size 0 (.slice o' 0 c')).run P w = .ok #[] w:=by
  rcases ho with rfl|⟨ad,rfl⟩
  ·simp [Builtin.firstCells]
  ·simp [Builtin.firstCells,loadCells,loadCellsFrom]
 cases o with
 | none=>simp [Builtin.append_,Zt w hu,sizeOf,typeInfo,hi,Builtin.lenOf,hle,hf]
 | some ad=>simp [Builtin.append_,Zt w hu,sizeOf,typeInfo,hi,Builtin.lenOf,hle,hf,storeCells]
theorem Z4o {el:TypeId} {sz n m:Nat} {xs ys:List PV} {olds news:List Value} (hi:Inv s) {id0:Nat} (hid:s.G.ent id0 = .none) (hnx:id0<s.G.nx)
  (hx:xs.length=n*sz) (hxo:olds.length=n*sz) (hxr:∀ (j:Nat) (x:PV),xs[j]? = some x->∃ z,olds[j]? = some z/\PVR s x z/\z.oneCell'=true)
  (hy:ys.length=m*sz) (hyn:news.length=m*sz) (hyr:∀ (j:Nat) (x:PV),ys[j]? = some x->∃ z,news[j]? = some z/\PVR s x z/\z.oneCell'=true)
  (z:Array Value) (hz:z.size=sz) (cap:Nat) (hcap:n+m<=cap) (hcm:cap<=maxLen) {w':World}
  (hw:w'.heap=s.w.heap.push (.cells (olds.toArray++news.toArray++Builtin.zeroCells z (cap-(n+m))) el)) (hos:w'.os=s.w.os) (ht:w'.tape=s.w.tape) (ho:w'.output=s.w.output) :
  Gives X s (.buf id0 (n+m) sz) (s.G.put id0 (.blk el (xs++ys) true)) (.ok (.slice (some ⟨s.w.heap.size,0,none⟩) (n+m) cap) w'):=by
 have hl:(xs++ys).length=(n+m)*sz:=by simp [hx,hy,Yf]
 have hput:=Z1U hi hid hnx el (xs++ys) (olds.toArray++news.toArray++Builtin.zeroCells z (cap-(n+m))) w' hw hos ht ho (by simp [hx,hy,hxo,hyn]) (λj x hj=>by
  by_cases hlt:j<xs.length
  ·rw [YJ hlt] at hj;obtain ⟨q,h1,h2,h3⟩:=hxr j x hj;refine ⟨q,?_,h2,h3⟩;have hlo:=(List.getElem?_eq_some_iff.1 h1).1;rw [Yh (by simp;omega),Yh (by simp;omega)]
   simpa using h1
  ·rw [YP (by omega)] at hj
   obtain ⟨q,h1,h2,h3⟩:=hyr _ x hj;refine ⟨q,?_,h2,h3⟩;have hlo:=(List.getElem?_eq_some_iff.1 h1).1;rw [Yh (by simp;omega),Array.getElem?_append_right (by simp;omega)]
   simp only [Yk,hxo,<- hx]
   simpa using h1)
 refine ⟨_,_,_,rfl,hput.inv hi,hput.ev hi,?_⟩
 refine .buf ⟨el,xs++ys,true,by simp [Heap.put,Z7]⟩ (by simp only [Heap.ver,Heap.put,Z7];omega) ⟨_,_,rfl,hcap⟩ λ_=>?_
 refine ⟨cap,_,el,(0,0),by simp [Z7],hcap,by simp only [Z7];exact hput.here,?_,hcm⟩
 have e:cap*sz=(n*sz+m*sz)+(cap-(n+m))*sz:=by
  rw [<- Yf,<- Yf];congr 1;omega
 simp only [Y0M,Yk,size_zeroCells,hz,hxo,hyn,e]
theorem Z2O {k b:Nat} (h:k*b<=room) (hb:0<b):k<=maxLen:=by
 have:=Nat.le_mul_of_pos_right k hb
 simp only [room,maxLen] at *
 omega
theorem append_ok (hi:Inv s) {id0:Nat} (hid:s.G.ent id0 = .none) (hnx:id0<s.G.nx) {t ty:TypeId} {x y z:PV} {v u:Value} {G':Heap} (hx:PVR s x v) (hy:PVR s y u)
  (h:Z0L P s.G id0 t x y=some (z,G')):Gives X s z G' ((Builtin.append_ #[t,t] ty #[v,u]).run P s.w):=by
 unfold Z0L at h
 split at h
 ·cases h
 ·rename_i el hel;have hu:=Z0D hel
  split at h
  ·rename_i sz by_ hsz hby;obtain ⟨i,hinfo,hisz,hiby⟩:=tinfo_run hsz hby
   split at h
   ·cases h
   ·rename_i ys m hbr;obtain ⟨o,c,news,B⟩:=Z4s hi hy hbr;have hval:=B.val;simp only at hval;subst hval;have ho':o=none\/∃ ad,o=some ad:=by cases o<;>simp
    by_cases hz0:(sz=0\/by_=0\/(tzero P el).map List.length≠some sz)
    ·rw [if_pos hz0] at h;cases h
    ·rw [if_neg hz0] at h;simp only [not_or] at hz0;obtain ⟨hz1,hz2,hz3⟩:=hz0;simp only [ne_eq,Decidable.not_not,Y0] at hz3;obtain ⟨zl,hzl,hzlen⟩:=hz3;obtain ⟨i',zv,hi1,hi2,hi3⟩:=Z2M (s:=s) hzl;rw [hinfo] at hi1;cases hi1
     split at h
     ·have:=Z30 hx;subst_vars
      by_cases hm:m=0
      ·rw [if_pos hm] at h;cases h;subst hm;rw [Z3Y hu hinfo none o 0 0 c (YA _) s.w ho'];exact .same hi .nils
      ·rw [if_neg hm] at h
       by_cases hr:m*i.bytes<=room
       ·rw [if_pos hr] at h;cases h;rcases B.cell with h0|⟨ad,rfl,hcell⟩
        ·exact absurd h0 hm
        have hml:=Z2O hr (by omega)
        have hrun:=run_append_nil (P:=P) s.w t ty el i zv hu hinfo hi2 ad m c news B.nlen hcell (by omega) (by simp only [maxLen] at hml;omega) (by simp only [room] at hr;omega)
        rw [hrun];have:=Z4o (X:=X) (el:=el) (sz:=i.size) (n:=0) (m:=m) (xs:=[]) (ys:=ys) (olds:=[]) (news:=news) hi hid hnx (by simp) (by simp) (by simp) B.len B.nlen B.rel
         zv.cells (by have:=hi3.1;omega) (grownCap s.w m 0 el) (by have:=grownCap_ge s.w m 0 el;omega) (grownCap_le_maxLen _ _ _ _ hml) (w':=s.w.drew.alloc (.cells (news.toArray++Builtin.zeroCells zv.cells (grownCap s.w m 0 el-m)) el)) (by simp only [Y0V,Y0A];rfl) rfl rfl rfl
        simpa using this
       ·rw [if_neg hr] at h;cases h
     ·rename_i xs
      by_cases hm:m=0
      ·rw [if_pos hm] at h;cases h
      ·rw [if_neg hm] at h
       by_cases hr:(xs.length+m)*by_<=room/\(xs.all λy=>y.length==sz)=true
       ·rw [if_pos hr] at h;cases h;obtain ⟨hr,hall⟩:=hr;have hall:∀ e∈xs,e.length=sz:=by simpa using hall
        rcases B.cell with h0|⟨ad,rfl,hcell⟩
        ·exact absurd h0 hm
        have hml:=Z2O hr (by omega)
        have hxb:=Z4s (sz:=sz) (r:=(vs xs.flatten,xs.length)) hi (full_fvr hx) (by simp only [Z1S];rw [if_pos (by simpa using hall)])
        obtain ⟨o2,c2,olds,B2⟩:=hxb
        cases hx with
        | @full _ o hfv=>
         have hv2:=B2.val;simp only [Value.slice.injEq] at hv2;obtain ⟨ho2,_,hc2⟩:=hv2
         subst ho2 hc2;subst hisz hiby;cases o with
         | none=>
          have hxs:xs=[]:=by
           generalize hv:Value.slice none xs.length xs.length=v at hfv;cases hfv with
           | nil=>rfl
           | empty=>simp at hv
           | sl=>simp at hv
          subst hxs;have hrun:=run_append_nil (P:=P) s.w t ty el i zv hu hinfo hi2 ad m c news B.nlen hcell (by omega) (by simp only [maxLen] at hml;simp at hml;omega) (by simp only [room] at hr;simp at hr;omega)
          simp only [Yu];rw [hrun];have:=Z4o (X:=X) (el:=el) (sz:=i.size) (n:=0) (m:=m) (xs:=[]) (ys:=ys) (olds:=[]) (news:=news) hi hid hnx (by simp) (by simp) (by simp) B.len B.nlen B.rel
           zv.cells (by have:=hi3.1;omega) (grownCap s.w m 0 el) (by have:=grownCap_ge s.w m 0 el;omega) (grownCap_le_maxLen _ _ _ _ (by simpa using hml)) (w':=s.w.drew.alloc (.cells (news.toArray++Builtin.zeroCells zv.cells (grownCap s.w m 0 el-m)) el)) (by simp only [Y0V,Y0A];rfl) rfl rfl rfl
          simpa [vs] using this
         | some ax=>
          have hcell2:∀ (j:Nat) (z:Value),olds[j]? = some z->s.w.cell? (ax.add j)=some z:=by
           rcases B2.cell with h0|⟨ad2,had,hc⟩
           ·intro j z hz;have:=B2.nlen;simp only at h0;rw [h0] at this;simp at this;subst this;simp at hz
           ·cases had;exact hc
          have hrun:=run_append_grow (P:=P) s.w t ty el i zv hu hinfo hi2 ax xs.length xs.length olds B2.nlen hcell2 ad m c news B.nlen hcell (by omega) (by simp only [maxLen] at hml;omega)
           (growslice_fits (by omega) (by simp only [room] at hr;omega))
          rw [hrun];exact Z4o (X:=X) (el:=el) (sz:=i.size) (n:=xs.length) (m:=m) (olds:=olds) (news:=news) hi hid hnx B2.len B2.nlen B2.rel B.len B.nlen B.rel
           zv.cells (by have:=hi3.1;omega) (grownCap s.w (xs.length+m) xs.length el) (grownCap_ge _ _ _ _) (grownCap_le_maxLen _ _ _ _ hml) rfl rfl rfl rfl
       ·rw [if_neg hr] at h;cases h
     ·rename_i id len sz'
      split at h
      ·rename_i el' cells hb
       by_cases hr:sz'=sz/\el'=el/\cells.length=len*sz/\(len+m)*by_<=room
       ·rw [if_pos hr] at h;cases h;obtain ⟨rfl,rfl,hcl,hr⟩:=hr;have hml:=Z2O hr (by omega)
        obtain ⟨cap,cs,el2,fr,hv,h2,h3,h4,h5⟩:=Z3L hx (by simp [Heap.cur,hb,hcl])
        subst hv;obtain ⟨cs',hcs',hcl'⟩:=Z4x hi hb;rw [hcs'] at h3;simp only [Y5,Obj.cells.injEq] at h3;obtain ⟨rfl,rfl,rfl⟩:=h3;have hrel:∀ (j:Nat) (x:PV),cells[j]? = some x->∃ z,(cs'.toList.take (len*sz'))[j]? = some z/\PVR s x z/\z.oneCell'=true:=λj x hj=>by
         have he:=hi.ent id;rw [hb] at he;obtain ⟨cs0,fr0,q1,q2,_,q4⟩:=he;rw [hcs'] at q1;simp only [Y5,Obj.cells.injEq] at q1;obtain ⟨rfl,_,_⟩:=q1;obtain ⟨z,z1,z2,z3⟩:=q4 j x hj;have hlt:=(List.getElem?_eq_some_iff.1 hj).1;exact ⟨z,by rw [YM,if_pos (by omega)];simpa using z1,z2,z3⟩
        by_cases hroom:len+m<=cap
        ·by_cases hm:m=0
         ·subst hm;rw [Z3Y hu hinfo (some _) o len cap c (by omega) s.w ho']
          have hy0:ys=[]:=Y0G (by have:=B.len;simpa using this)
          subst hy0;have hsame:s.G.put id (.blk el' (cells++[]) true)=s.G:=by
           have:upd s.G.ent id (.blk el' (cells++[]) true)=s.G.ent:=by
            funext k
            by_cases hk:k=id
            ·subst hk;simp [Z7,hb]
            ·simp [ZH _ _ hk]
           simp only [Heap.put,this]
          rw [hsame];exact .same hi (by simpa using hx)
         ·rcases B.cell with h0|⟨ad,rfl,hcell⟩
          ·exact absurd h0 hm
          subst hisz hiby;have hone:∀ z∈news,z.oneCell'=true:=λz hz=>by
           obtain ⟨j,hj,rfl⟩:=Y0C hz;have hj':j<ys.length:=by rw [B.len];have:=B.nlen;omega
           obtain ⟨q,q1,_,q3⟩:=B.rel j ys[j] (Y3 hj');rw [Y3 hj] at q1;cases q1;exact q3
          have hfit:len*i.size+news.length<=cs'.size:=by rw [B.nlen,h4,<- Yf];exact YS _ hroom
          rw [run_append_room (P:=P) s.w t ty el' i hu hinfo (s.D id) len cap cs' hcs' ad m c news B.nlen hcell hone hroom hfit];have hsz:(cs'.toList.take (len*i.size)++news++cs'.toList.drop (len*i.size+news.length)).toArray.size=cs'.size:=by simp;omega
          have hyl:ys.length=m*i.size:=B.len;have hnl:news.length=m*i.size:=B.nlen;have hput:Put s id el' (cells++ys) (s.D id) (s.w.setRow (s.D id) (cs'.toList.take (len*i.size)++news++cs'.toList.drop (len*i.size+news.length)).toArray)
            (cs'.toList.take (len*i.size)++news++cs'.toList.drop (len*i.size+news.length)).toArray:=by
           refine ⟨.inr ⟨cells,hb,by simp,λ_=>rfl⟩,.inr ⟨rfl,⟨cells,hb⟩,λcs e fr hc=>?_⟩,by simp,λb _ hne=>setRow_other _ _ _ _ hne,
            setRow_heap _ _ _ _ _ _ hcs',by rw [hsz];simp;omega,λj x hj=>?_,nx_of hi (by rw [hb];simp),rfl,rfl,rfl⟩
           ·rw [hcs'] at hc;cases hc;exact hsz
           ·rw [Z43 _ _ _ hfit]
            by_cases hlt:j<cells.length
            ·rw [YJ hlt] at hj;rw [if_pos (by omega)]
             obtain ⟨z,z1,z2,z3⟩:=hrel j x hj;rw [YM,if_pos (by omega)] at z1
             exact ⟨z,by simpa using z1,z2,z3⟩
            ·rw [YP (by omega)] at hj
             have:=(List.getElem?_eq_some_iff.1 hj).1;rw [if_neg (by omega),if_pos (by omega),<- hcl]
             exact B.rel _ x hj
          refine ⟨_,_,_,rfl,hput.inv hi,hput.ev hi,?_⟩;refine .buf ⟨el',cells++ys,true,by simp [Heap.put,Z7]⟩ (by simp only [Heap.ver,Heap.put,Z7,YY,hcl,B.len,<- Yf];exact YA _) ⟨_,_,rfl,hroom⟩ λ_=>?_
          exact ⟨cap,_,el',(0,0),by simp [Z7],hroom,by simp only [Z7];exact hput.here,by rw [hsz];exact h4,h5⟩
        ·rcases B.cell with h0|⟨ad,rfl,hcell⟩
         ·simp only at h0;omega
         subst hisz hiby;have holds:∀ (j:Nat) (z:Value),(cs'.toList.take (len*i.size))[j]? = some z->s.w.cell? ((⟨s.D id,0,none⟩ : Addr).add j)=some z:=λj z hz=>by
          rw [Z1M];rw [YM] at hz
          split at hz
          ·simp only [World.cell?,Y0A,hcs']
           simpa using hz
          ·cases hz
         have hol:(cs'.toList.take (len*i.size)).length=len*i.size:=by
          have:len*i.size<=cap*i.size:=YS _ h2
          simp;omega
         have hrun:=run_append_grow (P:=P) s.w t ty el' i zv hu hinfo hi2 ⟨s.D id,0,none⟩ len cap (cs'.toList.take (len*i.size)) hol holds ad m c news B.nlen hcell (by omega) (by simp only [maxLen] at hml;omega)
          (growslice_fits (by omega) (by simp only [room] at hr;omega))
         rw [hrun];have hyl:ys.length=m*i.size:=B.len;have hnl:news.length=m*i.size:=B.nlen;have hcm:=grownCap_le_maxLen s.w (len+m) cap el' hml;have hge:=grownCap_ge s.w (len+m) cap el';have hm0:0<m:=by omega
         have hput:Put s id el' (cells++ys) s.w.heap.size (s.w.drew.alloc (.cells ((cs'.toList.take (len*i.size)).toArray++news.toArray++Builtin.zeroCells zv.cells (grownCap s.w (len+m) cap el'-(len+m))) el'))
           ((cs'.toList.take (len*i.size)).toArray++news.toArray++Builtin.zeroCells zv.cells (grownCap s.w (len+m) cap el'-(len+m))):=by
          refine ⟨.inr ⟨cells,hb,by simp,λheq=>?_⟩,.inl (YA _),by simp,λb hb' _=>heap_alloc_old s.w.drew _ b hb',heap_alloc_new s.w.drew _,?_,λj x hj=>?_,nx_of hi (by rw [hb];simp),rfl,rfl,rfl⟩
          ·simp only [YY] at heq;have:m*i.size≠0:=by
            intro h0;rcases Nat.mul_eq_zero.1 h0 with h|h<;>omega
           omega
          ·simp only [Y0M,Yk,YY];omega
          ·by_cases hlt:j<cells.length
           ·rw [YJ hlt] at hj;obtain ⟨z,z1,z2,z3⟩:=hrel j x hj;refine ⟨z,?_,z2,z3⟩;rw [Yh (by simp only [Y0M,Yk];omega),Yh (by simp only [Yk];omega)]
            simpa using z1
           ·rw [YP (by omega)] at hj
            obtain ⟨z,z1,z2,z3⟩:=B.rel _ x hj;refine ⟨z,?_,z2,z3⟩;have:=(List.getElem?_eq_some_iff.1 z1).1;rw [Yh (by simp only [Y0M,Yk];omega),Array.getElem?_append_right (by simp only [Yk];omega)]
            rw [Yk,hol,<- hcl]
            simpa using z1
         refine ⟨_,_,_,rfl,hput.inv hi,hput.ev hi,?_⟩;refine .buf ⟨el',cells++ys,true,by simp [Heap.put,Z7]⟩ (by simp only [Heap.ver,Heap.put,Z7,YY,hcl,B.len,<- Yf];exact YA _) ⟨_,_,rfl,hge⟩ λ_=>?_
         refine ⟨grownCap s.w (len+m) cap el',_,el',(0,0),by simp [Z7],hge,by simp only [Z7];exact hput.here,?_,hcm⟩
         have e:grownCap s.w (len+m) cap el'*i.size=(len*i.size+m*i.size)+(grownCap s.w (len+m) cap el'-(len+m))*i.size:=by
          rw [<- Yf,<- Yf];congr 1;omega
         have hzc:zv.cells.size=i.size:=by have:=hi3.1;omega
         simp only [Y0M,Yk,size_zeroCells,hzc,hol,hnl,e]
       ·rw [if_neg hr] at h;cases h
      ·cases h
     ·cases h
  ·cases h
end Go.Dn

namespace Go.Dn
open Go
variable {X:Ctx} {s:St} {n:Nat} {e:Env} {a:Act} {P:Program}
theorem rep_get {α:Type} {z:List α}:∀ (k j:Nat),0<z.length->j<k*z.length->(List.replicate k z).flatten[j]? = z[j % z.length]?
 | 0,j,_,h=>by simp at h
 | k+1,j,hz,h=>by
  simp only [List.replicate_succ,YO]
  by_cases hj:j<z.length
  ·rw [YJ hj,Nat.mod_eq_of_lt hj]
  ·rw [YP (by omega),rep_get k (j-z.length) hz (by rw [Yf] at h;omega)]
   rw [Nat.mod_eq_sub_mod (by omega:j>=z.length)]
theorem rep_len {α:Type} (z:List α) (k:Nat):(List.replicate k z).flatten.length=k*z.length:=by simp
theorem Z6Z {z:List PV} {zc:Array Value} {k sz:Nat} (h:Z1W s z zc) (hz:z.length=sz) (hs:sz≠0):Z1W s (List.replicate k z).flatten (madeCells zc (k*sz)):=by
 refine ⟨by rw [rep_len,size_madeCells,hz],λj x hj=>?_⟩
 have hlt:j<k*z.length:=by have:=(List.getElem?_eq_some_iff.1 hj).1;rwa [rep_len] at this
 rw [rep_get k j (by omega) hlt] at hj
 obtain ⟨u,h1,h2,h3⟩:=h.2 _ x hj
 refine ⟨u,?_,h2,h3⟩
 have hzs:zc.size=z.length:=h.1.symm
 have hlt':j<k*sz:=by rw [<- hz];exact hlt
 simp only [madeCells,Array.getElem?_map,Array.getElem?_range,hlt',if_true,Y9,hzs]
 rw [Y5]
 rw [getElem!_def,h1]
theorem make_ok (hi:Inv s) {id0:Nat} (hid:s.G.ent id0 = .none) (hnx:id0<s.G.nx) {t:TypeId} {x y z:PV} {v u:Value} {G':Heap} (hx:PVR s x v) (hy:PVR s y u)
  (h:makeD P s.G id0 t x y=some (z,G')):Gives X s z G' ((Instr.makeSlice t v u).run P s.w):=by
 unfold makeD at h
 split at h
 ·rename_i el l c hel;have:=Z16 hx;have:=Z16 hy;subst_vars;have hu:=Z0D hel
  split at h
  ·rename_i sz by_ zl hsz hby hzl;obtain ⟨i,hinfo,hisz,hiby⟩:=tinfo_run hsz hby;obtain ⟨i',zv,hi1,hi2,hi3⟩:=Z2M (s:=s) hzl;rw [hinfo] at hi1;cases hi1
   by_cases hc:l=c/\0<=l/\l.toNat*by_<=room/\zl.length=sz/\sz≠0/\by_≠0
   ·rw [if_pos hc] at h;cases h;obtain ⟨rfl,h0,hr,hz1,hz2,hz3⟩:=hc;subst hisz hiby;have hml:=Z2O hr (by omega)
    have hb':(i.bytes:Int)*l<=281474976710656:=by
     have h1:((l.toNat*i.bytes:Nat):Int)<=140737488355328:=by simp only [room] at hr;omega
     rw [Int.natCast_mul,Int.toNat_of_nonneg h0,Int.mul_comm] at h1;omega
    have hrun:=run_make (P:=P) s.w t el i zv hu hinfo hi2 .i64 .i64 l l h0 (Int.le_refl _) hb' (by simp only [maxLen] at hml;omega)
    rw [hrun];have hmc:=Z6Z (k:=l.toNat) hi3 hz1 hz2;have hput:=Z1U hi hid hnx el _ _ (s.w.alloc (.cells (madeCells zv.cells (l.toNat*i.size)) el)) rfl rfl rfl rfl (by have:=hmc.1;omega) hmc.2
    refine ⟨_,_,_,rfl,hput.inv hi,hput.ev hi,?_⟩;have hlen:(List.replicate l.toNat zl).flatten.length=l.toNat*i.size:=by rw [rep_len,hz1]
    refine .buf ⟨el,_,true,Z7 _ _ _⟩ (by simp only [Heap.ver,Heap.put,Z7,hlen];exact YA _) ⟨_,_,rfl,YA _⟩ λ_=>?_
    exact ⟨l.toNat,_,el,(0,0),by simp [Z7],YA _,by simp only [Z7];exact hput.here,size_madeCells _ _,hml⟩
   ·rw [if_neg hc] at h;cases h
  ·cases h
 ·cases h
theorem Z5B {t el:TypeId} {i:TypeInfo} {zv:Value} {len:Nat} {parts:Array (Nat×Value)} {cs':Array Value} {w:World} (hu:P.underlying t=some (.slice el)) (hi1:P.info? el=some i) (hi2:i.zero=some zv)
  (hle:len*i.size<=16777216) (h1:Instr.fill (λj=>some (j*i.size,i.size)) (madeCells zv.cells (len*i.size)) parts.toList=some cs') :
  (Instr.buildSlice t len parts).run P w = .ok (.slice (some ⟨w.heap.size,0,none⟩) len len) { w with heap:=w.heap.push (.cells cs' el) }:=by
 have hle':¬ (16777216<len*i.size):=by omega
 by_cases h0:len*i.size=0
 ·have e:madeCells zv.cells (len*i.size)=(Array.range (len*i.size)).map ((#[] : Array Value)[· % (#[] : Array Value).size]!):=by rw [h0];simp [madeCells]
  rw [e] at h1;simp [Instr.buildSlice,Zt w hu,sizeOf,typeInfo,hi1,newRow,hle',h0] at h1 ⊢;simp [h1]
 ·simp only [madeCells] at h1;simp [Instr.buildSlice,Zt w hu,sizeOf,typeInfo,hi1,newRow,hle',h0,zeroValue,hi2] at h1 ⊢;simp [h1]
theorem Z6h (hi:Inv s) {id0:Nat} (hid:s.G.ent id0 = .none) (hnx:id0<s.G.nx) {t:TypeId} {len:Nat} {ps:List (Nat×PV)} {vals:Array (Nat×Value)} (hp:Z20 s ps vals.toList) {z:PV} {G':Heap}
  (h:Z0q X s.G id0 t len ps=some (z,G')):∃ len' sz el cs,z=(litR X.lit len' sz id0 el cs).1/\G'=s.G.put id0 (litR X.lit len' sz id0 el cs).2/\cs.length=len'*sz/\Gives X s (.buf id0 len' sz) (s.G.put id0 (.blk el cs true)) ((Instr.buildSlice t len vals).run X.P s.w):=by
 unfold Z0q at h
 split at h
 ·rename_i el hel;have hu:=Z0D hel
  split at h
  ·rename_i sz zl hsz hzl;obtain ⟨i,zv,hi1,hi2,hi3⟩:=Z2M (s:=s) hzl
   by_cases hc:zl.length=sz/\sz≠0/\len*sz<=1000000
   ·rw [if_pos hc] at h;obtain ⟨hz1,hz2,hz3⟩:=hc;simp only [Y0,Y4] at h;obtain ⟨cs,hf,rfl,rfl⟩:=h;have hmc:=Z6Z (k:=len) hi3 hz1 hz2;obtain ⟨cs',h1,h2⟩:=fill_ok hp hmc hf;have hcs':cs'.size=len*sz:=by
     have:∀ {place:Nat->Option (Nat×Nat)} {ps:List (Nat×PV)} {cells out:List PV},Z3z place cells ps=some out->out.length=cells.length:=by
      intro place ps
      induction ps with
      | nil=>intro cells out h;simp [Z3z] at h;rw [h]
      | cons p ps ih=>
       intro cells out h;obtain ⟨j,x⟩:=p;simp only [Z3z] at h
       split at h
       ·split at h
        ·rename_i hle;rw [ih h,Z1q _ _ _ (by omega)]
        ·cases h
       ·cases h
     rw [<- h2.1,this hf,rep_len,hz1]
    have hrun:(Instr.buildSlice t len vals).run X.P s.w = .ok (.slice (some ⟨s.w.heap.size,0,none⟩) len len) { s.w with heap:=s.w.heap.push (.cells cs' el) }:=by
     simp only [tsize,Y0] at hsz;obtain ⟨i2,hi4,hi5⟩:=hsz;rw [hi1] at hi4;cases hi4;subst hi5;exact Z5B hu hi1 hi2 (by omega) h1
    rw [hrun];have hput:=Z1U hi hid hnx el _ _ { s.w with heap:=s.w.heap.push (.cells cs' el) } rfl rfl rfl rfl (by have:=h2.1;omega) h2.2
    have hcl:cs.length=len*sz:=by rw [h2.1,hcs']
    refine ⟨len,sz,el,cs,rfl,rfl,hcl,?_⟩;refine ⟨_,_,_,rfl,hput.inv hi,hput.ev hi,?_⟩;refine .buf ⟨el,_,true,Z7 _ _ _⟩ (by simp only [Heap.ver,Heap.put,Z7,hcl];exact YA _) ⟨_,_,rfl,YA _⟩ λ_=>?_
    exact ⟨len,_,el,(0,0),by simp [Z7],YA _,by simp only [Z7];exact hput.here,hcs',by
     have:=Nat.le_mul_of_pos_right len (Nat.pos_of_ne_zero hz2);simp only [maxLen];omega⟩
   ·rw [if_neg hc] at h;cases h
  ·cases h
 ·cases h
theorem copy_ok (hi:Inv s) {t t2 ty:TypeId} {x y z:PV} {v u:Value} {G':Heap} (hx:PVR s x v) (hy:PVR s y u)
  (h:Z3q P s.G t x y=some (z,G')):Gives X s z G' ((Builtin.copy_ #[t,t2] ty #[v,u]).run P s.w):=by
 unfold Z3q at h
 split at h
 ·cases h
 ·rename_i el hel;have hu:=Z0D hel
  split at h
  ·cases h
  ·rename_i sz hsz
   split at h
   ·rename_i ys m id len sz' hbr
    split at h
    ·rename_i el' cells hb
     by_cases hc:sz'=sz/\el'=el/\cells.length=len*sz
     ·rw [if_pos hc] at h;cases h;obtain ⟨rfl,rfl,hcl⟩:=hc;obtain ⟨o,c,news,B⟩:=Z4s hi hy hbr;have hval:=B.val;simp only at hval;subst hval;obtain ⟨cap,cs,el2,fr,rfl,h2,h3,h4,h5⟩:=Z3L hx (by simp [Heap.cur,hb,hcl])
      obtain ⟨cs',hcs',hcl'⟩:=Z4x hi hb;have hyl:ys.length=m*sz':=B.len;have hnl:news.length=m*sz':=B.nlen;have hk1:min m len*sz'<=m*sz':=YS _ (Nat.min_le_left _ _);have hk2:min m len*sz'<=len*sz':=YS _ (Nat.min_le_right _ _);have hput:=Z4d hi hb (nx_of hi (by rw [hb];simp)) (ys.take (min m len*sz')) (news.take (min m len*sz')) 0 (by simp;omega) (by simp;omega)
       (λj y hj=>by
        rw [YM] at hj ⊢
        split at hj
        ·rename_i hlt;rw [if_pos hlt];exact B.rel j y hj
        ·cases hj) hcs'
      have hone:∀ z∈news.take (min m len*sz'),z.oneCell'=true:=λz hz=>by
       have hz:=Yd hz;obtain ⟨j,hj,rfl⟩:=Y0C hz;have hj':j<ys.length:=by omega
       obtain ⟨q,q1,_,q3⟩:=B.rel j ys[j] (Y3 hj');rw [Y3 hj] at q1;cases q1;exact q3
      have hf:(Builtin.firstCells sz' (min m len) (.slice o m c)).run P s.w = .ok (news.take (min m len*sz')).toArray s.w:=by
       rcases B.cell with h0|⟨ad,rfl,hcell⟩
       ·simp only at h0;subst h0;have hn0:news=[]:=Y0G (by simpa using hnl)
        subst hn0;cases o<;>simp [Builtin.firstCells,loadCells,loadCellsFrom]
       ·exact run_firstCells_some (P:=P) s.w sz' (min m len) ad m c _ (by simp;omega) (λj z hz=>by
         rw [YM] at hz
         split at hz
         ·exact hcell j z hz
         ·cases hz)
      have hst:=run_storeCells_at P (s.D id) 0 el' (news.take (min m len*sz')) 0 cs' s.w hcs' (by simp;omega) hone
      simp only [Nat.add_zero] at hst;have hrun:(Builtin.copy_ #[t,t2] ty #[.slice (some ⟨s.D id,0,none⟩) len cap,.slice o m c]).run P s.w = .ok (.int .i64 (min m len:Nat))
        (s.w.setRow (s.D id) (cs'.toList.take 0++news.take (min m len*sz')++cs'.toList.drop (0+(news.take (min m len*sz')).length)).toArray):=by
       have hmin:Nat.min m len=min m len:=rfl;simp only [Builtin.copy_,Y0L,List.getElem?_cons_zero,List.getElem?_cons_succ,Sem.run_bind,Zt s.w hu,Result.andThen_ok,Builtin.lenOf,Sem.run_pure,Z0X s.w hsz,hmin,hf,hst,goInt,Y0A]
      rw [hrun];exact ⟨_,_,_,rfl,hput.inv hi,hput.ev hi,.v (.int _ _)⟩
     ·rw [if_neg hc] at h;cases h
    ·cases h
   ·rename_i ys m id tot l len sz' hbr
    split at h
    ·rename_i el' cells hb
     by_cases hc:sz'=sz/\el'=el/\cells.length=tot*sz/\l+len<=tot
     ·rw [if_pos hc] at h;cases h;obtain ⟨rfl,rfl,hcl,hlt⟩:=hc;have hmm:(l+len)*sz'<=tot*sz':=YS _ hlt;rw [Yf] at hmm;obtain ⟨o,c,news,B⟩:=Z4s hi hy hbr;have hval:=B.val;simp only at hval;subst hval;obtain ⟨cap,rfl⟩:=view_inv hx (by simp [Heap.cur,hb,hcl])
      obtain ⟨cs',hcs',hcl'⟩:=Z4x hi hb;have hyl:ys.length=m*sz':=B.len;have hnl:news.length=m*sz':=B.nlen;have hk1:min m len*sz'<=m*sz':=YS _ (Nat.min_le_left _ _);have hk2:min m len*sz'<=len*sz':=YS _ (Nat.min_le_right _ _);have hput:=Z4d hi hb (nx_of hi (by rw [hb];simp)) (ys.take (min m len*sz')) (news.take (min m len*sz')) (l*sz') (by simp;omega) (by simp;omega)
       (λj y hj=>by
        rw [YM] at hj ⊢
        split at hj
        ·rename_i hlt;rw [if_pos hlt];exact B.rel j y hj
        ·cases hj) hcs'
      have hone:∀ z∈news.take (min m len*sz'),z.oneCell'=true:=λz hz=>by
       have hz:=Yd hz;obtain ⟨j,hj,rfl⟩:=Y0C hz;have hj':j<ys.length:=by omega
       obtain ⟨q,q1,_,q3⟩:=B.rel j ys[j] (Y3 hj');rw [Y3 hj] at q1;cases q1;exact q3
      have hf:(Builtin.firstCells sz' (min m len) (.slice o m c)).run P s.w = .ok (news.take (min m len*sz')).toArray s.w:=by
       rcases B.cell with h0|⟨ad,rfl,hcell⟩
       ·simp only at h0;subst h0;have hn0:news=[]:=Y0G (by simpa using hnl)
        subst hn0;cases o<;>simp [Builtin.firstCells,loadCells,loadCellsFrom]
       ·exact run_firstCells_some (P:=P) s.w sz' (min m len) ad m c _ (by simp;omega) (λj z hz=>by
         rw [YM] at hz
         split at hz
         ·exact hcell j z hz
         ·cases hz)
      have hst:=run_storeCells_at P (s.D id) (l*sz') el' (news.take (min m len*sz')) 0 cs' s.w hcs' (by simp;omega) hone
      simp only [Nat.add_zero] at hst;have hrun:(Builtin.copy_ #[t,t2] ty #[.slice (some ⟨s.D id,l*sz',none⟩) len cap,.slice o m c]).run P s.w = .ok (.int .i64 (min m len:Nat))
        (s.w.setRow (s.D id) (cs'.toList.take (l*sz')++news.take (min m len*sz')++cs'.toList.drop (l*sz'+(news.take (min m len*sz')).length)).toArray):=by
       have hmin:Nat.min m len=min m len:=rfl;simp only [Builtin.copy_,Y0L,List.getElem?_cons_zero,List.getElem?_cons_succ,Sem.run_bind,Zt s.w hu,Result.andThen_ok,Builtin.lenOf,Sem.run_pure,Z0X s.w hsz,hmin,hf,hst,goInt]
      rw [hrun];exact ⟨_,_,_,rfl,hput.inv hi,hput.ev hi,.v (.int _ _)⟩
     ·rw [if_neg hc] at h;cases h
    ·cases h
   ·cases h
end Go.Dn

namespace Go.Dn
open Go
variable {X:Ctx} {s:St} {n:Nat} {e:Env} {a:Act} {P:Program}
def St.frz (s:St) (id:Nat) (el:TypeId) (cells:List PV):St:=⟨s.w,s.Y,s.G.put id (.blk el cells false),s.D⟩
theorem Z2D {id id':Nat} {el:TypeId} {cells:List PV} (h:Live (s.frz id el cells).G id'):Live s.G id'/\id'≠id:=by
 by_cases e:id'=id
 ·subst e;rcases h with ⟨el',c',h⟩|⟨fn,e',n,ps,as_,bo,st,pend,h⟩|⟨kv,h⟩
  ·simp [St.frz,Heap.put,Z7] at h
  ·simp [St.frz,Heap.put,Z7] at h
  ·simp [St.frz,Heap.put,Z7] at h
 ·exact ⟨(Z0T e).1 h,e⟩
theorem frz_ev {id:Nat} {el:TypeId} {cells:List PV} {lv:Bool} (hb:s.G.ent id = .blk el cells lv):Ev s (s.frz id el cells) where
 Y:=rfl
 size:=YA _
 keep:=λ_ _ _=>rfl
 live:=λid' h _=>⟨id',(Z2D h).1,rfl⟩
 blk:=λid' el' c lv' h=>by
  by_cases e:id'=id
  ·subst e;rw [hb] at h;cases h;exact ⟨cells,false,by simp [St.frz,Heap.put,Z7],YA _,λ_=>⟨rfl,λcs e fr h=>⟨cs,fr,h,rfl⟩⟩⟩
  ·exact ⟨c,lv',by simp [St.frz,Heap.put,ZH _ _ e,h],YA _,λ_=>⟨rfl,λcs e fr h=>⟨cs,fr,h,rfl⟩⟩⟩
 loop:=λid' fn e n ps as_ bo st pend h=>by
  by_cases e':id'=id
  ·subst e';rw [hb] at h;cases h
  ·exact ⟨⟨st,pend,by simp [St.frz,Heap.put,ZH _ _ e',h]⟩,rfl⟩
 map:=λid' kv h=>by
  by_cases e':id'=id
  ·subst e';rw [hb] at h;cases h
  ·exact ⟨⟨kv,by simp [St.frz,Heap.put,ZH _ _ e',h]⟩,rfl⟩
 os:=rfl
 tape:=rfl
 output:=rfl
theorem frz_imm (hi:Inv s) {id:Nat} {el:TypeId} {cells:List PV} {lv:Bool} (hb:s.G.ent id = .blk el cells lv):(s.frz id el cells).imm (s.D id):=by
 have hlt:s.D id<s.w.heap.size:=by
  obtain ⟨cs,fr,h⟩:=Put.old_elem hi hb;exact (Array.getElem?_eq_some_iff.1 h).1
 cases lv with
 | true=>
  have hl:Live s.G id:=.inl ⟨el,cells,hb⟩;exact ⟨hlt,hi.notY id hl,λid' h e=>(Z2D h).2 (hi.inj id' id (Z2D h).1 hl e)⟩
 | false=>
  obtain ⟨h1,h2,h3⟩:=hi.fz id el cells hb;exact ⟨h1,h2,λid' h=>h3 id' (Z2D h).1⟩
theorem frz_inv (hi:Inv s) {id:Nat} {el:TypeId} {cells:List PV} {lv:Bool} (hb:s.G.ent id = .blk el cells lv):Inv (s.frz id el cells):=by
 have hev:=frz_ev hb
 refine ⟨λid'=>?_,λid1 id2 h1 h2 he=>hi.inj id1 id2 (Z2D h1).1 (Z2D h2).1 he,λid' h=>hi.notY id' (Z2D h).1,λid' el' c h=>?_,λid' hn=>?_,hi.Ylt⟩
 ·by_cases e:id'=id
  ·subst e;have h1:(s.frz id' el cells).G.ent id' = .blk el cells false:=by simp [St.frz,Heap.put,Z7]
   rw [h1];have he:=hi.ent id';rw [hb] at he;obtain ⟨cs,fr,q1,q2,q3,q4⟩:=he;exact ⟨cs,fr,q1,q2,λh=>(by cases h),λj x hj=>by obtain ⟨u,u1,u2,u3⟩:=q4 j x hj;exact ⟨u,u1,hev.pvr u2,u3⟩⟩
  ·have h1:(s.frz id el cells).G.ent id'=s.G.ent id':=by simp [St.frz,Heap.put,ZH _ _ e]
   rw [h1];have he:=hi.ent id'
   cases hent:s.G.ent id' with
   | none=>trivial
   | blk el' c lv'=>
    rw [hent] at he;obtain ⟨cs,fr,q1,q2,q3,q4⟩:=he;exact ⟨cs,fr,q1,q2,q3,λj x hj=>by obtain ⟨u,u1,u2,u3⟩:=q4 j x hj;exact ⟨u,u1,hev.pvr u2,u3⟩⟩
   | loop fn e' n ps as_ bo st pend=>
    rw [hent] at he;obtain ⟨fn2,tmps,defers,q1,q2,q3⟩:=he;exact ⟨fn2,tmps,defers,q1,q2,λt=>hev.pvr (q3 t)⟩
   | map kv=>rw [hent] at he;exact he
 ·by_cases e:id'=id
  ·subst e;exact frz_imm hi hb
  ·have h1:s.G.ent id' = .blk el' c false:=by simpa [St.frz,Heap.put,ZH _ _ e] using h
   exact (hev.imm _ (hi.fz id' el' c h1)).1
 ·have hne:id'≠id:=by
   intro e;subst e;have:=hi.nx id' hn;rw [hb] at this;cases this
  have:(s.frz id el cells).G.ent id'=s.G.ent id':=by simp [St.frz,Heap.put,ZH _ _ hne]
  rw [this];exact hi.nx id' hn
theorem Z2r (sz:Nat):∀ (n:Nat) (xs:List FV),(chunk sz n xs).length=n
 | 0,_=>rfl
 | n+1,xs=>by simp [chunk,Z2r sz n]
theorem Z5S (sz:Nat):∀ (n:Nat) (xs:List FV),n*sz<=xs.length->∀ i e,(chunk sz n xs)[i]? = some e->e.length=sz/\∀ j x,e[j]? = some x->j<sz/\xs[i*sz+j]? = some x
 | 0,_,_,i,e,h=>by simp [chunk] at h
 | n+1,xs,hl,i,e,h=>by
  rw [Yf] at hl;cases i with
  | zero=>
   simp [chunk] at h;subst h;refine ⟨by simp;omega,λj x hj=>?_⟩
   rw [YM] at hj
   split at hj
   ·rename_i hlt;exact ⟨hlt,by simpa using hj⟩
   ·cases hj
  | succ i=>
   simp [chunk] at h;obtain ⟨h1,h2⟩:=Z5S sz n (xs.drop sz) (by simp;omega) i e h
   refine ⟨h1,λj x hj=>?_⟩;obtain ⟨h3,h4⟩:=h2 j x hj;refine ⟨h3,?_⟩;rw [YX] at h4;rw [<- h4];congr 1;rw [Yf];omega
def Exp (s:St) (G':Heap):Prop:=Inv ⟨s.w,s.Y,G',s.D⟩/\Ev s ⟨s.w,s.Y,G',s.D⟩
theorem Exp.refl (hi:Inv s):Exp s s.G:=⟨hi,Ev.refl s⟩
theorem Exp.trans {G1 G2:Heap} (h1:Exp s G1) (h2:Exp ⟨s.w,s.Y,G1,s.D⟩ G2):Exp s G2:=⟨h2.1,h1.2.trans h2.2⟩
theorem Z3d {f:Heap->PV->Option (FV×Heap)} (hf:∀ (s:St) (x:PV) (y:FV) (G':Heap) (v:Value),f s.G x=some (y,G')->Inv s->PVR s x v->Exp s G'/\FVR s.w (Imm s.w s.Y G' s.D) y v) :
  ∀ (xs:List PV) (s:St) (us:Nat->Value) (ys:List FV) (G':Heap),ZT f s.G xs=some (ys,G')->Inv s->(∀ (j:Nat) (x:PV),xs[j]? = some x->PVR s x (us j)) ->
   Exp s G'/\ys.length=xs.length/\∀ (j:Nat) (y:FV),ys[j]? = some y->FVR s.w (Imm s.w s.Y G' s.D) y (us j)
 | [],s,us,ys,G',h,hi,hx=>by
  simp [ZT] at h;obtain ⟨rfl,rfl⟩:=h;exact ⟨Exp.refl hi,rfl,by simp⟩
 | x::xs,s,us,ys,G',h,hi,hx=>by
  simp only [ZT,Y2,Y5,Y4] at h;obtain ⟨⟨y,G1⟩,h1,⟨zs,G2⟩,h2,rfl,rfl⟩:=h;obtain ⟨e1,f1⟩:=hf s x y G1 (us 0) h1 hi (hx 0 x (by simp))
  obtain ⟨e2,l2,f2⟩:=Z3d hf xs ⟨s.w,s.Y,G1,s.D⟩ (λj=>us (j+1)) zs G2 h2 e1.1 (λj x hj=>e1.2.pvr (hx (j+1) x (by simpa using hj)))
  refine ⟨e1.trans e2,by simp [l2],λj y' hj=>?_⟩
  cases j with
  | zero=>
   simp at hj;subst hj;exact e2.2.fvr f1
  | succ j=>exact f2 j y' (by simpa using hj)
theorem Z4g:∀ (d:Nat) (s:St) (x:PV) (y:FV) (G':Heap) (v:Value),ZN d s.G x=some (y,G')->Inv s->PVR s x v->Exp s G'/\FVR s.w (Imm s.w s.Y G' s.D) y v
 | 0,_,_,_,_,_,h,_,_=>by simp [ZN] at h
 | d+1,s,x,y,G',v,h,hi,hx=>by
  unfold ZN at h
  split at h
  ·cases h;cases hx with
   | v hx=>exact ⟨Exp.refl hi,hx⟩
  ·cases h;have:=Z30 hx;subst this;exact ⟨Exp.refl hi,.nil⟩
  ·cases h;cases hx with
   | full hx=>exact ⟨Exp.refl hi,hx⟩
  ·rename_i id len sz
   split at h
   ·rename_i el cells lv hb
    by_cases hc:cells.length=len*sz
    ·rw [if_pos hc] at h;simp only [Y2,Y5,Y4] at h;obtain ⟨⟨ys,G2⟩,h1,rfl,rfl⟩:=h;obtain ⟨cap,cs,el2,fr,rfl,q2,q3,q4,q5⟩:=Z3L hx (by simp [Heap.cur,hb,hc])
     have he:=hi.ent id;rw [hb] at he;obtain ⟨cs0,fr0,r1,r2,_,r4⟩:=he;have hE1:Exp s (s.frz id el cells).G:=⟨frz_inv hi hb,frz_ev hb⟩
     let us:Nat->Value:=λj=>(cs0[j]?).getD Go.undef
     obtain ⟨e2,l2,f2⟩:=Z3d (f:=ZN d) (λs x y G' v=>Z4g d s x y G' v) cells (s.frz id el cells) us ys G2 h1 hE1.1 (λj x hj=>by
      obtain ⟨u,u1,u2,_⟩:=r4 j x hj;have:us j=u:=by simp [us,u1]
      rw [this];exact hE1.2.pvr u2)
     refine ⟨hE1.trans e2,?_⟩;have hlen:len=(chunk sz len ys).length:=(Z2r _ _ _).symm;have hcl:len*sz<=ys.length:=by omega
     have hmain:=FVR.sl (w:=s.w) (Imm:=Imm s.w s.Y G2 s.D) (chunk sz len ys) (s.D id) 0 cap sz (λi j=>us (i*sz+j)) (e2.2.imm _ (frz_imm hi hb)).1 (by rw [Z2r];exact q2)
      (λe he=>by
       obtain ⟨i,hlt,rfl⟩:=Y0C he;exact (Z5S sz len ys hcl i _ (Y3 hlt)).1)
      (λi j hi' hj=>by
       rw [Z2r] at hi';have hlt:i*sz+j<cells.length:=by
        rw [hc];have:(i+1)*sz<=len*sz:=YS _ hi';rw [Yf] at this;omega
       obtain ⟨u,u1,_,_⟩:=r4 (i*sz+j) cells[i*sz+j] (Y3 hlt);simp only [World.cell?,r1,Y0A];simp [us,u1])
      (λi j e x he hj=>by
       obtain ⟨_,c2⟩:=Z5S sz len ys hcl i e he;exact f2 _ x (c2 j x hj).2)
     rw [Z2r] at hmain;exact hmain
    ·rw [if_neg hc] at h;cases h
   ·cases h
  ·cases h
theorem exp6 {x:PV} {y:FV} {G':Heap} {v:Value} (h:ZN 6 s.G x=some (y,G')) (hi:Inv s) (hx:PVR s x v):Exp s G'/\FVR s.w (Imm s.w s.Y G' s.D) y v :=
 Z4g 6 s x y G' v h hi hx
theorem Z2n {x y:PV} {G':Heap} {v:Value} (h:Z07 s.G x=some (y,G')) (hi:Inv s) (hx:PVR s x v):Exp s G'/\PVR ⟨s.w,s.Y,G',s.D⟩ y v:=by
 have one:∀ {x:PV},PVR s x v->(ZN 6 s.G x).bind (λr=>some (PV.v r.1,r.2))=some (y,G')->Exp s G'/\PVR ⟨s.w,s.Y,G',s.D⟩ y v:=by
  intro x hx h;simp only [Y2,Y5,Y4] at h;obtain ⟨⟨z,G1⟩,h1,rfl,rfl⟩:=h;obtain ⟨e1,f1⟩:=exp6 h1 hi hx;exact ⟨e1,.v f1⟩
 unfold Z07 at h
 split at h
 ·rename_i cs;simp only [Y2,Y5,Y4] at h;obtain ⟨⟨ys,G1⟩,h1,rfl,rfl⟩:=h;obtain ⟨arr,rfl,hc⟩:=Z3F hx
  let us:Nat->Value:=λj=>(arr[j]?).getD Go.undef
  obtain ⟨e1,l1,f1⟩:=Z3d (f:=ZN 6) (λs x y G' v=>Z4g 6 s x y G' v) cs s us ys G1 h1 hi (λj x hj=>by
   obtain ⟨u,u1,u2,_⟩:=hc.2 j x hj;have:us j=u:=by simp [us,u1]
   rw [this];exact u2)
  refine ⟨e1,Z1W.agg ⟨by simp [vs,l1,hc.1],λi x hi'=>?_⟩⟩
  simp only [vs,YI,Y0] at hi';obtain ⟨q,hq,rfl⟩:=hi';have hlt:i<arr.size:=by rw [<- hc.1,<- l1];exact (List.getElem?_eq_some_iff.1 hq).1
  have:=f1 i q hq;simp only [us,YV hlt,Y0R] at this;exact ⟨arr[i],by simp [hlt],.v this,this.Z2S⟩
 ·cases h;exact ⟨Exp.refl hi,hx⟩
 ·cases h;exact ⟨Exp.refl hi,hx⟩
 ·cases h
 ·exact one hx h
theorem Z6N:∀ (xs:List PV) (s:St) (us:Nat->Value) (ys:List PV) (G':Heap),Z0M s.G xs=some (ys,G')->Inv s->(∀ (j:Nat) (x:PV),xs[j]? = some x->PVR s x (us j)) ->
   Exp s G'/\ys.length=xs.length/\∀ (j:Nat) (y:PV),ys[j]? = some y->PVR ⟨s.w,s.Y,G',s.D⟩ y (us j)
 | [],s,us,ys,G',h,hi,hx=>by
  simp [Z0M] at h;obtain ⟨rfl,rfl⟩:=h;exact ⟨Exp.refl hi,rfl,by simp⟩
 | x::xs,s,us,ys,G',h,hi,hx=>by
  simp only [Z0M,Y2,Y5,Y4] at h;obtain ⟨⟨y,G1⟩,h1,⟨zs,G2⟩,h2,rfl,rfl⟩:=h;obtain ⟨e1,f1⟩:=Z2n h1 hi (hx 0 x (by simp))
  obtain ⟨e2,l2,f2⟩:=Z6N xs ⟨s.w,s.Y,G1,s.D⟩ (λj=>us (j+1)) zs G2 h2 e1.1 (λj x hj=>e1.2.pvr (hx (j+1) x (by simpa using hj)))
  refine ⟨e1.trans e2,by simp [l2],λj y' hj=>?_⟩
  cases j with
  | zero=>
   simp at hj;subst hj;exact e2.2.pvr f1
  | succ j=>exact f2 j y' (by simpa using hj)
theorem Z4H {x y:PV} {G':Heap} {v:Value} (h:Z05 s.G x=some (y,G')) (hi:Inv s) (hx:PVR s x v):Exp s G'/\PVR ⟨s.w,s.Y,G',s.D⟩ y v:=by
 unfold Z05 at h
 split at h
 ·rename_i xs;simp only [Y2,Y5,Y4] at h;obtain ⟨⟨ys,G1⟩,h1,rfl,rfl⟩:=h
  cases hx with
  | @tup _ vs hs hh=>
   obtain ⟨e1,l1,f1⟩:=Z6N xs s (λj=>vs.getD j Go.undef) ys G1 h1 hi hh;exact ⟨e1,.tup (by rw [l1];exact hs) f1⟩
 ·exact Z2n h hi hx
theorem expArg_ok {x y:PV} {G':Heap} {v:Value} (h:Z1e s.G x=some (y,G')) (hi:Inv s) (hx:PVR s x v):Exp s G'/\PVR ⟨s.w,s.Y,G',s.D⟩ y v:=by
 unfold Z1e at h
 split at h
 ·cases h;exact ⟨Exp.refl hi,hx⟩
 ·cases h;exact ⟨Exp.refl hi,hx⟩
 ·cases h;exact ⟨Exp.refl hi,hx⟩
 ·exact Z2n h hi hx
theorem Z4m:∀ (xs:List PV) (s:St) (us:Nat->Value) (ys:List PV) (G':Heap),Zz s.G xs=some (ys,G')->Inv s->(∀ (j:Nat) (x:PV),xs[j]? = some x->PVR s x (us j)) ->
   Exp s G'/\ys.length=xs.length/\∀ (j:Nat) (y:PV),ys[j]? = some y->PVR ⟨s.w,s.Y,G',s.D⟩ y (us j)
 | [],s,us,ys,G',h,hi,hx=>by
  simp [Zz] at h;obtain ⟨rfl,rfl⟩:=h;exact ⟨Exp.refl hi,rfl,by simp⟩
 | x::xs,s,us,ys,G',h,hi,hx=>by
  simp only [Zz,Y2,Y5,Y4] at h;obtain ⟨⟨y,G1⟩,h1,⟨zs,G2⟩,h2,rfl,rfl⟩:=h;obtain ⟨e1,f1⟩:=expArg_ok h1 hi (hx 0 x (by simp))
  obtain ⟨e2,l2,f2⟩:=Z4m xs ⟨s.w,s.Y,G1,s.D⟩ (λj=>us (j+1)) zs G2 h2 e1.1 (λj x hj=>e1.2.pvr (hx (j+1) x (by simpa using hj)))
  refine ⟨e1.trans e2,by simp [l2],λj y' hj=>?_⟩
  cases j with
  | zero=>
   simp at hj;subst hj;exact e2.2.pvr f1
  | succ j=>exact f2 j y' (by simpa using hj)
theorem Z5k {d:Nat} {G:Heap}:∀ {cs:List PV} {fs:List FV},fvsOf cs=some fs->ZT (ZN (d+1)) G cs=some (fs,G)
 | [],fs,h=>by simp [fvsOf] at h;subst h;rfl
 | x::xs,fs,h=>by
  cases x<;>simp only [fvsOf,reduceCtorEq] at h;rw [Y0] at h;obtain ⟨gs,hg,rfl⟩:=h;have h1:∀ (y:FV),ZN (d+1) G (.v y)=some (y,G):=λy=>rfl;simp only [ZT,h1,Y1,Z5k hg]
theorem put_put (G:Heap) (id:Nat) (a b:Ent):(G.put id a).put id b=G.put id b:=by
 simp only [Heap.put,Heap.mk.injEq,true_and]
 funext j
 by_cases h:j=id
 ·subst h;rw [Z7,Z7]
 ·rw [ZH _ _ h,ZH _ _ h,ZH _ _ h]
theorem Z60 {d id len sz:Nat} {G:Heap} {el:TypeId} {cells:List PV} {lv:Bool} {r:List FV×Heap} (hb:G.ent id = .blk el cells lv) (hc:cells.length=len*sz)
  (he:ZT (ZN d) (G.put id (.blk el cells false)) cells=some r):ZN (d+1) G (.buf id len sz)=some (.sl (chunk sz len r.1),r.2):=by
 unfold ZN
 simp only [hb,if_pos hc,he,Y1]
theorem Z20.ev {s s':St} (hv:Ev s s'):∀ {ps:List (Nat×PV)} {vs:List (Nat×Value)},Z20 s ps vs->Z20 s' ps vs
 | [],[],_=>trivial
 | (i,x)::ps,(j,v)::vs,h=>⟨h.1,hv.pvr h.2.1,Z20.ev hv h.2.2⟩
 | [],_::_,h=>h.elim
 | _::_,[],h=>h.elim
theorem Z68 {d:Nat} {G G':Heap} {x y:PV} (h:Z28 G x=some (y,G')):∃ f,y = .v f/\ZN (d+2) G x=some (f,G'):=by
 cases x<;>simp only [Z28] at h<;>(try (cases h;done))
 ·cases h;exact ⟨_,rfl,rfl⟩
 ·cases h;exact ⟨_,rfl,rfl⟩
 ·cases h;exact ⟨_,rfl,rfl⟩
 ·rename_i id len sz
  split at h
  ·rename_i el cells lv hb
   split at h
   ·rename_i hc;rw [Y0] at h;obtain ⟨fs,hfs,h⟩:=h;cases h;exact ⟨_,rfl,Z60 (d:=d+1) hb hc (Z5k (d:=d) hfs)⟩
   ·cases h
  ·cases h
theorem Z5F {d:Nat}:∀ {xs ys:List PV} {G G':Heap},Z1Q G xs=some (ys,G')->∃ fs,ys=vs fs/\ZT (ZN (d+2)) G xs=some (fs,G')
 | [],ys,G,G',h=>by
  simp only [Z1Q,Y5,Y4] at h;obtain ⟨rfl,rfl⟩:=h;exact ⟨[],rfl,rfl⟩
 | x::xs,ys,G,G',h=>by
  simp only [Z1Q,Y2,Y5,Y4] at h;obtain ⟨⟨y,G1⟩,h1,⟨zs,G2⟩,h2,rfl,rfl⟩:=h;obtain ⟨f,rfl,e1⟩:=Z68 (d:=d) h1;obtain ⟨fs,rfl,e2⟩:=Z5F (d:=d) h2;exact ⟨f::fs,rfl,by simp only [ZT,e1,e2,Y1]⟩
theorem Z6W {G G':Heap} {x y:PV} (h:Z2f G x=some (y,G')):Z07 G x=some (y,G'):=by
 cases x with
 | agg cs=>
  simp only [Z2f,Y2,Y5,Y4] at h;obtain ⟨⟨ys,G1⟩,h1,rfl,rfl⟩:=h;obtain ⟨fs,rfl,e⟩:=Z5F (d:=4) h1;simp only [Z07,Z4B,e,Y1]
 | _=>
  first
   | (simp [Z2f,Z28] at h;done)
   | (simp only [Z2f] at h;obtain ⟨f,rfl,e⟩:=Z68 (d:=4) h;simp only [Z07,e,Y1])
theorem Z49:∀ {ps qs:List (Nat×PV)} {s:St} {G':Heap} {vs:List (Nat×Value)},Z09 s.G ps=some (qs,G')->Inv s->Z20 s ps vs->Exp s G'/\Z20 ⟨s.w,s.Y,G',s.D⟩ qs vs
 | [],qs,s,G',vs,h,hi,hp=>by
  simp only [Z09,Y5,Y4] at h;obtain ⟨rfl,rfl⟩:=h;exact ⟨Exp.refl hi,hp⟩
 | (i,x)::ps,qs,s,G',[],h,hi,hp=>hp.elim
 | (i,x)::ps,qs,s,G',(j,v)::vs,h,hi,hp=>by
  obtain ⟨h1,h2,h3⟩:=hp;simp only [Z09] at h
  split at h
  ·simp only [Y2,Y5,Y4] at h;obtain ⟨⟨y,G1⟩,e1,⟨q,G2⟩,e2,rfl,rfl⟩:=h;obtain ⟨⟨a1,a2⟩,a3⟩:=Z2n (Z6W e1) hi h2;obtain ⟨⟨b1,b2⟩,b3⟩:=Z49 (s:=⟨s.w,s.Y,G1,s.D⟩) e2 a1 (h3.ev a2);exact ⟨⟨b1,a2.trans b2⟩,h1,b2.pvr a3,b3⟩
  ·simp only [Y2,Y5,Y4] at h;obtain ⟨⟨q,G2⟩,e2,rfl,rfl⟩:=h;obtain ⟨⟨b1,b2⟩,b3⟩:=Z49 e2 hi h3;exact ⟨⟨b1,b2⟩,h1,b2.pvr h2,b3⟩
theorem frzPs_ok {b:Bool} {ps qs:List (Nat×PV)} {s:St} {G':Heap} {vs:List (Nat×Value)} (h:frzPs b s.G ps=some (qs,G')) (hi:Inv s) (hp:Z20 s ps vs):Exp s G'/\Z20 ⟨s.w,s.Y,G',s.D⟩ qs vs:=by
 cases b with
 | false=>exact Z49 h hi hp
 | true=>
  simp only [frzPs,Y5,Y4] at h;obtain ⟨rfl,rfl⟩:=h;exact ⟨Exp.refl hi,hp⟩
def Tame (G:Heap) (id0:Option Nat) (G':Heap):Prop:=G.nx<=G'.nx/\∀ k,k<G.nx->some k≠id0->G.ent k = .none->G'.ent k = .none
theorem Tame.refl (G:Heap) (id0:Option Nat):Tame G id0 G:=⟨YA _,λ_ _ _ h=>h⟩
theorem Tame.trans {G G1 G2:Heap} {id0:Option Nat} (h1:Tame G id0 G1) (h2:Tame G1 id0 G2):Tame G id0 G2 :=
 ⟨YT h1.1 h2.1,λk hk hne h=>h2.2 k (YL hk h1.1) hne (h1.2 k hk hne h)⟩
theorem Tame.Z1U (G:Heap) (id:Nat) (en:Ent):Tame G (some id) (G.put id en) :=
 ⟨YA _,λk _ hne h=>by
  have:k≠id:=λe=>hne (by rw [e])
  simp [Heap.put,ZH _ _ this,h]⟩
theorem Tame.Z5L {G:Heap} {id:Nat} {en:Ent} (id0:Option Nat) (h0:G.ent id ≠ .none):Tame G id0 (G.put id en) :=
 ⟨YA _,λk _ _ h=>by
  have:k≠id:=λe=>h0 (e▸h);simp [Heap.put,ZH _ _ this,h]⟩
def Z08 (call:ZR):Prop:=∀ c args G r G',call c args G=some (r,G')->Tame G none G'
theorem Tame.weak {G G':Heap} {id0:Option Nat} (h:Tame G none G'):Tame G id0 G':=⟨h.1,λk hk _ hn=>h.2 k hk (by simp) hn⟩
theorem Z2c {f:Heap->PV->Option (FV×Heap)} (hf:∀ G x y G',f G x=some (y,G')->Tame G none G'):∀ (xs:List PV) (G:Heap) (ys:List FV) (G':Heap),ZT f G xs=some (ys,G')->Tame G none G'
 | [],G,ys,G',h=>by simp [ZT] at h;rw [<- h.2];exact Tame.refl _ _
 | x::xs,G,ys,G',h=>by
  simp only [ZT,Y2,Y5,Y4] at h;obtain ⟨⟨y,G1⟩,h1,⟨zs,G2⟩,h2,_,rfl⟩:=h;exact (hf _ _ _ _ h1).trans (Z2c hf xs _ _ _ h2)
theorem Z27:∀ (d:Nat) (G:Heap) (x:PV) (y:FV) (G':Heap),ZN d G x=some (y,G')->Tame G none G'
 | 0,_,_,_,_,h=>by simp [ZN] at h
 | d+1,G,x,y,G',h=>by
  unfold ZN at h
  split at h
  ·cases h;exact Tame.refl _ _
  ·cases h;exact Tame.refl _ _
  ·cases h;exact Tame.refl _ _
  ·rename_i id len sz
   split at h
   ·rename_i el cells lv hb
    by_cases hc:cells.length=len*sz
    ·rw [if_pos hc] at h;simp only [Y2,Y5,Y4] at h;obtain ⟨⟨ys,G2⟩,h1,_,rfl⟩:=h;exact (Tame.Z5L none (by rw [hb];simp)).trans (Z2c (Z27 d) _ _ _ _ h1)
    ·rw [if_neg hc] at h;cases h
   ·cases h
  ·cases h
theorem Z2U {G:Heap} {x y:PV} {G':Heap} (h:Z07 G x=some (y,G')):Tame G none G':=by
 unfold Z07 at h
 split at h
 ·simp only [Y2,Y5,Y4] at h;obtain ⟨⟨ys,G1⟩,h1,_,rfl⟩:=h;exact Z2c (Z27 6) _ _ _ _ h1
 ·cases h;exact Tame.refl _ _
 ·cases h;exact Tame.refl _ _
 ·cases h
 ·simp only [Y2,Y5,Y4] at h;obtain ⟨⟨ys,G1⟩,h1,_,rfl⟩:=h;exact Z27 6 _ _ _ _ h1
theorem Z2i:∀ {ps qs:List (Nat×PV)} {G G':Heap},Z09 G ps=some (qs,G')->Tame G none G'
 | [],qs,G,G',h=>by
  simp only [Z09,Y5,Y4] at h;obtain ⟨_,rfl⟩:=h;exact Tame.refl _ _
 | p::ps,qs,G,G',h=>by
  simp only [Z09] at h
  split at h
  ·simp only [Y2,Y5,Y4] at h;obtain ⟨⟨y,G1⟩,e1,⟨q,G2⟩,e2,_,rfl⟩:=h;exact (Z2U (Z6W e1)).trans (Z2i e2)
  ·simp only [Y2,Y5,Y4] at h;obtain ⟨⟨q,G2⟩,e2,_,rfl⟩:=h;exact Z2i e2
theorem Z6R {b:Bool} {ps qs:List (Nat×PV)} {G G':Heap} (h:frzPs b G ps=some (qs,G')):Tame G none G':=by
 cases b with
 | false=>exact Z2i h
 | true=>
  simp only [frzPs,Y5,Y4] at h;obtain ⟨_,rfl⟩:=h;exact Tame.refl _ _
theorem buildSlice_ok (hG:Zp X s) (he:EnvR s n e a) (hi:Inv s) {id0:Nat} (hid:s.G.ent id0 = .none) (hnx:id0<s.G.nx) {t:TypeId} {len:Nat} {parts:Array (Nat×Operand)} {z:PV} {G':Heap}
  (h:Z0Q X e s.G id0 t len parts.toList=some (z,G')):Gives X s z G' ((Instr.buildSlice t len (parts.map λ(i,x)=>(i,a.eval x))).run X.P s.w):=by
 unfold Z0Q at h
 simp only [Y2] at h
 obtain ⟨ps,hps,⟨qs,G1⟩,hq,h⟩:=h
 obtain ⟨⟨i0,e0⟩,hp⟩:=frzPs_ok (vs:=(parts.map λ(i,x)=>(i,a.eval x)).toList) hq hi (by rw [Array.toList_map];exact parts_ok hG he hps)
 have tm:=Z6R hq
 obtain ⟨len',sz,el,cs,rfl,rfl,hcl,D',v,w',hr,i1,e1,p1⟩:=Z6h (s:=⟨s.w,s.Y,G1,s.D⟩) i0 (tm.2 _ hnx (by simp) hid) (YL hnx tm.1) hp h
 have e1:=e0.trans e1
 unfold litR
 split
 ·rename_i fs _ hfs;have hx:Z07 (G1.put id0 (.blk el cs true)) (.buf id0 len' sz)=some (.v (.sl (chunk sz len' fs)),G1.put id0 (.blk el cs false)):=by
   have h1:ZN 6 (G1.put id0 (.blk el cs true)) (.buf id0 len' sz)=some (.sl (chunk sz len' fs),G1.put id0 (.blk el cs false)):=by
    have:=Z60 (d:=5) (G:=G1.put id0 (.blk el cs true)) (id:=id0) (len:=len') (sz:=sz) (el:=el) (cells:=cs) (lv:=true) (by simp [Heap.put,Z7]) hcl (Z5k (d:=4) hfs)
    rw [put_put] at this;exact this
   show (ZN 6 _ _).bind _=_;rw [h1];rfl
  obtain ⟨⟨i2,e2⟩,p2⟩:=Z2n (s:=⟨w',s.Y,G1.put id0 (.blk el cs true),D'⟩) hx i1 p1;exact ⟨D',v,w',hr,i2,e1.trans e2,p2⟩
 ·exact ⟨D',v,w',hr,i1,e1,p1⟩
end Go.Dn

namespace Go.Dn
open Go
variable {X:Ctx} {s:St} {n:Nat} {e:Env} {a:Act}
def Fw (rd:Option Nat):Fence:={ Fence.wide with round:=rd }
structure ProgOK (P:Program):Prop where
 names : ∀ (f : FuncId) (fn : Func), P.funcs[f]? = some fn → (fn.name == "runtime.NumGoroutine") = false
 mixed:P.follows .mixedOrders=true
def Post (s:St) (x:PV) (G':Heap) (v:Value) (w':World):Prop :=
 ∃ D',Inv ⟨w',s.Y,G',D'⟩/\Ev s ⟨w',s.Y,G',D'⟩/\PVR ⟨w',s.Y,G',D'⟩ x v
def Z1h (X:Ctx) (call:ZR):Prop :=
 ∀ (c:Callee) (args:List PV) (r:PV) (G':Heap) (s:St),call c args s.G=some (r,G')->Inv s->Zp X s->∀ vs,PVRs s args vs ->
  match c with
  | .fn f=>(callFunc f vs).run X.P s.w = .ok (.enter f vs) s.w/\Calls X.P f vs s.w λen w'=>∃ v,en = .returned v/\Post s r G' v w'
  | .yld id=>∃ l fn tmps assign body,(Instr.yield (s.D id) vs).run X.P s.w = .ok (.round l fn tmps assign body) s.w /\
    ∀ m,RoundIn Fence.wide m X.P l fn tmps assign body s.w λen w'=>∃ v,en = .returned v/\Post s r G' v w'
def Z3X (s:St) (a:Act) (dst:Option Tmp) (x:PV) (G':Heap) (a':Act) (w':World):Prop:=∃ v,a'=a.put dst v/\Post s x G' v w'
variable {F:Fence} {m:Nat} {P:Program} {o:Oper} {Q:Exit->Act->World->Prop}
theorem Z0u {x:PV} {G':Heap} {q:Sem Value} (h:Gives X s x G' (q.run P s.w)) :
  o.uponIn F m P a (Z3X s a o.dst x G') Q ((do pure (Next.value (<- q)):Sem Next).run P s.w):=by
 obtain ⟨D',v,w',hr,h1,h2,h3⟩:=h
 simp only [Sem.run_bind,hr,Result.andThen_ok,Sem.run_pure,Oper.uponIn_value]
 exact ⟨v,rfl,D',h1,h2,h3⟩
theorem Z0Z (hi:Inv s) {x:PV} {q:Sem Value} (h:∃ v,q.run P s.w = .ok v s.w/\PVR s x v) :
  o.uponIn F m P a (Z3X s a o.dst x s.G) Q ((do pure (Next.value (<- q)):Sem Next).run P s.w):=by
 obtain ⟨v,hr,hv⟩:=h
 exact Z0u (X:=⟨P,λ_=>none,λ_ _=>none,λ_=>false,λ_=>false,false,λ_=>false,λ_=>false,λ_=>false,λ_ _=>false,λ_=>none,λ_=>false⟩) (by rw [hr];exact Gives.same hi hv)
theorem Calls.wide {P:Program} {f:FuncId} {args:Array Value} {w:World} {R:Ending->World->Prop} (rd:Option Nat) (h:Calls P f args w R) (m:Nat):CallsIn (Fw rd) m P f args w R :=
 (callsIn_wide (n:=m)).2 h
theorem Z5Z (rd:Option Nat) (m:Nat):((Fw rd).depth.isSome=true->1<=m):=λh=>by simp [Fw,Fence.wide] at h
theorem fold_min {k:IntKind}:∀ {xs:List PV} {vs:List Value} {x r:Int},(∀ (i:Nat) (y:PV),xs[i]? = some y->∃ u,vs[i]? = some u/\PVR s y u)->xs.length=vs.length ->
  Z1L (λx y=>if y<x then y else x) k x xs=some r->(vs.foldlM Builtin.min2 (.int k x)).run P s.w = .ok (.int k r) s.w
 | [],[],x,r,_,_,h=>by simp [Z1L] at h;subst h;simp
 | y::xs,v::vs,x,r,hr,hl,h=>by
  obtain ⟨u,hu,hp⟩:=hr 0 y (by simp)
  simp at hu;subst hu;unfold Z1L at h
  split at h
  ·rename_i heq;cases heq
  ·rename_i a' k' b xs' heq;simp only [List.cons.injEq] at heq;obtain ⟨rfl,rfl⟩:=heq;have:=Z16 hp;subst this
   by_cases hk:k=k'
   ·rw [if_pos hk] at h;subst hk;simp only [List.foldlM_cons,Builtin.min2,pure_bind];exact fold_min (λi y hy=>by simpa using hr (i+1) y (by simpa using hy)) (by simpa using hl) h
   ·rw [if_neg hk] at h;cases h
  ·cases h
 | [],_::_,_,_,_,hl,_=>by simp at hl
 | _::_,[],_,_,_,hl,_=>by simp at hl
theorem fold_max {k:IntKind}:∀ {xs:List PV} {vs:List Value} {x r:Int},(∀ (i:Nat) (y:PV),xs[i]? = some y->∃ u,vs[i]? = some u/\PVR s y u)->xs.length=vs.length ->
  Z1L (λx y=>if y>x then y else x) k x xs=some r->(vs.foldlM Builtin.max2 (.int k x)).run P s.w = .ok (.int k r) s.w
 | [],[],x,r,_,_,h=>by simp [Z1L] at h;subst h;simp
 | y::xs,v::vs,x,r,hr,hl,h=>by
  obtain ⟨u,hu,hp⟩:=hr 0 y (by simp)
  simp at hu;subst hu;unfold Z1L at h
  split at h
  ·rename_i heq;cases heq
  ·rename_i a' k' b xs' heq;simp only [List.cons.injEq] at heq;obtain ⟨rfl,rfl⟩:=heq;have:=Z16 hp;subst this
   by_cases hk:k=k'
   ·rw [if_pos hk] at h;subst hk;simp only [List.foldlM_cons,Builtin.max2,pure_bind];exact fold_max (λi y hy=>by simpa using hr (i+1) y (by simpa using hy)) (by simpa using hl) h
   ·rw [if_neg hk] at h;cases h
  ·cases h
 | [],_::_,_,_,_,hl,_=>by simp at hl
 | _::_,[],_,_,_,hl,_=>by simp at hl
theorem pvrs_one {x:PV} {vs:Array Value} (h:PVRs s [x] vs):∃ v,vs = #[v]/\PVR s x v:=by
 obtain ⟨h1,h2⟩:=h
 have hs:vs.size=1:=h1.symm
 refine ⟨vs[0],?_,?_⟩
 ·apply Array.ext
  ·simp [hs]
  ·intro i q1 q2;have:i=0:=by omega
   subst this;rfl
 ·have:=h2 0 x (by simp)
  simpa [Y7,hs] using this
theorem pvrs_two {x y:PV} {vs:Array Value} (h:PVRs s [x,y] vs):∃ v u,vs = #[v,u]/\PVR s x v/\PVR s y u:=by
 obtain ⟨h1,h2⟩:=h
 have hs:vs.size=2:=h1.symm
 refine ⟨vs[0],vs[1],?_,?_,?_⟩
 ·apply Array.ext
  ·simp [hs]
  ·intro i q1 q2;have:i=0\/i=1:=by omega
   rcases this with rfl|rfl<;>rfl
 ·have:=h2 0 x (by simp)
  simpa [Y7,hs] using this
 ·have:=h2 1 y (by simp)
  simpa [Y7,hs] using this
theorem builtin_ok (hi:Inv s) {id0:Nat} (hid:s.G.ent id0 = .none) (hnx:id0<s.G.nx) {b:Builtin} {ts:Array TypeId} {ty:TypeId} {args:List PV} {vs:Array Value} {x:PV} {G':Heap}
  (hv:PVRs s args vs) (h:Zg P s.G id0 b ts.toList args=some (x,G')):∃ q:Sem Value,(∀ cs,builtin b ts ty cs vs=(do pure (Next.value (<- q))))/\Gives X s x G' (q.run P s.w):=by
 unfold Zg at h
 split at h
 ·rename_i t y hts;obtain ⟨v,rfl,hx⟩:=pvrs_one hv;simp only [Y0,Y4] at h;obtain ⟨r,hr,rfl,rfl⟩:=h;obtain ⟨z,h1,h2⟩:=len_ok (P:=P) (ty:=ty) (ts:=ts) (by rw [<- Yw,hts];rfl) hx hr
  exact ⟨_,λ_=>rfl,by rw [h1];exact .same hi h2⟩
 ·rename_i t t' y z hts;obtain ⟨v,u,rfl,hx,hy⟩:=pvrs_two hv
  by_cases ht:t=t'
  ·rw [if_pos ht] at h;subst ht;have hts':ts = #[t,t]:=by rw [<- Array.toArray_toList (xs:=ts),hts]
   subst hts';exact ⟨_,λ_=>rfl,append_ok hi hid hnx hx hy h⟩
  ·rw [if_neg ht] at h;cases h
 ·rename_i t t' y z hts;obtain ⟨v,u,rfl,hx,hy⟩:=pvrs_two hv;have hts':ts = #[t,t']:=by rw [<- Array.toArray_toList (xs:=ts),hts]
  subst hts';exact ⟨_,λ_=>rfl,copy_ok hi hx hy h⟩
 ·rename_i k x0 xs;simp only [Y0,Y4] at h;obtain ⟨r,hr,rfl,rfl⟩:=h;obtain ⟨h1,h2⟩:=hv;have hlt:0<vs.size:=by rw [<- h1];simp
  have h0:=h2 0 (.v (.int k x0)) (by simp)
  simp only [Y7,YV hlt,Y0R] at h0;have e0:=Z16 h0;obtain ⟨tl,htl⟩ : ∃ tl,vs.toList = .int k x0::tl:=by
   cases hl:vs.toList with
   | nil=>simp [<- Ys,hl] at hlt
   | cons q tl=>
    refine ⟨tl,?_⟩;have:vs[0]=q:=by simp [<- Array.getElem_toList,hl]
    rw [<- this,e0]
  refine ⟨_,λ_=>rfl,?_⟩;have hf:=fold_min (s:=s) (P:=P) (k:=k) (xs:=xs) (vs:=tl) (x:=x0) (r:=r) (λi y hy=>by
   have:=h2 (i+1) y (by simpa using hy)
   have hlt2:i+1<vs.size:=by rw [<- h1];have:=(List.getElem?_eq_some_iff.1 hy).1;simp;omega
   refine ⟨vs[i+1],?_,by simpa [Y7,hlt2] using this⟩
   have e:vs.toList[i+1]? = some vs[i+1]:=by simp [hlt2]
   rw [htl] at e;simpa using e) (by
   have:vs.toList.length=tl.length+1:=by rw [htl];simp
   simp at h1 this;omega) hr
  simp only [Builtin.min_,htl,hf];exact .same hi (.v (.int _ _))
 ·rename_i k x0 xs;simp only [Y0,Y4] at h;obtain ⟨r,hr,rfl,rfl⟩:=h;obtain ⟨h1,h2⟩:=hv;have hlt:0<vs.size:=by rw [<- h1];simp
  have h0:=h2 0 (.v (.int k x0)) (by simp)
  simp only [Y7,YV hlt,Y0R] at h0;have e0:=Z16 h0;obtain ⟨tl,htl⟩ : ∃ tl,vs.toList = .int k x0::tl:=by
   cases hl:vs.toList with
   | nil=>simp [<- Ys,hl] at hlt
   | cons q tl=>
    refine ⟨tl,?_⟩;have:vs[0]=q:=by simp [<- Array.getElem_toList,hl]
    rw [<- this,e0]
  refine ⟨_,λ_=>rfl,?_⟩;have hf:=fold_max (s:=s) (P:=P) (k:=k) (xs:=xs) (vs:=tl) (x:=x0) (r:=r) (λi y hy=>by
   have:=h2 (i+1) y (by simpa using hy)
   have hlt2:i+1<vs.size:=by rw [<- h1];have:=(List.getElem?_eq_some_iff.1 hy).1;simp;omega
   refine ⟨vs[i+1],?_,by simpa [Y7,hlt2] using this⟩
   have e:vs.toList[i+1]? = some vs[i+1]:=by simp [hlt2]
   rw [htl] at e;simpa using e) (by
   have:vs.toList.length=tl.length+1:=by rw [htl];simp
   simp at h1 this;omega) hr
  simp only [Builtin.max_,htl,hf];exact .same hi (.v (.int _ _))
 ·cases h
end Go.Dn

namespace Go.Dn
open Go
variable {X:Ctx} {s:St} {n:Nat} {e:Env} {a:Act} {o:Oper} {Q:Exit->Act->World->Prop} {m:Nat}
theorem Z2W {xs ys:List PV} {us vs:Array Value} (h1:PVRs s xs us) (h2:PVRs s ys vs):PVRs s (xs++ys) (us++vs):=by
 refine ⟨by simp [h1.1,h2.1],λi x hi=>?_⟩
 by_cases hlt:i<xs.length
 ·rw [YJ hlt] at hi;have:=h1.2 i x hi;have hlt':i<us.size:=by rw [<- h1.1];exact hlt
  simpa [Y7,Array.getElem?_append,hlt'] using this
 ·rw [YP (by omega)] at hi
  have:=h2.2 _ x hi;have hlt':¬ i<us.size:=by rw [<- h1.1];exact hlt
  simpa [Y7,Array.getElem?_append,hlt',h1.1] using this
theorem clo_inv {f:FuncId} {first caps:List PV} {v:Value} (h:PVR s (.clo f first caps) v):∃ fv cv,v = .func (.func f) fv cv/\PVRs s first fv/\PVRs s caps cv:=by
 cases h with
 | clo hf hc h1 h2=>exact ⟨_,_,rfl,⟨hf,h1⟩,⟨hc,h2⟩⟩
theorem fn_inv {f:FuncId} {v:Value} (h:PVR s (.v (.fn f)) v):v = .func (.func f) #[] #[]:=by cases h with|v h=>cases h;rfl
theorem Z6r {f:FuncId} {vs:Array Value} {x:PV} {G':Heap} {rd:Option Nat} (h1:(callFunc f vs).run X.P s.w = .ok (.enter f vs) s.w)
  (h2:Calls X.P f vs s.w λen w'=>∃ v,en = .returned v/\Post s x G' v w') :
  o.uponIn (Fw rd) m X.P a (Z3X s a o.dst x G') Q ((callFunc f vs).run X.P s.w):=by
 rw [h1,Oper.uponIn_enter]
 refine ⟨Z5Z rd m,(Calls.wide rd h2 (m-1)).mono λen w' hh=>?_⟩
 obtain ⟨v,rfl,hp⟩:=hh
 exact ⟨v,rfl,hp⟩
theorem Z2B (hG:Zp X s) (he:EnvR s n e a) {x:Option Operand} {y:Option PV} (h:optD X e x=some y):OptR s y (x.map a.eval):=by
 cases x with
 | none=>simp [optD] at h;subst h;trivial
 | some x=>
  simp only [optD,Y0] at h;obtain ⟨z,hz,rfl⟩:=h;exact Z6 hG he hz
theorem callop_ok {call:ZR} (hcall:Z1h X call) (hG:Zp X s) (he:EnvR s n e a) (hi:Inv s) {id0:Nat} (hid:s.G.ent id0 = .none) (hnx:id0<s.G.nx) {c:Call} (ho:o.op = .call c) {x:PV} {G':Heap}
  {rd:Option Nat} (h:ZM X call e s.G id0 c=some (x,G')):o.uponIn (Fw rd) m X.P a (Z3X s a o.dst x G') Q ((execOp a.eval o).run X.P s.w):=by
 unfold ZM at h
 split at h
 ·cases h
 ·rename_i args hargs;have hv:=Z10 hG he hargs;have hex:∀ d,resolve a.eval c o.type=pure d->(execOp a.eval o).run X.P s.w=(invoke d.target d.args).run X.P s.w:=λd hd=>by
   simp [execOp,ho,hd]
  split at h
  ·rename_i b hc;obtain ⟨q,hq,hg⟩:=builtin_ok (X:=X) (ty:=o.type) hi hid hnx hv h;rw [hex _ (by simp only [resolve,hc];rfl)]
   simp only [invoke];rw [hq];exact Z0u hg
  ·cases h
  ·rename_i f hc
   split at h
   ·rename_i fid hf;have hfv:=fn_inv (Z6 hG he hf);rw [hex { target:=.fn (.func fid) #[],args:=#[]++c.args.map a.eval } (by simp only [resolve,hc,hfv,Deferred.ofValue])]
    obtain ⟨h1,h2⟩:=hcall (.fn fid) args x G' s h hi hG (c.args.map a.eval) hv;simp only [invoke,Array.append_empty,Y0V];exact Z6r h1 h2
   ·rename_i fid first caps hf;obtain ⟨fv,cv,hfv,hf1,hf2⟩:=clo_inv (Z6 hG he hf);rw [hex { target:=.fn (.func fid) cv,args:=fv++c.args.map a.eval } (by simp only [resolve,hc,hfv,Deferred.ofValue])]
    obtain ⟨h1,h2⟩:=hcall (.fn fid) (first++args++caps) x G' s h hi hG (fv++c.args.map a.eval++cv) (Z2W (Z2W hf1 hv) hf2);simp only [invoke];exact Z6r h1 h2
   ·rename_i id hf;have hyl:a.eval f = .func (.yield (s.D id)) #[] #[]:=by
     have:=Z6 hG he hf;cases hv2:a.eval f<;>rw [hv2] at this<;>cases this
     rfl
    rw [hex { target:=.fn (.yield (s.D id)) #[],args:=#[]++c.args.map a.eval } (by simp only [resolve,hc,hyl,Deferred.ofValue])]
    obtain ⟨l,fn,tmps,assign,body,h1,h2⟩:=hcall (.yld id) args x G' s h hi hG (c.args.map a.eval) hv;simp only [invoke,Y0V];rw [h1,Oper.uponIn_round];refine ⟨Z5Z rd m,?_⟩;have h3:=h2 (m-1);refine RoundIn.mono (F:=Fw rd) h3 λen w' hh=>?_;obtain ⟨v,rfl,hp⟩:=hh;exact ⟨v,rfl,hp⟩
   ·cases h
theorem step_ok {call:ZR} (hcall:Z1h X call) (hG:Zp X s) (he:EnvR s n e a) (hi:Inv s) {id0:Nat} (hid:s.G.ent id0 = .none) (hnx:id0<s.G.nx) {x:PV} {G':Heap}
  {rd:Option Nat} (h:Z2 X call e s.G id0 o.op=some (x,G')):o.uponIn (Fw rd) m X.P a (Z3X s a o.dst x G') Q ((o.semAt (Fw rd).round a.eval).run X.P s.w):=by
 have hnd:∀ c,o.op ≠ .defer c:=by
  intro c hc;rw [hc] at h;simp [Z2] at h
 rw [Oper.semAt_eq _ _ _ hnd]
 cases ho:o.op<;>rw [ho] at h<;>simp only [Z2] at h<;>(try (cases h;done))
 case move y=>
  simp only [Y0,Y4] at h;obtain ⟨z,hz,rfl,rfl⟩:=h;simp only [execOp,ho,Sem.run_pure,Oper.uponIn_value];exact ⟨_,rfl,s.D,hi,Ev.refl s,Z6 hG he hz⟩
 case assign y=>
  simp only [Y0,Y4] at h;obtain ⟨z,hz,rfl,rfl⟩:=h;simp only [execOp,ho,Sem.run_pure,Oper.uponIn_value];exact ⟨_,rfl,s.D,hi,Ev.refl s,Z6 hG he hz⟩
 case pick c y z=>
  split at h
  ·rename_i hc;have hcv:=Z0s (Z6 hG he hc);simp only [Y0,Y4] at h;obtain ⟨q,hq,rfl,rfl⟩:=h;simp only [execOp,ho,hcv,asBool,Sem.run_bind,Sem.run_pure,Result.andThen_ok,Oper.uponIn_value,if_true];exact ⟨_,rfl,s.D,hi,Ev.refl s,Z6 hG he hq⟩
  ·rename_i hc;have hcv:=Z0s (Z6 hG he hc);simp only [Y0,Y4] at h;obtain ⟨q,hq,rfl,rfl⟩:=h;simp only [execOp,ho,hcv,asBool,Sem.run_bind,Sem.run_pure,Result.andThen_ok,Oper.uponIn_value,YB,if_false];exact ⟨_,rfl,s.D,hi,Ev.refl s,Z6 hG he hq⟩
  ·cases h
 case alloc t=>
  simp only [Y0] at h;obtain ⟨z,hz,hzz⟩:=h;obtain ⟨v,h1,h2,h3⟩:=tzero_ok (s:=s) hz;have hg:=Z50 (X:=X) (P:=X.P) hi hid hnx (t:=t) h2 h3;rw [hzz] at hg;simp only [execOp,ho];refine Z0u (X:=X) ?_;simp only [Instr.alloc,Sem.run_bind,h1,Result.andThen_ok]
  simpa using hg
 case box t y=>
  simp only [Y0,Y2] at h;obtain ⟨cs,⟨z,hz,hcs⟩,hzz⟩:=h;obtain ⟨c1,c2⟩:=Z5c hcs (Z6 hG he hz);have hg:=Z50 (X:=X) (P:=X.P) hi hid hnx (t:=t) c1 c2;rw [hzz] at hg;simp only [execOp,ho];exact Z0u (X:=X) hg
 case build t parts=>
  simp only [Y0,Y4] at h;obtain ⟨z,hz,rfl,rfl⟩:=h;simp only [execOp,ho];exact Z0Z hi (build_ok hG he hz)
 case buildSlice t len parts=>
  simp only [execOp,ho];exact Z0u (X:=X) (buildSlice_ok hG he hi hid hnx h)
 case load t y=>
  simp only [Y0,Y2,Y4] at h;obtain ⟨z,⟨p,hp,hz⟩,rfl,rfl⟩:=h;simp only [execOp,ho];exact Z0u (X:=X) (load_gives hi (Z6 hG he hp) hz)
 case store t y z=>
  split at h
  ·rename_i p q hp hq;simp only [Y0,Y4] at h;obtain ⟨G1,hs,rfl,rfl⟩:=h;obtain ⟨D',w',h1,h2,h3⟩:=store_ok hi (Z6 hG he hp) (Z6 hG he hq) hs;simp only [execOp,ho,Sem.run_bind,h1,Result.andThen_ok,Sem.run_pure,Oper.uponIn_skip];exact ⟨_,rfl,D',h2,h3,.undef⟩
  ·cases h
 case nilCheck y=>
  have same:∀ z,Z1 X e y=some z->(∀ b,a.eval y ≠ .pointer none\/b)->True:=λ_ _ _=>trivial
  split at h
  ·rename_i id ver off hy
   by_cases hc:s.G.cur id ver=true
   ·rw [if_pos hc] at h;cases h;have hp:=Z6 hG he hy;have hv:=ptr_inv hp hc;simp only [execOp,ho];rw [hv];simp only [Sem.run_pure,Oper.uponIn_value];exact ⟨_,rfl,s.D,hi,Ev.refl s,by rw [<- hv];exact hp⟩
   ·rw [if_neg hc] at h;cases h
  ·rename_i cs hy;cases h;have hp:=Z6 hG he hy
   simp only [execOp,ho];generalize a.eval y=v at hp;cases hp with
   | fptr himm hcell=>
    simp only [Sem.run_pure,Oper.uponIn_value];exact ⟨_,rfl,s.D,hi,Ev.refl s,.fptr himm hcell⟩
  ·rename_i f fi ca hy;cases h;have hp:=Z6 hG he hy;obtain ⟨fv,cv,hv,_,_⟩:=clo_inv hp;simp only [execOp,ho];rw [hv];simp only [Sem.run_pure,Oper.uponIn_value];exact ⟨_,rfl,s.D,hi,Ev.refl s,by rw [<- hv];exact hp⟩
  ·rename_i f hy;cases h;have hp:=Z6 hG he hy;have hv:=fn_inv hp;simp only [execOp,ho];rw [hv];simp only [Sem.run_pure,Oper.uponIn_value];exact ⟨_,rfl,s.D,hi,Ev.refl s,by rw [<- hv];exact hp⟩
  ·rename_i id hy;cases h;have hp:=Z6 hG he hy
   simp only [execOp,ho];generalize a.eval y=v at hp;cases hp with
   | yld hl=>
    simp only [Sem.run_pure,Oper.uponIn_value];exact ⟨_,rfl,s.D,hi,Ev.refl s,.yld hl⟩
  ·cases h
 case binOp op t y z ty=>
  split at h
  ·rename_i p q hp hq;simp only [Y0,Y4] at h;obtain ⟨r,hr,rfl,rfl⟩:=h;simp only [execOp,ho];exact Z0Z hi (bin_ok (Z6 hG he hp) (Z6 hG he hq) hr y z)
  ·cases h
 case unOp op t y=>
  simp only [Y0,Y2,Y4] at h;obtain ⟨r,⟨p,hp,hr⟩,rfl,rfl⟩:=h;simp only [execOp,ho];exact Z0Z hi (un_ok (Z6 hG he hp) hr)
 case convert src dst y=>
  simp only [Y0,Y2,Y4] at h;obtain ⟨r,⟨p,hp,hr⟩,rfl,rfl⟩:=h;simp only [execOp,ho];exact Z0Z hi (conv_ok (Z6 hG he hp) hr)
 case makeFunc fn first caps=>
  cases fn with
  | func f=>
   simp only at h;have hx:G'=s.G/\∃ z,PVR s x (.func (.func f) (first.map a.eval) (caps.map a.eval))/\z=x:=by
    split at h
    ·rename_i h1 h2;cases h;have e1:=Z10 hG he h1;have e2:=Z10 hG he h2;have f1:first.map a.eval = #[]:=Y0D e1.1.symm;have f2:caps.map a.eval = #[]:=Y0D e2.1.symm;rw [f1,f2];exact ⟨rfl,_,.v (.fn f),rfl⟩
    ·rename_i h1 h2;cases h;have e1:=Z10 hG he h1;have e2:=Z10 hG he h2;exact ⟨rfl,_,.clo e1.1 e2.1 e1.2 e2.2,rfl⟩
    ·cases h
   obtain ⟨rfl,_,hx,_⟩:=hx;simp only [execOp,ho];exact Z0Z hi ⟨_,by simp only [Instr.makeFunc,Sem.run_pure],hx⟩
  | _=>simp at h
 case makeSlice t y z=>
  split at h
  ·rename_i p q hp hq;simp only [execOp,ho];exact Z0u (X:=X) (make_ok hi hid hnx (Z6 hG he hp) (Z6 hG he hq) h)
  ·cases h
 case slice t y lo hi' mx=>
  have hrun:(execOp a.eval o).run X.P s.w=((do pure (Next.value (<- Instr.sliceAt t (a.eval y) (lo.map a.eval) (hi'.map a.eval) (mx.map a.eval))):Sem Next)).run X.P s.w:=by
   simp only [execOp,ho]
  rw [hrun]
  split at h
  ·rename_i id len sz q1 q2 q3 h1 h2 h3 h4
   split at h
   ·simp only [Y0,Y4] at h;obtain ⟨r,hr,rfl,rfl⟩:=h;exact Z0Z hi (view_ok (Z6 hG he h1) (Z2B hG he h2) (Z2B hG he h3) (Z2B hG he h4) hr)
   simp only [Y2,Y0,Y4] at h;obtain ⟨⟨z,G1⟩,hz,w1,hw1,rfl,rfl⟩:=h;obtain ⟨e1,f1⟩:=exp6 hz hi (Z6 hG he h1);have hev:=e1.2;have up:∀ {p:Option PV} {q:Option Value},OptR s p q->OptR ⟨s.w,s.Y,G1,s.D⟩ p q:=by
    intro p q hpq;cases p<;>cases q<;>first|exact hpq|exact hev.pvr hpq
   obtain ⟨u,u1,u2⟩:=slice_ok (s:=⟨s.w,s.Y,G1,s.D⟩) (P:=X.P) (.v f1) (up (Z2B hG he h2)) (up (Z2B hG he h3)) (up (Z2B hG he h4)) hw1;refine Z0u (X:=X) ⟨s.D,u,s.w,u1,e1.1,e1.2,u2⟩
  ·rename_i p q1 q2 q3 hnb h1 h2 h3 h4;simp only [Y0,Y4] at h;obtain ⟨r,hr,rfl,rfl⟩:=h;exact Z0Z hi (slice_ok (Z6 hG he h1) (Z2B hG he h2) (Z2B hG he h3) (Z2B hG he h4) hr)
  ·cases h
 case fieldAddr t y f=>
  simp only [Y0,Y2,Y4] at h;obtain ⟨r,⟨p,hp,hr⟩,rfl,rfl⟩:=h;simp only [execOp,ho];exact Z0Z hi (fieldAddr_ok (Z6 hG he hp) hr)
 case field t y f=>
  simp only [Y0,Y2,Y4] at h;obtain ⟨r,⟨p,hp,hr⟩,rfl,rfl⟩:=h;simp only [execOp,ho];exact Z0Z hi (field_ok (Z6 hG he hp) hr)
 case indexAddr t y z=>
  split at h
  ·rename_i p q hp hq;simp only [Y0,Y4] at h;obtain ⟨r,hr,rfl,rfl⟩:=h;simp only [execOp,ho];exact Z0Z hi (indexAddr_ok hi (Z6 hG he hp) (Z6 hG he hq) hr)
  ·cases h
 case index t y z=>
  split at h
  ·rename_i p q hp hq;simp only [Y0,Y4] at h;obtain ⟨r,hr,rfl,rfl⟩:=h;simp only [execOp,ho];exact Z0Z hi (index_ok (Z6 hG he hp) (Z6 hG he hq) hr)
  ·cases h
 case extract y k=>
  split at h
  ·rename_i xs hy;simp only [Y0,Y4] at h;obtain ⟨r,hr,rfl,rfl⟩:=h;have hp:=Z6 hG he hy
   simp only [execOp,ho];generalize a.eval y=v at hp;cases hp with
   | @tup _ vs hs hh=>
    have hlt:k<vs.size:=by rw [<- hs];exact (List.getElem?_eq_some_iff.1 hr).1
    have:=hh k r hr;refine Z0Z hi ⟨vs[k],by simp [Instr.extract,hlt],?_⟩
    simpa [Y7,hlt] using this
  ·cases h
 case call c=>
  exact callop_ok hcall hG he hi hid hnx ho h
end Go.Dn

namespace Go.Dn
open Go
variable {X:Ctx} {s:St} {n:Nat} {e:Env} {a:Act} {Q:Exit->Act->World->Prop} {m:Nat}
theorem Z4z:∀ {xs ys:List PV} {G G':Heap},Z0M G xs=some (ys,G')->Tame G none G'
 | [],ys,G,G',h=>by simp [Z0M] at h;rw [<- h.2];exact Tame.refl _ _
 | x::xs,ys,G,G',h=>by
  simp only [Z0M,Y2,Y5,Y4] at h;obtain ⟨⟨y,G1⟩,h1,⟨zs,G2⟩,h2,_,rfl⟩:=h;exact (Z2U h1).trans (Z4z h2)
theorem expRes_tame {G:Heap} {x y:PV} {G':Heap} (h:Z05 G x=some (y,G')):Tame G none G':=by
 unfold Z05 at h
 split at h
 ·simp only [Y2,Y5,Y4] at h;obtain ⟨⟨ys,G1⟩,h1,_,rfl⟩:=h;exact Z4z h1
 ·exact Z2U h
theorem expArg_tame {G:Heap} {x y:PV} {G':Heap} (h:Z1e G x=some (y,G')):Tame G none G':=by
 unfold Z1e at h
 split at h
 ·cases h;exact Tame.refl _ _
 ·cases h;exact Tame.refl _ _
 ·cases h;exact Tame.refl _ _
 ·exact Z2U h
theorem Z3N:∀ {xs ys:List PV} {G G':Heap},Zz G xs=some (ys,G')->Tame G none G'
 | [],ys,G,G',h=>by simp [Zz] at h;rw [<- h.2];exact Tame.refl _ _
 | x::xs,ys,G,G',h=>by
  simp only [Zz,Y2,Y5,Y4] at h;obtain ⟨⟨y,G1⟩,h1,⟨zs,G2⟩,h2,_,rfl⟩:=h;exact (expArg_tame h1).trans (Z3N h2)
theorem Z1w {P:Program} {G:Heap} {t:TypeId} {x p:PV} {G':Heap} {id0:Option Nat} (h:Z18 P G t x p=some G'):Tame G id0 G':=by
 unfold Z18 at h
 split at h
 ·split at h
  ·rename_i hb
   split at h
   ·split at h
    ·split at h
     ·cases h;exact Tame.Z5L id0 (by rw [hb];simp)
     ·cases h
    ·cases h
   ·cases h
  ·cases h
 ·cases h
theorem appendD_tame {P:Program} {G:Heap} {id0:Nat} {t:TypeId} {x y z:PV} {G':Heap} (h:Z0L P G id0 t x y=some (z,G')):Tame G (some id0) G':=by
 unfold Z0L at h
 split at h
 ·cases h
 ·split at h
  ·split at h
   ·cases h
   ·split at h
    ·cases h
    ·split at h
     ·split at h
      ·cases h;exact Tame.refl _ _
      ·split at h
       ·cases h;exact Tame.Z1U _ _ _
       ·cases h
     ·split at h
      ·cases h
      ·split at h
       ·cases h;exact Tame.Z1U _ _ _
       ·cases h
     ·split at h
      ·rename_i hb
       split at h
       ·cases h;exact Tame.Z5L _ (by rw [hb];simp)
       ·cases h
      ·cases h
     ·cases h
  ·cases h
theorem copyD_tame {P:Program} {G:Heap} {id0:Option Nat} {t:TypeId} {x y z:PV} {G':Heap} (h:Z3q P G t x y=some (z,G')):Tame G id0 G':=by
 unfold Z3q at h
 split at h
 ·cases h
 ·split at h
  ·cases h
  ·split at h
   ·split at h
    ·rename_i hb
     split at h
     ·cases h;exact Tame.Z5L _ (by rw [hb];simp)
     ·cases h
    ·cases h
   ·split at h
    ·rename_i hb
     split at h
     ·cases h;exact Tame.Z5L _ (by rw [hb];simp)
     ·cases h
    ·cases h
   ·cases h
theorem makeD_tame {P:Program} {G:Heap} {id0:Nat} {t:TypeId} {x y z:PV} {G':Heap} (h:makeD P G id0 t x y=some (z,G')):Tame G (some id0) G':=by
 unfold makeD at h
 split at h
 ·split at h
  ·split at h
   ·cases h;exact Tame.Z1U _ _ _
   ·cases h
  ·cases h
 ·cases h
theorem builtinD_tame {P:Program} {G:Heap} {id0:Nat} {b:Builtin} {ts:List TypeId} {args:List PV} {z:PV} {G':Heap} (h:Zg P G id0 b ts args=some (z,G')):Tame G (some id0) G':=by
 unfold Zg at h
 split at h
 ·simp only [Y0,Y4] at h;obtain ⟨_,_,_,rfl⟩:=h;exact Tame.refl _ _
 ·split at h
  ·exact appendD_tame h
  ·cases h
 ·exact copyD_tame h
 ·simp only [Y0,Y4] at h;obtain ⟨_,_,_,rfl⟩:=h;exact Tame.refl _ _
 ·simp only [Y0,Y4] at h;obtain ⟨_,_,_,rfl⟩:=h;exact Tame.refl _ _
 ·cases h
theorem Z5p {X:Ctx} {G:Heap} {id0:Nat} {t:TypeId} {len:Nat} {parts:List (Nat×Operand)} {z:PV} {G':Heap} (h:Z0Q X e G id0 t len parts=some (z,G')):Tame G (some id0) G':=by
 unfold Z0Q at h
 simp only [Y2] at h
 obtain ⟨ps,_,⟨qs,G1⟩,hq,h⟩:=h
 refine (Z6R hq).weak.trans ?_
 unfold Z0q at h
 split at h
 ·split at h
  ·split at h
   ·simp only [Y0,Y4] at h;obtain ⟨_,_,_,rfl⟩:=h;exact Tame.Z1U _ _ _
   ·cases h
  ·cases h
 ·cases h
theorem callOpD_tame {call:ZR} (hc:Z08 call) {G:Heap} {id0:Nat} {c:Call} {z:PV} {G':Heap} (h:ZM X call e G id0 c=some (z,G')):Tame G (some id0) G':=by
 unfold ZM at h
 split at h
 ·cases h
 ·split at h
  ·exact builtinD_tame h
  ·cases h
  ·split at h
   ·exact (hc _ _ _ _ _ h).weak
   ·exact (hc _ _ _ _ _ h).weak
   ·exact (hc _ _ _ _ _ h).weak
   ·cases h
theorem stepOp_tame {call:ZR} (hc:Z08 call) {G:Heap} {id0:Nat} {op:Op} {z:PV} {G':Heap} (h:Z2 X call e G id0 op=some (z,G')):Tame G (some id0) G':=by
 cases op<;>simp only [Z2] at h<;>(try (cases h;done))
 case alloc t=>
  simp only [Y0,newD,Y4] at h;obtain ⟨_,_,_,rfl⟩:=h;exact Tame.Z1U _ _ _
 case box t y=>
  simp only [Y0,newD,Y4] at h;obtain ⟨_,_,_,rfl⟩:=h;exact Tame.Z1U _ _ _
 case buildSlice=>exact Z5p h
 case store t y z=>
  split at h
  ·simp only [Y0,Y4] at h;obtain ⟨G1,hs,_,rfl⟩:=h;exact Z1w hs
  ·cases h
 case makeSlice t y z=>
  split at h
  ·exact makeD_tame h
  ·cases h
 case call c=>exact callOpD_tame hc h
 case slice t y lo hi mx=>
  split at h
  ·split at h
   ·simp only [Y0,Y4] at h;obtain ⟨_,_,_,rfl⟩:=h;exact Tame.refl _ _
   simp only [Y2,Y0,Y4] at h;obtain ⟨⟨q,G1⟩,h1,_,_,_,rfl⟩:=h;exact (Z27 6 _ _ _ _ h1).weak
  ·simp only [Y0,Y4] at h;obtain ⟨_,_,_,rfl⟩:=h;exact Tame.refl _ _
  ·cases h
 case makeFunc fn f c=>
  cases fn<;>simp only at h<;>(try (cases h;done))
  split at h<;>cases h<;>exact Tame.refl _ _
 case nilCheck y=>
  split at h
  ·split at h<;>cases h;exact Tame.refl _ _
  all_goals first
   | (cases h;exact Tame.refl _ _)
   | (cases h;done)
 all_goals first
  | (simp only [Y0,Y4] at h;obtain ⟨_,_,_,rfl⟩:=h;exact Tame.refl _ _)
  | (split at h<;>first
    | (simp only [Y0,Y4] at h;obtain ⟨_,_,_,rfl⟩:=h;exact Tame.refl _ _)
    | (cases h;done))
theorem EnvR.put {x:PV} {v:Value} {dst:Option Tmp} (h:EnvR s n e a) (hx:PVR s x v):EnvR s n (putD n e dst x) (a.put dst v):=by
 obtain ⟨h1,h2⟩:=h
 cases dst with
 | none=>exact ⟨h1,h2⟩
 | some d=>
  refine ⟨by simp [Act.put,h1],λt=>?_⟩
  by_cases hd:d<n
  ·simp only [putD,hd,if_true]
   by_cases ht:t=d
   ·subst ht
    simpa [Z7,Act.put,Y7,h1,hd] using hx
   ·rw [ZH _ _ ht];have:=h2 t
    simpa [Act.put,Y7,Array.getElem?_setIfInBounds_ne (Ne.symm ht)] using this
  ·simp only [putD,hd,if_false];have hle:a.tmps.size<=d:=by rw [h1];exact Nat.le_of_not_lt hd
   have hs:a.tmps.setIfInBounds d v=a.tmps:=Array.setIfInBounds_eq_of_size_le hle
   simpa [Act.put,hs] using h2 t
theorem wanted_ok {ops:Array Oper} {o:Oper} {b:Bool} (he:EnvR s n e a) (h:ZP ops e o=some b):Region.wanted o (yielded ops a.tmps)=b:=by
 unfold ZP at h
 unfold Region.wanted
 split at h
 ·rename_i hg;cases h;rw [hg]
 ·rename_i j want hg;rw [hg];simp only
  split at h
  ·rename_i hd;cases h;simp [yielded,hd]
  ·rename_i d hd;have h2:=he.2 d
   split at h
   ·rename_i c hc;cases h;rw [hc] at h2;have h3:=Z0s h2;have hlt:d<a.tmps.size:=by
     rcases YF d a.tmps.size with h'|h'
     ·exact h'
     ·simp [Y7,Yr h',Go.undef] at h3
    have h4:a.tmps[d]? = some (.bool c):=by
     simp only [Y7,YV hlt,Y0R] at h3 ⊢;rw [h3]
    simp [yielded,hd,h4]
   ·rename_i hc;cases h;rw [hc] at h2;have h3:a.tmps.getD d Go.undef=Go.undef:=by generalize a.tmps.getD d Go.undef=v at h2;cases h2;rfl
    have h4:a.tmps[d]? = none\/a.tmps[d]? = some Go.undef:=by
     rcases YF d a.tmps.size with h'|h'
     ·simp only [Y7,YV h',Y0R] at h3 ⊢;rw [h3];simp
     ·exact .inl (Yr h')
    rcases h4 with h4|h4<;>simp [yielded,hd,h4,Go.undef]
   ·cases h
structure Then (s:St) (n:Nat) (a:Act) (e':Env) (G':Heap) (a':Act) (w':World) (D':Nat->Nat):Prop where
 inv:Inv ⟨w',s.Y,G',D'⟩
 ev:Ev s ⟨w',s.Y,G',D'⟩
 env:EnvR ⟨w',s.Y,G',D'⟩ n e' a'
 defers:a'.defers=a.defers
theorem Z4f (a:Act) (dst:Option Tmp) (v:Value):(a.put dst v).defers=a.defers:=by cases dst<;>rfl
theorem stepO_ok {call:ZR} (hcall:Z1h X call) {rd:Option Nat} {ops:Array Oper} {base i:Nat} {o:Oper} {e':Env} {G':Heap} (hG:Zp X s) (hi:Inv s) (he:EnvR s n e a)
  (hid:s.G.ent (base+i) = .none) (hnx:base+i<s.G.nx) (h:Zv X call n ops base i o e s.G=some (e',G')) {K:Act->World->Prop}
  (hK:∀ a' w' D',Then s n a e' G' a' w' D'->K a' w') :
  if Region.wanted o (yielded ops a.tmps) then o.wpIn (Fw rd) m X.P a s.w K Q else (∀ f,o.about X.P s.w a.eval=some f->(Fw rd).fn f)/\K (a.put o.dst Go.undef) s.w:=by
 unfold Zv at h
 split at h
 ·rename_i hw;rw [wanted_ok he hw,if_pos rfl];simp only [Y2,Y5,Y4] at h;obtain ⟨⟨x,G1⟩,h1,rfl,rfl⟩:=h;have hs:=step_ok (o:=o) (Q:=Q) (m:=m) (rd:=rd) hcall hG he hi hid hnx h1;refine Oper.wpIn_mono (K:=Z3X s a o.dst x G1) (λa' w' hh=>?_) ⟨λ_ _=>trivial,hs⟩;obtain ⟨v,rfl,D',h2,h3,h4⟩:=hh;exact hK _ _ D' ⟨h2,h3,(he.mono h3).put h4,Z4f _ _ _⟩
 ·rename_i hw;rw [wanted_ok he hw];simp only [YB,if_false];cases h;exact ⟨λ_ _=>trivial,hK _ _ s.D ⟨hi,Ev.refl s,he.put .undef,Z4f _ _ _⟩⟩
 ·cases h
theorem Z36 {call:ZR} (hc:Z08 call) {ops:Array Oper} {base i:Nat} {o:Oper} {G:Heap} {e':Env} {G':Heap} (h:Zv X call n ops base i o e G=some (e',G')):Tame G (some (base+i)) G':=by
 unfold Zv at h
 split at h
 ·simp only [Y2,Y5,Y4] at h;obtain ⟨⟨x,G1⟩,h1,_,rfl⟩:=h;exact stepOp_tame hc h1
 ·cases h;exact Tame.refl _ _
 ·cases h
theorem runOps_ok {call:ZR} (hcall:Z1h X call) (htame:Z08 call) {rd:Option Nat} {ops:Array Oper} {base:Nat}:∀ (l:List Oper) (i:Nat) (s:St) (e:Env) (a:Act) (e':Env) (G':Heap),Zp X s->Inv s->EnvR s n e a ->
  (∀ j,l[j]? = ops[i+j]?)->(∀ k,i<=k->k<i+l.length->s.G.ent (base+k) = .none/\base+k<s.G.nx)->Z0a X call n ops base i l e s.G=some (e',G')->
  (∀ a' w' D',Then s n a e' G' a' w' D'->Q .normal a' w')->wpOpsIn (Fw rd) m X.P ops Q (List.range' i l.length) a s.w
 | [],i,s,e,a,e',G',hG,hi,he,hl,hf,h,hQ=>by
  simp [Z0a] at h;obtain ⟨rfl,rfl⟩:=h;exact hQ a s.w s.D ⟨hi,Ev.refl s,he,rfl⟩
 | o::l,i,s,e,a,e',G',hG,hi,he,hl,hf,h,hQ=>by
  simp only [Z0a,Y2] at h;obtain ⟨⟨e1,G1⟩,h1,h2⟩:=h;have h0:ops[i]? = some o:=by simpa using (hl 0).symm
  obtain ⟨f1,f2⟩:=hf i (YA _) (by simp)
  have hT:=Z36 htame h1;have:=stepO_ok (m:=m) (Q:=Q) (rd:=rd) hcall hG hi he f1 f2 h1 (K:=wpOpsIn (Fw rd) m X.P ops Q (List.range' (i+1) l.length)) (λa1 w1 D1 ht=>by
   refine runOps_ok hcall htame l (i+1) ⟨w1,s.Y,G1,D1⟩ e1 a1 e' G' (hG.mono ht.ev) ht.inv ht.env (λj=>by have:=hl (j+1);simpa [Nat.add_assoc,Nat.add_comm 1 j] using this) (λk hk1 hk2=>?_) h2 (λa' w' D' ht2=>hQ a' w' D' ⟨ht2.inv,ht.ev.trans ht2.ev,ht2.env,ht2.defers.trans ht.defers⟩)
   obtain ⟨g1,g2⟩:=hf k (by omega) (by simp;omega)
   exact ⟨hT.2 _ g2 (by simp;omega) g1,YL g2 hT.1⟩)
  simp only [Yc,List.range'_succ,wpOpsIn,h0];exact this
def St.more (s:St) (k:Nat):St:=⟨s.w,s.Y,⟨s.G.nx+k,s.G.ent⟩,s.D⟩
theorem Z0z (k:Nat):Ev s (s.more k) where
 Y:=rfl
 size:=YA _
 keep:=λ_ _ _=>rfl
 live:=λid h _=>⟨id,h,rfl⟩
 blk:=λid el cells lv h=>⟨cells,lv,h,YA _,λ_=>⟨rfl,λcs e fr h=>⟨cs,fr,h,rfl⟩⟩⟩
 loop:=λid fn e n ps as_ bo st pend h=>⟨⟨st,pend,h⟩,rfl⟩
 map:=λid kv h=>⟨⟨kv,h⟩,rfl⟩
 os:=rfl
 tape:=rfl
 output:=rfl
theorem Z6g {s':St} (hev:Ev s s') (hw:s'.w.heap=s.w.heap) (hD:s'.D=s.D) {id:Nat} {en:Ent} (h:EntOK s id en):EntOK s' id en:=by
 cases en with
 | none=>trivial
 | blk el c lv'=>
  obtain ⟨cs,fr,q1,q2,q3,q4⟩:=h;exact ⟨cs,fr,by rw [hw,hD];exact q1,q2,q3,λj x hj=>by obtain ⟨u,u1,u2,u3⟩:=q4 j x hj;exact ⟨u,u1,hev.pvr u2,u3⟩⟩
 | loop fn e' n ps as_ bo st pend=>
  obtain ⟨fn2,tmps,defers,q1,q2,q3⟩:=h;exact ⟨fn2,tmps,defers,by rw [hw,hD];exact q1,q2,λt=>hev.pvr (q3 t)⟩
 | map kv=>show _=_;rw [hw,hD];exact h
theorem Z3s (hi:Inv s) (k:Nat):Inv (s.more k) :=
 ⟨λid=>Z6g (Z0z k) rfl rfl (hi.ent id),hi.inj,hi.notY,λid el c h=>((Z0z k).imm _ (hi.fz id el c h)).1,λid hn=>hi.nx id (by simp only [St.more] at hn;omega),hi.Ylt⟩
theorem region_ok {call:ZR} (hcall:Z1h X call) (htame:Z08 call) {rd:Option Nat} {id:Nat} {ops:Array Oper} {e':Env} {G':Heap} (hG:Zp X s) (hi:Inv s) (he:EnvR s n e a)
  (h:Z0a X call n ops s.G.nx 0 ops.toList e ⟨s.G.nx+ops.size,s.G.ent⟩=some (e',G')) (hQ:∀ a' w' D',Then s n a e' G' a' w' D'->Q .normal a' w') :
  (Code.region id ops false).wpIn (Fw rd) m X.P Q a s.w:=by
 refine wpIn_region ?_
 have:=runOps_ok (m:=m) (Q:=Q) (rd:=rd) hcall htame (ops:=ops) (base:=s.G.nx) ops.toList 0 (s.more ops.size) e a e' G' (hG.mono (Z0z _)) (Z3s hi _) (he.mono (Z0z _)) (by simp) (λk _ hk=>by
  simp only [Y0A,Ys] at hk;exact ⟨hi.nx _ (by omega),by simp only [St.more];omega⟩) h (λa' w' D' ht=>hQ a' w' D' ⟨ht.inv,(Z0z _).trans ht.ev,ht.env,ht.defers⟩)
 rw [List.range_eq_range']
 simpa [St.more] using this
end Go.Dn

namespace Go.Dn
open Go
variable {X:Ctx} {e e':Env} {n:Nat}
def sees (e e':Env) (xs:List Operand):Prop:=∀ t,.tmp t∈xs->e t=e' t
theorem ZV {x:Operand} (h:sees e e' [x]):Z1 X e x=Z1 X e' x:=by
 cases x with
 | tmp t=>simp only [Z1];rw [h t (by simp)]
 | _=>rfl
theorem Z0R:∀ {xs:List Operand},sees e e' xs->ZG X e xs=ZG X e' xs
 | [],_=>rfl
 | x::xs,h=>by
  simp only [ZG];rw [ZV (λt ht=>h t (by simp at ht ⊢;exact .inl ht)),Z0R (λt ht=>h t (by simp [ht]))]
theorem Z34:∀ {xs:List (Nat×Operand)},sees e e' (xs.map (·.2))->Z24 X e xs=Z24 X e' xs
 | [],_=>rfl
 | (i,x)::xs,h=>by
  simp only [Z24];rw [ZV (λt ht=>h t (by simp at ht ⊢;exact .inl ht)),Z34 (λt ht=>h t (by simp at ht ⊢;exact .inr ht))]
theorem optD_env {x:Option Operand} (h:sees e e' x.toList):optD X e x=optD X e' x:=by
 cases x with
 | none=>rfl
 | some x=>simp only [optD];rw [ZV (by simpa using h)]
theorem Zi {xs ys:List Operand} (h:sees e e' ys) (hs:∀ x∈xs,x∈ys):sees e e' xs:=λt ht=>h t (hs _ ht)
theorem sees1 {ys:List Operand} {x:Operand} (h:sees e e' ys) (hy:ys=[x]):Z1 X e x=Z1 X e' x :=
 ZV (by subst hy;exact h)
theorem sees2 {ys:List Operand} {x y:Operand} (h:sees e e' ys) (hy:ys=[x,y]):Z1 X e x=Z1 X e' x :=
 ZV (by subst hy;exact Zi h (by intro z hz;simp at hz;simp [hz]))
theorem sees22 {ys:List Operand} {x y:Operand} (h:sees e e' ys) (hy:ys=[x,y]):Z1 X e x=Z1 X e' x/\Z1 X e y=Z1 X e' y:=by
 subst hy
 exact ⟨ZV (Zi h (by intro z hz;simp at hz;simp [hz])),ZV (Zi h (by intro z hz;simp at hz;simp [hz]))⟩
theorem sees3 {ys:List Operand} {x y u:Operand} (h:sees e e' ys) (hy:ys=[x,y,u]):Z1 X e x=Z1 X e' x/\Z1 X e y=Z1 X e' y/\Z1 X e u=Z1 X e' u:=by
 subst hy
 exact ⟨ZV (Zi h (by intro z hz;simp at hz;simp [hz])),ZV (Zi h (by intro z hz;simp at hz;simp [hz])),ZV (Zi h (by intro z hz;simp at hz;simp [hz]))⟩
theorem Z0n {call:ZR} {G:Heap} {id:Nat} {op:Op} (h:sees e e' op.operands.toList):Z2 X call e G id op=Z2 X call e' G id op:=by
 cases op<;>simp only [Op.operands] at h<;>simp only [Z2]
 case build t ps=>
  have hp:sees e e' (ps.toList.map (·.2)):=by simpa using h
  simp only [Z5r,Z34 hp]
 case buildSlice t k ps=>
  have hp:sees e e' (ps.toList.map (·.2)):=by simpa using h
  simp only [Z0Q,Z34 hp]
 case makeFunc fn f c=>
  have h1:sees e e' f.toList:=Zi h (by intro x hx;simp at hx ⊢;exact .inl hx)
  have h2:sees e e' c.toList:=Zi h (by intro x hx;simp at hx ⊢;exact .inr hx)
  cases fn<;>simp only [Z0R h1,Z0R h2]
 case slice t x lo hi mx=>
  have h1:sees e e' [x]:=Zi h (by intro y hy;simp at hy ⊢;exact .inl hy)
  have h2:sees e e' lo.toList:=Zi h (by intro y hy;simp at hy ⊢;exact .inr (.inl hy))
  have h3:sees e e' hi.toList:=Zi h (by intro y hy;simp at hy ⊢;exact .inr (.inr (.inl hy)))
  have h4:sees e e' mx.toList:=Zi h (by intro y hy;simp at hy ⊢;exact .inr (.inr (.inr hy)))
  simp only [ZV h1,optD_env h2,optD_env h3,optD_env h4]
 case call c=>
  have h1:sees e e' c.args.toList:=Zi h (by intro y hy;simp only [Call.operands,Yg,Yb];exact .inr hy)
  simp only [ZM,Z0R h1];cases hc:c.callee with
  | value f=>
   have h2:sees e e' [f]:=Zi h (by intro y hy;simp only [Call.operands,hc,Yg,Yb];exact .inl hy)
   simp only [ZV h2]
  | _=>rfl
 all_goals first
  | rfl
  | (rw [sees1 h rfl];done)
  | (rw [sees2 h rfl];done)
  | (rw [(sees22 h rfl).1,(sees22 h rfl).2];done)
  | (rw [(sees3 h rfl).1,(sees3 h rfl).2.1,(sees3 h rfl).2.2];done)
theorem looks_sub {op:Op}:∀ x∈ZF op,x∈op.operands.toList:=by
 intro x hx
 cases op<;>simp only [ZF] at hx<;>(try (simp at hx;done))<;>simp only [Op.operands]
 case call c=>
  cases hc:c.callee<;>rw [hc] at hx<;>simp at hx;simp only [Call.operands,Yg,Yb];exact .inr (by simpa using hx)
 all_goals (simp at hx ⊢;simp [hx])
theorem touched_looks {op:Op} (hl:sees e e' (ZF op)):touched X e op=touched X e' op:=by
 have key:∀ (l:List Operand),sees e e' l->(l.flatMap λx=>match Z1 X e x with|some v=>vids v|none=>[])=(l.flatMap λx=>match Z1 X e' x with|some v=>vids v|none=>[]):=by
  intro l
  induction l with
  | nil=>intro _;rfl
  | cons x l ih=>
   intro h;simp only [YE];rw [ZV (X:=X) (Zi h (by intro y hy;simp at hy;simp [hy])),ih (Zi h (by intro y hy;simp [hy]))]
 exact key _ hl
theorem touched_env {op:Op} (h:sees e e' op.operands.toList):touched X e op=touched X e' op:=touched_looks (Zi h looks_sub)
def Stable (ops:Array Oper) (e e':Env):Prop:=∀ t,(ops.any λo=>o.dst==some t)=false->e t=e' t
theorem rootT_stable {ops:Array Oper} {t u:Nat} (h:rootT ops t=some u):(ops.any λo=>o.dst==some u)=false:=by
 unfold rootT at h
 split at h
 ·rename_i hn;cases h;rw [List.find?_eq_none] at hn;rw [Array.any_eq_false];intro i hi;exact hn _ (Array.getElem_mem_toList hi)
 ·split at h
  all_goals first
   | (cases h;done)
   | skip
  all_goals
   split at h
   ·cases h
   ·rename_i hh;cases h;simpa using hh
theorem Z42 {ops:Array Oper} {op:Op} (hs:Stable ops e e'):Z0y X ops e op=Z0y X ops e' op:=by
 unfold Z0y
 congr 1
 funext x
 cases x with
 | tmp t=>
  simp only;cases h:rootT ops t with
  | none=>rfl
  | some u=>simp only;rw [hs u (rootT_stable h)]
 | _=>rfl
theorem Z6G {ops:Array Oper} {op:Op} (h:stableOp ops op=true):Z0y X ops e op=touched X e op:=by
 unfold stableOp at h
 unfold Z0y touched
 have key:∀ (l:List Operand),(l.all λx=>match x with | .tmp t=>!(ops.any λo=>o.dst==some t)|_=>true)=true ->
   (l.flatMap λx=>match x with
    | .tmp t=>(match rootT ops t with|some u=>vids (e u)|none=>[])
    | x=>(match Z1 X e x with|some v=>vids v|none=>[])) =
   (l.flatMap λx=>match Z1 X e x with|some v=>vids v|none=>[]):=by
  intro l
  induction l with
  | nil=>intro _;rfl
  | cons x l ih=>
   intro h;simp only [Ye,Y8] at h;simp only [YE];rw [ih h.2]
   congr 1
   cases x with
   | tmp t=>
    have hn:ops.toList.find? (λo=>o.dst==some t)=none:=by
     rw [List.find?_eq_none];intro o ho;have h1:=h.1;simp only [YQ,Array.any_eq_false] at h1;obtain ⟨i,hi,rfl⟩:=List.mem_iff_getElem.1 ho;exact h1 i (by simpa using hi)
    simp only [rootT,hn,Z1]
   | _=>rfl
 exact key _ h
theorem freshAt_env {ops:Array Oper} {bef:Array Nat} {i k:Nat} (hs:Stable ops e e'):Z17 X e bef ops i k=Z17 X e' bef ops i k:=by
 unfold Z17
 congr 1
 funext j
 congr 1
 cases hj:ops[j]? with
 | none=>rfl
 | some o=>simp only [Z42 (X:=X) (op:=o.op) hs]
theorem frozen_env {op:Op} (h:sees e e' op.operands.toList):frozen X e op=frozen X e' op:=by
 cases op with
 | buildSlice t k ps=>
  have hp:sees e e' (ps.toList.map (·.2)):=by simpa [Op.operands] using h
  simp only [frozen,Z34 hp]
 | _=>rfl
theorem Z0p {ops:Array Oper} {base i:Nat} {o:Oper} (hst:Stable ops e e') (h:sees e e' o.op.operands.toList):ZK X ops base i o e=ZK X ops base i o e':=by
 unfold ZK
 congr 1
 unfold ZO
 rw [touched_env h,frozen_env h]
 have hfr:∀ k,Z17 X e (Region.before ops) ops i k=Z17 X e' (Region.before ops) ops i k:=λk=>freshAt_env hst
 have hri:Z0y X ops e o.op=Z0y X ops e' o.op:=Z42 hst
 simp only [hfr,hri]
 cases hop:o.op with
 | slice t x lo hi mx=>
  rw [hop] at h;have h1:sees e e' [x]:=Zi h (by intro y hy;simp [Op.operands] at hy ⊢;exact .inl hy)
  simp only [ZV h1]
 | call c=>
  rw [hop] at h;have h1:sees e e' c.args.toList:=Zi h (by intro y hy;simp only [Op.operands,Call.operands,Yg,Yb];exact .inr hy)
  have hk:∀ args,Z3G X e args c.callee=Z3G X e' args c.callee:=λargs=>by
   cases hc:c.callee with
   | value f=>
    have h2:sees e e' [f]:=Zi h (by intro y hy;simp only [Op.operands,Call.operands,hc,Yg,Yb];exact .inl hy)
    simp only [Z3G,ZV h2]
   | _=>rfl
  simp only [Z0R h1,hk]
 | _=>rfl
theorem Z3u {ops:Array Oper} {base i:Nat} {o:Oper} (h:sees e e' o.op.operands.toList):Z2V X ops base i e o.op=Z2V X ops base i e' o.op:=by
 unfold Z2V
 cases hop:o.op with
 | call c=>
  rw [hop] at h;simp only;cases hc:c.callee with
  | value f=>
   have h1:sees e e' c.args.toList:=Zi h (by intro y hy;simp only [Op.operands,Call.operands,hc,Yg,Yb];exact .inr hy)
   have h2:sees e e' [f]:=Zi h (by intro y hy;simp only [Op.operands,Call.operands,hc,Yg,Yb];exact .inl hy)
   simp only [ZV h2,Z0R h1]
  | _=>rfl
 | _=>rfl
theorem Z3P {ops:Array Oper} {i:Nat} {o:Oper} (h:sees e e' o.op.operands.toList):Z1V X ops i e o.op=Z1V X ops i e' o.op:=by
 unfold Z1V
 cases hop:o.op with
 | call c=>
  rw [hop] at h;simp only;cases hc:c.callee with
  | value f=>
   have h1:sees e e' c.args.toList:=Zi h (by intro y hy;simp only [Op.operands,Call.operands,hc,Yg,Yb];exact .inr hy)
   have h2:sees e e' [f]:=Zi h (by intro y hy;simp only [Op.operands,Call.operands,hc,Yg,Yb];exact .inl hy)
   simp only [ZV h2,Z0R h1]
  | _=>rfl
 | _=>rfl
theorem still_env {call:ZR} {ops:Array Oper} {base i:Nat} {o:Oper} {G:Heap} (h:sees e e' o.op.operands.toList):Z1o X call ops base i o e G↔Z1o X call ops base i o e' G:=by
 have hs:=Z3u (X:=X) (ops:=ops) (base:=base) (i:=i) h
 have hs2:=Z3P (X:=X) (ops:=ops) (i:=i) h
 unfold Z1o
 simp only [Z0n (X:=X) (call:=call) h,hs,hs2]
def appl (G:Heap) (δ:List (Nat×Ent)):Heap:=δ.foldl (λG p=>G.put p.1 p.2) G
theorem ZI (G:Heap):appl G []=G:=rfl
theorem ZJ (G:Heap) (k:Nat) (en:Ent):appl G [(k,en)]=G.put k en:=rfl
def Agree (G G2:Heap) (l:List Nat):Prop:=∀ k∈l,G2.ent k=G.ent k
theorem Z1c {G G2:Heap} {id k:Nat} (h:G2.ent id=G.ent id):G2.cur id k=G.cur id k:=by simp only [Heap.cur,h]
theorem loadD_agree {P:Program} {G G2:Heap} {t:TypeId} {p:PV} (h:Agree G G2 (vids p)):Z0l P G2 t p=Z0l P G t p:=by
 cases p with
 | ptr id ver off=>simp only [Z0l];rw [h id (by simp [vids])]
 | _=>rfl
theorem lenD_agree {P:Program} {G G2:Heap} {t:TypeId} {p:PV} (h:Agree G G2 (vids p)):lenD P G2 t p=lenD P G t p:=by
 cases p with
 | buf id len sz=>simp only [lenD];rw [Z1c (h id (by simp [vids]))]
 | v x=>cases x<;>rfl
 | _=>rfl
theorem Z5W {P:Program} {G G2:Heap} {t:TypeId} {p i:PV} (h:Agree G G2 (vids p)):Z01 P G2 t p i=Z01 P G t p i:=by
 cases p with
 | buf id len sz=>simp only [Z01];rw [Z1c (h id (by simp [vids]))]
 | ptr id ver off=>simp only [Z01];rw [Z1c (h id (by simp [vids]))]
 | v x=>cases x<;>rfl
 | _=>rfl
theorem Z5Y {P:Program} {G G2:Heap} {t:TypeId} {p:PV} {f:Nat} (h:Agree G G2 (vids p)):Z0C P G2 t p f=Z0C P G t p f:=by
 cases p with
 | ptr id ver off=>simp only [Z0C];rw [Z1c (h id (by simp [vids]))]
 | _=>rfl
theorem isNil_agree {G G2:Heap} {p:PV} (h:Agree G G2 (vids p)):Z3n G2 p=Z3n G p:=by
 cases p with
 | buf id len sz=>simp only [Z3n];rw [Z1c (h id (by simp [vids]))]
 | v x=>
  cases x with
  | sl xs=>cases xs<;>rfl
  | _=>rfl
 | _=>rfl
theorem isNilP_agree {G G2:Heap} {p:PV} (h:Agree G G2 (vids p)):Z2h G2 p=Z2h G p:=by
 cases p with
 | ptr id ver off=>simp only [Z2h];rw [Z1c (h id (by simp [vids]))]
 | v x=>cases x<;>rfl
 | _=>rfl
theorem binD_agree {P:Program} {G G2:Heap} {op:BinOp} {t:TypeId} {x y:PV} (h:Agree G G2 (vids x)):binD P G2 op t x y=binD P G op t x y:=by
 have hn:=isNil_agree h
 have hn2:=isNilP_agree h
 unfold binD
 split<;>(try rfl)
 ·rw [hn]
 ·rw [hn2]
theorem binD_pure {P:Program} {G G2:Heap} {op:BinOp} {t:TypeId} {x y:PV} (h1:op ≠ .eql) (h2:op ≠ .neq):binD P G2 op t x y=binD P G op t x y:=by
 unfold binD
 split<;>(try rfl)
 ·cases op<;>simp_all
 ·cases op<;>simp_all
theorem storeD_agree {P:Program} {G:Heap} {t:TypeId} {x p:PV} {G':Heap} (hs:Z18 P G t x p=some G') :
  ∃ k en,G'=G.put k en/\k∈vids p/\∀ G2,Agree G G2 (vids p)->Z18 P G2 t x p=some (G2.put k en):=by
 cases p<;>simp only [Z18] at hs<;>(try (cases hs;done))
 rename_i id ver off
 split at hs
 ·rename_i e cells hen
  split at hs
  ·rename_i hv
   split at hs
   ·rename_i n cs hn hcs
    split at hs
    ·rename_i hc;cases hs;refine ⟨id,_,rfl,by simp [vids],λG2 h=>?_⟩
     simp only [Z18];rw [h id (by simp [vids]),hen]
     simp only;rw [if_pos hv,hn,hcs];simp only;rw [if_pos hc]
    ·cases hs
   ·cases hs
  ·cases hs
 ·cases hs
theorem Z3O {G G2:Heap} {sz:Nat} {p:PV} (h:Agree G G2 (vids p)):Z1S G2 sz p=Z1S G sz p:=by
 cases p with
 | buf id len s=>simp only [Z1S];rw [h id (by simp [vids])]
 | view id tot l n s=>simp only [Z1S];rw [h id (by simp [vids])]
 | v x=>cases x<;>rfl
 | _=>rfl
theorem appendD_agree {P:Program} {G:Heap} {id0:Nat} {t:TypeId} {x y z:PV} {G':Heap} (hs:Z0L P G id0 t x y=some (z,G')) :
  ∃ δ,G'=appl G δ/\(∀ k en,(k,en)∈δ->k=id0\/k∈vids x) /\
   ∀ G2,Agree G G2 (vids x)->Agree G G2 (vids y)->Z0L P G2 id0 t x y=some (z,appl G2 δ):=by
 unfold Z0L at hs
 split at hs
 ·cases hs
 ·rename_i el hel
  split at hs
  ·rename_i sz by_ hsz hby
   split at hs
   ·cases hs
   ·rename_i ys m hbr
    split at hs
    ·cases hs
    ·rename_i hz;have red:∀ G2,Agree G G2 (vids y)->Z1S G2 sz y=some (ys,m):=λG2 h=>(Z3O h).trans hbr
     split at hs
     ·split at hs
      ·rename_i hm;cases hs;exact ⟨[],rfl,by simp,λG2 _ hy=>by simp only [Z0L,hel,hsz,hby,red G2 hy,if_neg hz,if_pos hm,ZI,ZJ]⟩
      ·rename_i hm
       split at hs
       ·rename_i hr;cases hs;exact ⟨[(id0,_)],rfl,by intro k en h;rw [YZ] at h;cases h;exact .inl rfl,λG2 _ hy=>by simp only [Z0L,hel,hsz,hby,red G2 hy,if_neg hz,if_neg hm,if_pos hr,ZI,ZJ]⟩
       ·cases hs
     ·split at hs
      ·cases hs
      ·rename_i hm
       split at hs
       ·rename_i hr;cases hs;exact ⟨[(id0,_)],rfl,by intro k en h;rw [YZ] at h;cases h;exact .inl rfl,λG2 _ hy=>by simp only [Z0L,hel,hsz,hby,red G2 hy,if_neg hz,if_neg hm,if_pos hr,ZI,ZJ]⟩
       ·cases hs
     ·rename_i id len s
      split at hs
      ·rename_i e' cells hen
       split at hs
       ·rename_i hr;cases hs;exact ⟨[(id,_)],rfl,by intro k en h;rw [YZ] at h;cases h;exact .inr (by simp [vids]),λG2 hx hy=>by
         have hid:=hx id (by simp [vids])
         simp only [Z0L,hel,hsz,hby,red G2 hy,if_neg hz,hid,hen,if_pos hr,ZI,ZJ]⟩
       ·cases hs
      ·cases hs
     ·cases hs
  ·cases hs
theorem copyD_agree {P:Program} {G:Heap} {t:TypeId} {x y z:PV} {G':Heap} (hs:Z3q P G t x y=some (z,G')) :
  ∃ δ,G'=appl G δ/\(∀ k en,(k,en)∈δ->k∈vids x) /\
   ∀ G2,Agree G G2 (vids x)->Agree G G2 (vids y)->Z3q P G2 t x y=some (z,appl G2 δ):=by
 unfold Z3q at hs
 split at hs
 ·cases hs
 ·rename_i el hel
  split at hs
  ·cases hs
  ·rename_i sz hsz
   split at hs
   ·rename_i ys m id len s hbr
    split at hs
    ·rename_i e' cells hen
     split at hs
     ·rename_i hr;cases hs;exact ⟨[(id,_)],rfl,by intro k en h;rw [YZ] at h;cases h;simp [vids],λG2 hx hy=>by
       have hid:=hx id (by simp [vids])
       have hb:=(Z3O (sz:=sz) hy).trans hbr;simp only [Z3q,hel,hsz,hb,hid,hen,if_pos hr,ZI,ZJ]⟩
     ·cases hs
    ·cases hs
   ·rename_i ys m id tot l len s hbr
    split at hs
    ·rename_i e' cells hen
     split at hs
     ·rename_i hr;cases hs;exact ⟨[(id,_)],rfl,by intro k en h;rw [YZ] at h;cases h;simp [vids],λG2 hx hy=>by
       have hid:=hx id (by simp [vids])
       have hb:=(Z3O (sz:=sz) hy).trans hbr;simp only [Z3q,hel,hsz,hb,hid,hen,if_pos hr,ZI,ZJ]⟩
     ·cases hs
    ·cases hs
   ·cases hs
structure CallPure (X:Ctx) (call:ZR):Prop where
 calm:∀ f args G r G',call (.fn f) args G=some (r,G')->args.all PV.calm=true->X.opn f=false->X.keep f=false->G'=G/\∀ G2,call (.fn f) args G2=some (r,G2)
 shut:∀ f args G r G',call (.fn f) args G=some (r,G')->X.shut f=true->X.keep f=true->X.opn f=false->args.all PV.pure=false->G'=G/\∀ G2,G2.nx=G.nx->(∀ k∈args.flatMap vids,G2.ent k=G.ent k)->call (.fn f) args G2=some (r,G2)
 fresh:∀ f args G r G',call (.fn f) args G=some (r,G')->X.fresh f=true->X.opn f=true->X.keep f=false->args.all PV.pure=true->∃ ρ,G'=G.join ρ/\(∀ k,k<G.nx->ρ.ent k = .none)/\G.nx<=ρ.nx/\∀ G2,G2.nx=G.nx->call (.fn f) args G2=some (r,G2.join ρ)
theorem Z0w {G G2:Heap} {op:Op} {x:Operand} {p:PV} (h:∀ k∈touched X e op,G2.ent k=G.ent k) (hx:x∈ZF op) (hp:Z1 X e x=some p):Agree G G2 (vids p):=λk hk=>
 h k (by
  unfold touched;rw [List.mem_flatMap];exact ⟨x,hx,by rw [hp];exact hk⟩)
theorem Z2T {op:Op} {x:Operand} {p:PV} {k:Nat} (hx:x∈ZF op) (hp:Z1 X e x=some p) (hk:k∈vids p):k∈touched X e op:=by
 unfold touched
 rw [List.mem_flatMap]
 exact ⟨x,hx,by rw [hp];exact hk⟩
theorem Z2e:∀ {xs:List Operand} {ys:List PV},ZG X e xs=some ys->∀ {i:Nat} {y:PV},ys[i]? = some y->∃ x∈xs,Z1 X e x=some y
 | [],ys,h,i,y,hi=>by simp [ZG] at h;subst h;simp at hi
 | x::xs,ys,h,i,y,hi=>by
  simp only [ZG,Y2,Y5] at h;obtain ⟨z,hz,zs,hzs,rfl⟩:=h
  cases i with
  | zero=>simp at hi;subst hi;exact ⟨x,by simp,hz⟩
  | succ i=>
   obtain ⟨x',h1,h2⟩:=Z2e hzs (by simpa using hi)
   exact ⟨x',by simp [h1],h2⟩
theorem Z2N (G:Heap) (δ δ':List (Nat×Ent)):appl G (δ++δ')=appl (appl G δ) δ':=by simp [appl]
theorem Z6i:∀ (δ:List (Nat×Ent)) {G G2:Heap} {k:Nat},G2.ent k=G.ent k->(appl G2 δ).ent k=(appl G δ).ent k
 | [],_,_,_,h=>h
 | (j,en)::δ,G,G2,k,h=>by
  show (appl (G2.put j en) δ).ent k=(appl (G.put j en) δ).ent k;refine Z6i δ ?_;simp only [Heap.put,upd]
  split
  ·rfl
  ·exact h
def Frz {β:Type} (F:Heap->Option (β×Heap)) (G:Heap) (ids:List Nat) (y:β) (G':Heap):Prop :=
 ∃ δ,G'=appl G δ/\(∀ k en,(k,en)∈δ->k∈ids)/\∀ G2,(∀ k∈ids,G2.ent k=G.ent k)->F G2=some (y,appl G2 δ)
theorem Frz.refl {β:Type} {F:Heap->Option (β×Heap)} {G:Heap} {ids:List Nat} {y:β} (h:∀ G2,F G2=some (y,G2)):Frz F G ids y G:=⟨[],rfl,by simp,λG2 _=>h G2⟩
theorem Z5x {G G':Heap} {x y:PV} (h:Z28 G x=some (y,G')):Frz (λG=>Z28 G x) G (bufId x) y G':=by
 cases x<;>simp only [Z28] at h<;>(try (cases h;done))
 ·cases h;exact Frz.refl λ_=>rfl
 ·cases h;exact Frz.refl λ_=>rfl
 ·cases h;exact Frz.refl λ_=>rfl
 ·rename_i id len sz
  split at h
  ·rename_i el cells lv hb
   split at h
   ·rename_i hc;rw [Y0] at h;obtain ⟨fs,hfs,h⟩:=h;cases h;refine ⟨[(id,.blk el cells false)],rfl,by simp [bufId],λG2 hA=>?_⟩
    have:=hA id (by simp [bufId])
    simp only [Z28,this,hb,if_pos hc,hfs,Y9]
    rfl
   ·cases h
  ·cases h
theorem Frz.then {β γ ζ:Type} {F:Heap->Option (β×Heap)} {Gg:Heap->Option (γ×Heap)} {f:β->γ->ζ} {G G1 G2:Heap} {ids ids':List Nat} {y:β} {z:γ} (h:Frz F G ids y G1) (h':Frz Gg G1 ids' z G2) :
  Frz (λG=>(F G).bind λr=>(Gg r.2).bind λq=>some (f r.1 q.1,q.2)) G (ids++ids') (f y z) G2:=by
 obtain ⟨δ,rfl,k1,l1⟩:=h
 obtain ⟨δ',rfl,k2,l2⟩:=h'
 refine ⟨δ++δ',(Z2N _ _ _).symm,λk en hk=>?_,λG3 hA=>?_⟩
 ·rcases List.mem_append.1 hk with h|h
  ·exact Y00 _ (k1 k en h)
  ·exact Yx _ (k2 k en h)
 ·have e1:=l1 G3 λk hk=>hA k (Y00 _ hk);have e2:=l2 (appl G3 δ) λk hk=>Z6i δ (hA k (Yx _ hk));simp only [e1,e2,Y1,Z2N]
theorem Frz.sub {β:Type} {F:Heap->Option (β×Heap)} {G G':Heap} {ids ids':List Nat} {y:β} (h:Frz F G ids y G') (hs:∀ k∈ids,k∈ids'):Frz F G ids' y G':=by
 obtain ⟨δ,e,k1,l1⟩:=h
 exact ⟨δ,e,λk en hk=>hs k (k1 k en hk),λG2 hA=>l1 G2 λk hk=>hA k (hs k hk)⟩
theorem Frz.map {β γ:Type} {F:Heap->Option (β×Heap)} {f:β->γ} {G G':Heap} {ids:List Nat} {y:β} (h:Frz F G ids y G'):Frz (λG=>(F G).bind λr=>some (f r.1,r.2)) G ids (f y) G':=by
 obtain ⟨δ,e,k1,l1⟩:=h
 exact ⟨δ,e,k1,λG2 hA=>by simp only [l1 G2 hA,Y1]⟩
theorem Z5A:∀ {xs ys:List PV} {G G':Heap},Z1Q G xs=some (ys,G')->Frz (λG=>Z1Q G xs) G (xs.flatMap bufId) ys G'
 | [],ys,G,G',h=>by
  simp only [Z1Q,Y5,Y4] at h;obtain ⟨rfl,rfl⟩:=h;exact Frz.refl λ_=>rfl
 | x::xs,ys,G,G',h=>by
  simp only [Z1Q,Y2,Y5,Y4] at h;obtain ⟨⟨y,G1⟩,h1,⟨zs,G2⟩,h2,rfl,rfl⟩:=h;exact (Z5x h1).then (f:=List.cons) (Z5A h2)
theorem frzVal_loc {G G':Heap} {x y:PV} (h:Z2f G x=some (y,G')):Frz (λG=>Z2f G x) G (Z2d x) y G':=by
 cases x with
 | agg cs=>
  simp only [Z2f,Y2,Y5,Y4] at h;obtain ⟨⟨ys,G1⟩,h1,rfl,rfl⟩:=h;have:=(Z5A h1).map (f:=PV.agg)
  simpa only [Z2f,Z2d] using this
 | _=>
  simp only [Z2f] at h ⊢;exact Z5x h
theorem Z3H:∀ {ps qs:List (Nat×PV)} {G G':Heap},Z09 G ps=some (qs,G')->Frz (λG=>Z09 G ps) G (ps.flatMap λp=>Z2d p.2) qs G'
 | [],qs,G,G',h=>by
  simp only [Z09,Y5,Y4] at h;obtain ⟨rfl,rfl⟩:=h;exact Frz.refl λ_=>rfl
 | p::ps,qs,G,G',h=>by
  simp only [Z09] at h
  split at h
  ·rename_i hn;simp only [Y2,Y5,Y4] at h;obtain ⟨⟨y,G1⟩,e1,⟨q,G2⟩,e2,rfl,rfl⟩:=h;have:=(frzVal_loc e1).then (f:=λy q=>(p.1,y)::q) (Z3H e2)
   simpa only [Z09,hn,if_true,YE] using this
  ·rename_i hn;simp only [Y2,Y5,Y4] at h;obtain ⟨⟨q,G2⟩,e2,rfl,rfl⟩:=h;have:=((Z3H e2).map (f:=λq=>p::q)).sub (ids':=(p::ps).flatMap λp=>Z2d p.2) λk hk=>by
    rw [YE];exact Yx _ hk
   simpa only [Z09,hn,YB,if_false] using this
theorem frzPs_loc {b:Bool} {ps qs:List (Nat×PV)} {G G':Heap} (h:frzPs b G ps=some (qs,G')):Frz (λG=>frzPs b G ps) G (bif b then [] else ps.flatMap λp=>Z2d p.2) qs G':=by
 cases b with
 | false=>exact Z3H h
 | true=>
  simp only [frzPs,Y5,Y4] at h;obtain ⟨rfl,rfl⟩:=h;exact Frz.refl λ_=>rfl
theorem stepOp_local {call:ZR} (hcp:CallPure X call) {ops:Array Oper} {base i:Nat} {o:Oper} {G:Heap} {id:Nat} {x:PV} {G':Heap} (hask:ZO X ops base i o e=true) (h:Z2 X call e G id o.op=some (x,G')) :
  ∃ δ,G'=appl G δ/\(∀ k en,(k,en)∈δ->k=id\/(isW o.op=true/\k∈touched X e o.op)\/k∈frozen X e o.op) /\
   ∀ G2,(isRW o.op=true->∀ k∈touched X e o.op,G2.ent k=G.ent k)->(∀ k∈frozen X e o.op,G2.ent k=G.ent k)->Z2 X call e G2 id o.op=some (x,appl G2 δ):=by
 unfold ZO at hask
 cases hop:o.op<;>rw [hop] at h hask<;>simp only [Z2] at h<;>(try (cases h;done))
 case move y=>
  simp only [Y0,Y4] at h;obtain ⟨z,hz,rfl,rfl⟩:=h;exact ⟨[],rfl,by simp,λG2 _ _=>by simp [Z2,hz,ZI,ZJ]⟩
 case assign y=>
  simp only [Y0,Y4] at h;obtain ⟨z,hz,rfl,rfl⟩:=h;exact ⟨[],rfl,by simp,λG2 _ _=>by simp [Z2,hz,ZI,ZJ]⟩
 case pick c y z=>
  split at h
  ·rename_i hc;simp only [Y0,Y4] at h;obtain ⟨q,hq,rfl,rfl⟩:=h;exact ⟨[],rfl,by simp,λG2 _ _=>by simp [Z2,hc,hq,ZI,ZJ]⟩
  ·rename_i hc;simp only [Y0,Y4] at h;obtain ⟨q,hq,rfl,rfl⟩:=h;exact ⟨[],rfl,by simp,λG2 _ _=>by simp [Z2,hc,hq,ZI,ZJ]⟩
  ·cases h
 case alloc t=>
  simp only [Y0,newD,Y4] at h;obtain ⟨z,hz,rfl,rfl⟩:=h;exact ⟨[(id,_)],rfl,by intro k en h;rw [YZ] at h;cases h;exact .inl rfl,λG2 _ _=>by simp [Z2,hz,ZI,ZJ,newD]⟩
 case box t y=>
  simp only [Y0,newD,Y4] at h;obtain ⟨z,hz,rfl,rfl⟩:=h;exact ⟨[(id,_)],rfl,by intro k en h;rw [YZ] at h;cases h;exact .inl rfl,λG2 _ _=>by simp [Z2,hz,ZI,ZJ,newD]⟩
 case build t ps=>
  simp only [Y0,Y4] at h;obtain ⟨z,hz,rfl,rfl⟩:=h;exact ⟨[],rfl,by simp,λG2 _ _=>by simp [Z2,hz,ZI,ZJ]⟩
 case buildSlice t len ps=>
  unfold Z0Q at h;simp only [Y2] at h;obtain ⟨qs,h2,⟨qs',G1⟩,hq,h⟩:=h;have hfz:frozen X e (.buildSlice t len ps)=(bif X.hold t ps.toList then [] else qs.flatMap λp=>Z2d p.2):=by
   simp only [frozen,h2];cases X.hold t ps.toList<;>rfl
  obtain ⟨δ,rfl,hk,hl⟩:=frzPs_loc hq;unfold Z0q at h
  split at h
  ·rename_i el h1
   split at h
   ·rename_i sz z h3 h4
    split at h
    ·rename_i hc;simp only [Y0,Y4] at h;obtain ⟨cs,hcs,rfl,rfl⟩:=h;refine ⟨δ++[(id,_)],by rw [Z2N];rfl,λk en hm=>?_,λG2 _ hF=>?_⟩
     ·rcases List.mem_append.1 hm with hm|hm
      ·exact .inr (.inr (hfz▸hk k en hm))
      ·rw [YZ] at hm;cases hm;exact .inl rfl
     ·have hq2:=hl G2 (hfz▸hF);simp only [Z2,Z0Q,Z0q,h1,h2,h3,h4,if_pos hc,hcs,Y9,Y1,hq2,Z2N]
      rfl
    ·cases h
   ·cases h
  ·cases h
 case load t y=>
  simp only [Y0,Y2,Y4] at h;obtain ⟨z,⟨p,hp,hz⟩,rfl,rfl⟩:=h;refine ⟨[],rfl,by simp,λG2 hA _=>?_⟩
  have:=loadD_agree (P:=X.P) (t:=t) (Z0w (hA rfl) (by simp [ZF]) hp)
  simp [Z2,hp,this,hz,ZI,ZJ]
 case store t y z=>
  split at h
  ·rename_i p q hp hq;simp only [Y0,Y4] at h;obtain ⟨G1,hs,rfl,rfl⟩:=h;obtain ⟨k,en,rfl,hk,h2⟩:=storeD_agree hs;refine ⟨[(k,en)],rfl,by intro k' en' h;rw [YZ] at h;cases h;exact .inr (.inl ⟨rfl,Z2T (by simp [ZF]) hp hk⟩),λG2 hA _=>?_⟩
   simp [Z2,hp,hq,h2 G2 (Z0w (hA rfl) (by simp [ZF]) hp),ZI,ZJ]
  ·cases h
 case nilCheck y=>
  split at h
  ·rename_i id' ver off hy
   split at h
   ·rename_i hc;cases h;refine ⟨[],rfl,by simp,λG2 hA _=>?_⟩
    have:=Z1c (k:=ver) ((Z0w (hA rfl) (by simp [ZF]) hy) id' (by simp [vids]))
    simp [Z2,hy,this,hc,ZI,ZJ]
   ·cases h
  all_goals first
   | (rename_i hy;cases h;exact ⟨[],rfl,by simp,λG2 _ _=>by simp [Z2,hy,ZI,ZJ]⟩)
   | (cases h;done)
 case binOp op t y z ty=>
  split at h
  ·rename_i p q hp hq;simp only [Y0,Y4] at h;obtain ⟨r,hr,rfl,rfl⟩:=h;refine ⟨[],rfl,by simp,λG2 hA _=>?_⟩
   have:binD X.P G2 op t p q=binD X.P G op t p q:=by
    by_cases hk:op = .eql\/op = .neq
    ·have hrw:isRW (.binOp op t y z ty)=true:=by rcases hk with rfl|rfl<;>rfl
     exact binD_agree (Z0w (hA hrw) (by simp [ZF]) hp)
    ·exact binD_pure (λh=>hk (.inl h)) (λh=>hk (.inr h))
   simp [Z2,hp,hq,this,hr,ZI,ZJ]
  ·cases h
 case unOp op t y=>
  simp only [Y0,Y4] at h;obtain ⟨z,hz,rfl,rfl⟩:=h;exact ⟨[],rfl,by simp,λG2 _ _=>by simp [Z2,hz,ZI,ZJ]⟩
 case convert a b y=>
  simp only [Y0,Y4] at h;obtain ⟨z,hz,rfl,rfl⟩:=h;exact ⟨[],rfl,by simp,λG2 _ _=>by simp [Z2,hz,ZI,ZJ]⟩
 case makeFunc fn f c=>
  cases fn with
  | func g=>
   simp only at h
   split at h
   ·rename_i h1 h2;cases h;exact ⟨[],rfl,by simp,λG2 _ _=>by simp [Z2,h1,h2,ZI,ZJ]⟩
   ·rename_i h1 h2 hne;cases h;refine ⟨[],rfl,by simp,λG2 _ _=>?_⟩
    simp only [Z2,h1,h2,ZI,ZJ]
    split
    ·simp_all
    ·simp_all
    ·simp_all
   ·cases h
  | _=>simp at h
 case makeSlice t y z=>
  split at h
  ·rename_i p q hp hq;unfold makeD at h
   split at h
   ·rename_i el l c h1
    split at h
    ·rename_i sz by_ zl h2 h3 h4
     split at h
     ·rename_i hc;cases h;refine ⟨[(id,_)],rfl,by intro k en h;rw [YZ] at h;cases h;exact .inl rfl,λG2 _ _=>?_⟩
      simp only [Z2,hp,hq,makeD,h1,h2,h3,h4,if_pos hc,ZI,ZJ]
     ·cases h
    ·cases h
   ·cases h
  ·cases h
 case slice t y lo hi mx=>
  simp only [Zh] at hask
  split at h
  ·rename_i h1 h2 h3 h4;simp only [h1] at hask;rw [if_pos hask] at h;simp only [Y0,Y4] at h;obtain ⟨r,hr,rfl,rfl⟩:=h;refine ⟨[],rfl,by simp,λG2 _ _=>?_⟩
   simp only [Z2,h1,h2,h3,h4,if_pos hask,ZI,ZJ,hr,Y9]
  ·rename_i p q1 q2 q3 hnb h1 h2 h3 h4;simp only [Y0,Y4] at h;obtain ⟨r,hr,rfl,rfl⟩:=h;refine ⟨[],rfl,by simp,λG2 _ _=>?_⟩
   simp only [Z2,h1,h2,h3,h4,ZI,ZJ,hr,Y9]
  ·cases h
 case fieldAddr t y f=>
  simp only [Y0,Y2,Y4] at h;obtain ⟨z,⟨p,hp,hz⟩,rfl,rfl⟩:=h;refine ⟨[],rfl,by simp,λG2 hA _=>?_⟩
  have:=Z5Y (P:=X.P) (t:=t) (f:=f) (Z0w (hA rfl) (by simp [ZF]) hp)
  simp [Z2,hp,this,hz,ZI,ZJ]
 case field t y f=>
  simp only [Y0,Y4] at h;obtain ⟨z,hz,rfl,rfl⟩:=h;exact ⟨[],rfl,by simp,λG2 _ _=>by simp [Z2,hz,ZI,ZJ]⟩
 case indexAddr t y z=>
  split at h
  ·rename_i p q hp hq;simp only [Y0,Y4] at h;obtain ⟨r,hr,rfl,rfl⟩:=h;refine ⟨[],rfl,by simp,λG2 hA _=>?_⟩
   have:=Z5W (P:=X.P) (t:=t) (i:=q) (Z0w (hA rfl) (by simp [ZF]) hp)
   simp [Z2,hp,hq,this,hr,ZI,ZJ]
  ·cases h
 case index t y z=>
  split at h
  ·rename_i p q hp hq;simp only [Y0,Y4] at h;obtain ⟨r,hr,rfl,rfl⟩:=h;exact ⟨[],rfl,by simp,λG2 _ _=>by simp [Z2,hp,hq,hr,ZI,ZJ]⟩
  ·cases h
 case extract y k=>
  split at h
  ·rename_i xs hy;simp only [Y0,Y4] at h;obtain ⟨r,hr,rfl,rfl⟩:=h;exact ⟨[],rfl,by simp,λG2 _ _=>by simp [Z2,hy,hr,ZI,ZJ]⟩
  ·cases h
 case call c=>
  unfold ZM at h
  split at h
  ·cases h
  ·rename_i args hargs
   split at h
   ·rename_i b hc;have hlk:ZF (.call c)=c.args.toList:=by simp [ZF,hc]
    have memA:∀ {j:Nat} {y:PV},args[j]? = some y->∃ w∈ZF (.call c),Z1 X e w=some y:=λhj=>by
     obtain ⟨w,h1,h2⟩:=Z2e hargs hj;exact ⟨w,by rw [hlk];exact h1,h2⟩
    have red:∀ G2,Z2 X call e G2 id (.call c)=Zg X.P G2 id b c.argTypes.toList args:=λG2=>by simp only [Z2,ZM,hargs,hc]
    unfold Zg at h
    split at h
    ·rename_i t y hts;simp only [Y0,Y4] at h;obtain ⟨r,hr,rfl,rfl⟩:=h;refine ⟨[],rfl,by simp,λG2 hA _=>?_⟩
     obtain ⟨w,w1,w2⟩:=memA (j:=0) (y:=y) (by simp)
     have hrw:isRW (.call c)=true:=by simp [isRW,Zh,hc]
     rw [red,hts];have:=lenD_agree (P:=X.P) (t:=t) (Z0w (hA hrw) w1 w2);simp [Zg,this,hr,ZI,ZJ]
    ·rename_i t t' y z hts
     split at h
     ·rename_i ht;have hrw:isRW (.call c)=true:=by simp [isRW,Zh,hc]
      have hw:isW (.call c)=true:=by simp [isW,Zh,hc]
      obtain ⟨wy,y1,y2⟩:=memA (j:=0) (y:=y) (by simp)
      obtain ⟨wz,z1,z2⟩:=memA (j:=1) (y:=z) (by simp)
      obtain ⟨δ,d1,d2,d3⟩:=appendD_agree h;refine ⟨δ,d1,λk en hk=>(d2 k en hk).imp (λh=>h) λhm=>.inl ⟨hw,Z2T y1 y2 hm⟩,λG2 hA _=>?_⟩;rw [red,hts];simp only [Zg,ht,if_true];subst ht;exact d3 G2 (Z0w (hA hrw) y1 y2) (Z0w (hA hrw) z1 z2)
     ·cases h
    ·rename_i t t' y z hts;have hrw:isRW (.call c)=true:=by simp [isRW,Zh,hc]
     have hw:isW (.call c)=true:=by simp [isW,Zh,hc]
     obtain ⟨wy,y1,y2⟩:=memA (j:=0) (y:=y) (by simp)
     obtain ⟨wz,z1,z2⟩:=memA (j:=1) (y:=z) (by simp)
     obtain ⟨δ,d1,d2,d3⟩:=copyD_agree h;refine ⟨δ,d1,λk en hk=>.inr (.inl ⟨hw,Z2T y1 y2 (d2 k en hk)⟩),λG2 hA _=>?_⟩;rw [red,hts];simp only [Zg];exact d3 G2 (Z0w (hA hrw) y1 y2) (Z0w (hA hrw) z1 z2)
    ·simp only [Y0,Y4] at h;obtain ⟨r,hr,rfl,rfl⟩:=h;exact ⟨[],rfl,by simp,λG2 hA _=>by rw [red];simp [Zg,hr,ZI,ZJ]⟩
    ·simp only [Y0,Y4] at h;obtain ⟨r,hr,rfl,rfl⟩:=h;exact ⟨[],rfl,by simp,λG2 hA _=>by rw [red];simp [Zg,hr,ZI,ZJ]⟩
    ·cases h
   ·cases h
   ·rename_i f hc;simp only [Zh,hc,hargs,Z3G] at hask
    split at h
    ·rename_i g hf;simp only [hf,Y8,YQ] at hask;obtain ⟨rfl,h2⟩:=hcp.calm g args G x G' h hask.1.1 hask.1.2 hask.2;exact ⟨[],rfl,by simp,λG2 _ _=>by simp [Z2,ZM,hargs,hc,hf,h2,ZI,ZJ]⟩
    ·rename_i g fi ca hf;simp only [hf,Y8,YQ] at hask;obtain ⟨⟨⟨⟨q1,q2⟩,q3⟩,q4⟩,q5⟩:=hask;obtain ⟨rfl,h2⟩:=hcp.calm g _ G x G' h (by simp only [List.all_append,q1,q2,q3,Yi]) q4 q5
     exact ⟨[],rfl,by simp,λG2 _ _=>by
      have h3:=h2 G2;simp only [Yq] at h3;simp [Z2,ZM,hargs,hc,hf,h3,ZI,ZJ]⟩
    ·rename_i id' hf;simp [hf] at hask
    ·cases h
theorem Z6p {call:ZR} {G G':Heap} {id:Nat} {op:Op} {x:PV} (hq:quiet op=true) (h:Z2 X call e G id op=some (x,G')):G'=G:=by
 cases op<;>simp only [quiet,YB] at hq<;>simp only [Z2] at h
 case nilCheck y=>
  split at h
  ·split at h<;>cases h;rfl
  all_goals first
   | (cases h;rfl;done)
   | (cases h;done)
 case makeFunc fn f c=>
  cases fn<;>simp only [YB] at hq h
  split at h<;>cases h<;>rfl
 case call c=>
  unfold ZM at h
  split at h
  ·cases h
  ·split at h
   ·rename_i b hc;rw [hc] at hq;unfold Zg at h
    split at h
    ·simp only [Y0,Y4] at h;obtain ⟨_,_,_,rfl⟩:=h;rfl
    ·simp at hq
    ·simp at hq
    ·simp only [Y0,Y4] at h;obtain ⟨_,_,_,rfl⟩:=h;rfl
    ·simp only [Y0,Y4] at h;obtain ⟨_,_,_,rfl⟩:=h;rfl
    ·cases h
   ·cases h
   ·rename_i f hc;rw [hc] at hq;simp at hq
 all_goals first
  | (simp only [Y0,Y4] at h;obtain ⟨_,_,_,rfl⟩:=h;rfl;done)
  | (split at h<;>first
    | (simp only [Y0,Y4] at h;obtain ⟨_,_,_,rfl⟩:=h;rfl)
    | (cases h;done))
theorem Alike.refl (a:Ent):Alike a a:=.inl rfl
theorem Alike.symm {a b:Ent} (h:Alike a b):Alike b a:=by
 rcases h with rfl|⟨el,c,l,l',rfl,rfl⟩
 ·exact .inl rfl
 ·exact .inr ⟨el,c,l',l,rfl,rfl⟩
theorem Alike.trans {a b c:Ent} (h:Alike a b) (h':Alike b c):Alike a c:=by
 rcases h with rfl|⟨el,cs,l,l',rfl,rfl⟩
 ·exact h'
 ·rcases h' with rfl|⟨el2,cs2,m,m',h1,rfl⟩
  ·exact .inr ⟨el,cs,l,l',rfl,rfl⟩
  ·cases h1;exact .inr ⟨el,cs,l,m',rfl,rfl⟩
def Z3g (G G2:Heap) (l:List Nat):Prop:=∀ k∈l,Alike (G.ent k) (G2.ent k)
theorem Z1a {G G2:Heap} {id k:Nat} (h:Alike (G.ent id) (G2.ent id)):G2.cur id k=G.cur id k:=by
 rcases h with h|⟨el,c,l,l',h1,h2⟩
 ·simp only [Heap.cur,h]
 ·simp only [Heap.cur,h1,h2]
theorem loadD_alike {P:Program} {G G2:Heap} {t:TypeId} {p:PV} (h:Z3g G G2 (vids p)):Z0l P G2 t p=Z0l P G t p:=by
 cases p with
 | ptr id ver off=>
  simp only [Z0l];rcases h id (by simp [vids]) with h|⟨el,c,l,l',h1,h2⟩
  ·rw [h]
  ·rw [h1,h2]
 | _=>rfl
theorem lenD_alike {P:Program} {G G2:Heap} {t:TypeId} {p:PV} (h:Z3g G G2 (vids p)):lenD P G2 t p=lenD P G t p:=by
 cases p with
 | buf id len sz=>simp only [lenD];rw [Z1a (h id (by simp [vids]))]
 | v x=>cases x<;>rfl
 | _=>rfl
theorem Z5V {P:Program} {G G2:Heap} {t:TypeId} {p i:PV} (h:Z3g G G2 (vids p)):Z01 P G2 t p i=Z01 P G t p i:=by
 cases p with
 | buf id len sz=>simp only [Z01];rw [Z1a (h id (by simp [vids]))]
 | ptr id ver off=>simp only [Z01];rw [Z1a (h id (by simp [vids]))]
 | v x=>cases x<;>rfl
 | _=>rfl
theorem Z5o {P:Program} {G G2:Heap} {t:TypeId} {p:PV} {f:Nat} (h:Z3g G G2 (vids p)):Z0C P G2 t p f=Z0C P G t p f:=by
 cases p with
 | ptr id ver off=>simp only [Z0C];rw [Z1a (h id (by simp [vids]))]
 | _=>rfl
theorem isNil_alike {G G2:Heap} {p:PV} (h:Z3g G G2 (vids p)):Z3n G2 p=Z3n G p:=by
 cases p with
 | buf id len sz=>simp only [Z3n];rw [Z1a (h id (by simp [vids]))]
 | v x=>
  cases x with
  | sl xs=>cases xs<;>rfl
  | _=>rfl
 | _=>rfl
theorem isNilP_alike {G G2:Heap} {p:PV} (h:Z3g G G2 (vids p)):Z2h G2 p=Z2h G p:=by
 cases p with
 | ptr id ver off=>simp only [Z2h];rw [Z1a (h id (by simp [vids]))]
 | v x=>cases x<;>rfl
 | _=>rfl
theorem binD_alike {P:Program} {G G2:Heap} {op:BinOp} {t:TypeId} {x y:PV} (h:Z3g G G2 (vids x)):binD P G2 op t x y=binD P G op t x y:=by
 have hn:=isNil_alike h
 have hn2:=isNilP_alike h
 unfold binD
 split<;>(try rfl)
 ·rw [hn]
 ·rw [hn2]
theorem Z2C {G G2:Heap} {op:Op} {x:Operand} {p:PV} (h:∀ k∈touched X e op,Alike (G.ent k) (G2.ent k)) (hx:x∈ZF op) (hp:Z1 X e x=some p):Z3g G G2 (vids p):=λk hk=>h k (Z2T hx hp hk)
theorem quiet_alike {call:ZR} {G G2:Heap} {id:Nat} {op:Op} {x:PV} (hq:quiet op=true) (h:Z2 X call e G id op=some (x,G)) (hA:isRW op=true->∀ k∈touched X e op,Alike (G.ent k) (G2.ent k)):Z2 X call e G2 id op=some (x,G2):=by
 cases op<;>simp only [quiet,YB] at hq<;>simp only [Z2] at h ⊢
 case load t y=>
  simp only [Y0,Y2,Y4] at h;obtain ⟨z,⟨p,hp,hz⟩,rfl,_⟩:=h;have:=loadD_alike (P:=X.P) (t:=t) (Z2C (hA rfl) (by simp [ZF]) hp)
  simp [hp,this,hz]
 case nilCheck y=>
  split at h
  ·rename_i id' ver off hy
   split at h
   ·rename_i hc;cases h;have:=Z1a (k:=ver) ((Z2C (hA rfl) (by simp [ZF]) hy) id' (by simp [vids]))
    simp [this,hc]
   ·cases h
  all_goals first
   | (cases h;rfl)
   | (cases h;done)
 case binOp op t y z ty=>
  split at h
  ·rename_i p q hp hq;simp only [Y0,Y4] at h;obtain ⟨r,hr,rfl,_⟩:=h;have:binD X.P G2 op t p q=binD X.P G op t p q:=by
    by_cases hk:op = .eql\/op = .neq
    ·have hrw:isRW (.binOp op t y z ty)=true:=by rcases hk with rfl|rfl<;>rfl
     exact binD_alike (Z2C (hA hrw) (by simp [ZF]) hp)
    ·exact binD_pure (λh=>hk (.inl h)) (λh=>hk (.inr h))
   simp [this,hr]
  ·cases h
 case fieldAddr t y f=>
  simp only [Y0,Y2,Y4] at h;obtain ⟨z,⟨p,hp,hz⟩,rfl,_⟩:=h;have:=Z5o (P:=X.P) (t:=t) (f:=f) (Z2C (hA rfl) (by simp [ZF]) hp)
  simp [hp,this,hz]
 case indexAddr t y z=>
  split at h
  ·rename_i p q hp hq;simp only [Y0,Y4] at h;obtain ⟨r,hr,rfl,_⟩:=h;have:=Z5V (P:=X.P) (t:=t) (i:=q) (Z2C (hA rfl) (by simp [ZF]) hp)
   simp [this,hr]
  ·cases h
 case makeFunc fn f c=>
  cases fn<;>simp only [YB] at hq h;simp only
  split at h<;>cases h<;>rfl
 case call c=>
  unfold ZM at h ⊢
  split at h
  ·cases h
  ·rename_i args hargs
   split at h
   ·rename_i b hc;rw [hc] at hq;have hlk:ZF (.call c)=c.args.toList:=by simp [ZF,hc]
    unfold Zg at h
    split at h
    ·rename_i t y hts;simp only [Y0,Y4] at h;obtain ⟨r,hr,rfl,_⟩:=h;obtain ⟨w,h1,h2⟩:=Z2e (i:=0) (y:=y) hargs (by simp)
     have hrw:isRW (.call c)=true:=by simp [isRW,Zh,hc]
     have:=lenD_alike (P:=X.P) (t:=t) (Z2C (hA hrw) (by rw [hlk];exact h1) h2)
     simp [Zg,hts,this,hr]
    ·simp at hq
    ·simp at hq
    ·simp only [Y0,Y4] at h;obtain ⟨r,hr,rfl,_⟩:=h;simp [Zg,hr]
    ·simp only [Y0,Y4] at h;obtain ⟨r,hr,rfl,_⟩:=h;simp [Zg,hr]
    ·cases h
   ·cases h
   ·rename_i f hc;rw [hc] at hq;simp at hq
 all_goals first
  | (simp only [Y0,Y4] at h;obtain ⟨z,hz,rfl,_⟩:=h;simp [hz];done)
  | (split at h<;>first
    | (simp only [Y0,Y4] at h;obtain ⟨z,hz,rfl,_⟩:=h;simp_all;done)
    | (cases h;done))
theorem quiet_frozen {op:Op} (hq:quiet op=true):frozen X e op=[]:=by
 cases op<;>simp only [quiet,YB] at hq<;>rfl
theorem Z4E {op:Op} (hq:quiet op=true):isW op=false/\Zh op ≠ .call:=by
 cases op<;>simp only [quiet,YB] at hq<;>simp only [isW,Zh]
 case binOp op _ _ _ _=>cases op<;>simp
 case makeFunc fn _ _=>cases fn<;>simp at hq ⊢
 case call c=>
  cases hc:c.callee with
  | builtin b=>rw [hc] at hq;cases b<;>simp at hq ⊢
  | _=>rw [hc] at hq;simp at hq
 all_goals simp
end Go.Dn
