/- Part 2 of what the row stands on. -/
import Derived.Below
import Derived.ChangeArms
import Derived.ChangeOld
import Derived.SizedLaws
import Derived.KernelRfl
import Derived.Test.YtefaoeaohhdhkaaProg
import Derived.Test.YtefaoeaohhdhkaaM1
set_option linter.unusedVariables false
set_option linter.unusedSimpArgs false
namespace Go.Dn
open Go
def rangeY {S T:Type} (yb:S->T->Option (S×Nat)):S×Nat->T->Option ((S×Nat)×Bool):=λs t=>if s.2=0 then (yb s.1 t).map λr=>(r,r.2==0) else none
def cI (k:IntKind) (x:Int):List FV:=[.int k x]
def cB (x:Bool):List FV:=[.bool x]
def cS (x:ByteArray):List FV:=[.str x]
def cL {α:Type} (c:α->List FV) (x:List α):List FV:=[.sl (x.map c)]
abbrev w64 (x:Int):Int:=IntKind.i64.wrap x
def nz? (b:Int):Option Unit:=if b=0 then none else some ()
theorem nz_ne {b:Int} {u:Unit} (h:nz? b=some u):b≠0:=by
 unfold nz? at h
 split at h
 ·cases h
 ·assumption
abbrev iAnd (k:IntKind) (x y:Int):Int:=k.wrap (BitVec.ofInt k.bits x &&& BitVec.ofInt k.bits y).toNat
abbrev iOr (k:IntKind) (x y:Int):Int:=k.wrap (BitVec.ofInt k.bits x ||| BitVec.ofInt k.bits y).toNat
abbrev iXor (k:IntKind) (x y:Int):Int:=k.wrap (BitVec.ofInt k.bits x ^^^ BitVec.ofInt k.bits y).toNat
abbrev iAndNot (k:IntKind) (x y:Int):Int:=k.wrap (BitVec.ofInt k.bits x &&& ~~~ BitVec.ofInt k.bits y).toNat
abbrev iMin (x y:Int):Int:=if y<x then y else x
abbrev iMax (x y:Int):Int:=if y>x then y else x
def winA (n:Int) (m:Nat):Option Unit:=if 0<=n/\n.toNat<m then some () else none
def winB (n:Int) (m:Nat):Option Unit:=if 0<n/\n.toNat<=m then some () else none
def dbl {α:Type} (xs:List α) (a:Nat):List α:=xs.take a++(xs.take a).take (xs.length-a)++xs.drop (a+min a (xs.length-a))
def some? {α:Type} (l:List α):Option Unit:=match l with|[]=>none|_::_=>some ()
def back? (l:List Bool) (i:Int):Option Unit:=if at? l i=some false then some () else none
def clone? {α:Type} (by_:Nat) (l:List α):Option (List α):=if l.length*by_<=room then some l else none
theorem Z4c {α:Type} {by_:Nat} {l r:List α} (h:clone? by_ l=some r):l.length*by_<=room/\r=l:=by
 unfold clone? at h
 split at h
 ·cases h;exact ⟨by assumption,rfl⟩
 ·cases h
def gcd? (a b:Int):Option Int:=if (0<=a/\a<=18446744073709551615)/\0<=b/\b<=18446744073709551615 then some (Int.gcd a b) else none
def Jx.elim {A R B:Type} (j:Jx A R) (g:R->Option B) (f:A->Option B):Option B:=match j with | .go a=>f a | .ret r=>g r
theorem jgo {A R B:Type} {a:A} {g:R->Option B} {f:A->Option B} {b:B} (h:(Jx.go a:Jx A R).elim g f=some b):f a=some b:=h
theorem jret {A R B:Type} {r:R} {g:R->Option B} {f:A->Option B} {b:B} (h:(Jx.ret r:Jx A R).elim g f=some b):g r=some b:=h
theorem or_T {c t:Bool} (h:c=true):PV.v (.bool true) = .v (.bool (c||t)):=by rw [h];rfl
theorem or_F {c t:Bool} (h:c=false):PV.v (.bool t) = .v (.bool (c||t)):=by rw [h];rfl
theorem Z3Z {c t:Bool} (h:c=true):PV.v (.bool t) = .v (.bool (c&&t)):=by rw [h];rfl
theorem Z3w {c t:Bool} (h:c=false):PV.v (.bool false) = .v (.bool (c&&t)):=by rw [h];rfl
section
variable {X:Ctx} {n:Nat} {dr:Bool} {fn:FuncId} {ops:Array Oper} {base i:Nat} {l:List Oper} {e:Env} {G:Heap} {K:Env->Heap->Prop} {Q:Ex->Env->Heap->Prop} {c a b:Code}
variable {d:Nat} {t t1 t2:TypeId} {p:String} {af:Array Edge} {x y z:Operand} {v:PV} {lo hi:Nat} {L:List Res}
theorem Ops.lenPt {α:Type} {c:α->List FV} {xs:List α} {el:TypeId} (hx:Z1 X e x=some (.v (.sl (xs.map c)))) (ht:tslice X.P t1=some el) (hd:Nat.blt d n=true)
  (hk':Ops X n dr ops base (i+1) l (set e d (.v (.int .i64 xs.length))) G K):Ops X n dr ops base i (⟨some d,.call { callee:=.builtin .len,args:=#[x],argTypes:=#[t1] },t,p,af,none⟩::l) e G K:=by
 refine Ops.lenP (af2:=#[]) hx ht hd ?_
 rw [YU];exact hk'
theorem Ops.lenSt {α:Type} {c:α->List FV} {xs:List α} {el et:TypeId} {sz:Nat} {lv:Bool} (H:Has G lo hi L) (k:Nat) (hk:L[k]? = some (.sl v et sz (xs.map c) lv)) (hx:Z1 X e x=some v) (ht:tslice X.P t1=some el)
  (ha:dr=true->∀ id,v.owner=some id->Seen ops base i id false) (hd:Nat.blt d n=true)
  (hk':Ops X n dr ops base (i+1) l (set e d (.v (.int .i64 xs.length))) G K):Ops X n dr ops base i (⟨some d,.call { callee:=.builtin .len,args:=#[x],argTypes:=#[t1] },t,p,af,none⟩::l) e G K:=by
 refine Ops.lenS H k hk hx ht ha hd ?_
 rw [YU];exact hk'
theorem Z1d {v:PV} {id:Nat} (h:id∈vids v) (hv:∀ i v' o,v ≠ .ptr i v' o):v.owner=some id:=by
 cases v<;>simp [vids] at h
 ·exact h▸rfl
 ·exact absurd rfl (hv _ _ _)
 ·exact h▸rfl
theorem Z3x {sz:Nat} {w:PV} {ys:List (List FV)} (H:Has G lo hi L) (h:Bring L sz w ys):∀ i v' o,w ≠ .ptr i v' o:=by
 intro i v' o e
 subst e
 cases h with
 | s k h=>obtain ⟨_,⟨h,_⟩|⟨_,h,_⟩⟩:=H.sl h<;>cases h
theorem Ops.Z3t {α:Type} {c:α->List FV} {xs ys r:List α} {el:TypeId} {sz by_:Nat} {w:PV} {zs:List PV} (H:Has G lo hi L) (hlo:lo<=base+i) (hhi:base+i<hi) (k:Nat) (hk:L[k]? = some (.sl v el sz (xs.map c) true))
  (hx:Z1 X e x=some v) (hy:Z1 X e y=some w) (hb:Bring L sz w (ys.map c)) (hr:app? by_ xs ys=some r) (ht:tslice X.P t1=some el) (hs:tsize X.P el=some sz) (hby:tbytes X.P el=some by_) (hz:tzero X.P el=some zs)
  (hc:(sz != 0&&by_ != 0&&zs.length==sz)=true)
  (ha:dr=true->(∀ id,v.owner=some id->Seen ops base i id true)/\(∀ id,w.owner=some id->Seen ops base i id true)) (hd:Nat.blt d n=true)
  (hk':∀ v' G',Has G' (base+i+1) hi (L.set k (.sl v' el sz (r.map c) true))->Ops X n dr ops base (i+1) l (set e d v') G' K) :
  Ops X n dr ops base i (⟨some d,.call { callee:=.builtin .append,args:=#[x,y],argTypes:=#[t1,t1] },t,p,af,none⟩::l) e G K:=by
 unfold app? at hr
 split at hr
 ·rename_i hroom;cases hr;refine Ops.appendS H hlo hhi k hk hx hy hb ht hs hby hz hc (by simpa using hroom) (λh id hid=>?_) hd ?_
  ·rcases List.mem_append.1 hid with hid|hid
   ·refine (ha h).1 id (Z1d hid ?_);intro i v' o e;subst e;obtain ⟨_,⟨h,_⟩|⟨_,h,_⟩⟩:=H.sl hk<;>cases h
   ·exact (ha h).2 id (Z1d hid (Z3x H hb))
  ·rw [Y03] at hk';exact hk'
 ·cases hr
theorem Ops.appendBt {α:Type} {c:α->List FV} {xs ys r:List α} {el:TypeId} {sz by_ id m:Nat} {w:PV} {zs:List PV} (H:Has G lo hi L) (hlo:lo<=base+i) (hhi:base+i<hi) (k:Nat) (hk:L[k]? = some (.sl (.buf id m sz) el sz (xs.map c) true))
  (hx:Z1 X e x=some (.buf id m sz)) (hy:Z1 X e y=some w) (hb:Bring L sz w (ys.map c)) (hr:app? by_ xs ys=some r) (ht:tslice X.P t1=some el) (hs:tsize X.P el=some sz) (hby:tbytes X.P el=some by_) (hz:tzero X.P el=some zs)
  (hc:(sz != 0&&by_ != 0&&zs.length==sz)=true)
  (ha:dr=true->(∀ id',(PV.buf id m sz).owner=some id'->Seen ops base i id' true)/\(∀ id,w.owner=some id->Seen ops base i id true)) (hd:Nat.blt d n=true)
  (hk':∀ G',Has G' (base+i+1) hi (L.set k (.sl (.buf id r.length sz) el sz (r.map c) true))->Ops X n dr ops base (i+1) l (set e d (.buf id r.length sz)) G' K) :
  Ops X n dr ops base i (⟨some d,.call { callee:=.builtin .append,args:=#[x,y],argTypes:=#[t1,t1] },t,p,af,none⟩::l) e G K:=by
 unfold app? at hr
 split at hr
 ·rename_i hroom;cases hr;simp only [Y8,beq_iff_eq,bne_iff_ne,ne_eq] at hc;obtain ⟨hb1,hb2⟩:=brought H hb;obtain ⟨hsz,hv⟩:=H.sl hk;rcases hv with ⟨h,_⟩|⟨id',hid,hbl⟩
  ·cases h
  cases hid;have hall:∀ y∈xs.map c++ys.map c,y.length=sz:=λy hy=>(List.mem_append.1 hy).elim (hsz y) (hb2 y);have hn:¬(sz=0\/by_=0\/(some zs).map List.length≠some sz):=by
   rintro (h|h|h)
   ·exact hc.1.1 h
   ·exact hc.1.2 h
   ·exact h (by rw [Y9,hc.2])
  have ask:dr=true->ZK X ops base i ⟨some d,.call { callee:=.builtin .append,args:=#[x,y],argTypes:=#[t1,t1] },t,p,af,none⟩ e=true:=λh=>
   Z3T (ids:=vids (PV.buf id (xs.map c).length sz)++vids w) rfl (by simp only [touched,ZF,YE,YG,hx,hy,YK]) (λid2 hid2=>by
    rcases List.mem_append.1 hid2 with hid2|hid2
    ·exact (ha h).1 id2 (Z1d hid2 (by intros;simp))
    ·exact (ha h).2 id2 (Z1d hid2 (Z3x H hb)))
  have start:Z2 X (Zm X) e G (base+i) (.call { callee:=.builtin .append,args:=#[x,y],argTypes:=#[t1,t1] })=Z0L X.P G (base+i) t1 (.buf id (xs.map c).length sz) w:=by
   simp only [Z2,ZM,ZG,hx,hy,Y1,Zg,if_true]
  refine .plain (x:=.buf id (xs++ys).length sz) (G1:=G.put id (.blk el (vs (xs.map c).flatten++vs (ys.map c).flatten) true)) ?_ ask hd
   (hk' _ ((H.put hk rfl (r':=.sl (.buf id (xs++ys).length sz) el sz ((xs++ys).map c) true) ⟨by rw [Y03];exact hall,.inr ⟨id,by rw [YU],?_⟩⟩ rfl).weak (YT hlo (Y0X _)) (YA _)))
  ·rw [start];simp only [Z0L,ht,hs,hby,hb1,hz,if_neg hn,hbl];rw [if_pos ⟨trivial,trivial,by rw [Zw,Zl hsz],by simpa using hroom⟩]
   simp only [YU,YY]
  ·rw [Z14,Y03,Yt,Z1l]
 ·cases hr
def cpy {α:Type} (xs ys:List α):List α:=ys.take (min ys.length xs.length)++xs.drop (min ys.length xs.length)
theorem flat_take {sz:Nat}:∀ {ys:List (List FV)},(∀ y∈ys,y.length=sz)->∀ k,ys.flatten.take (k*sz)=(ys.take k).flatten
 | [],_,k=>by simp
 | y::ys,h,0=>by simp
 | y::ys,h,k+1=>by
  have hy:=h y YN;have ih:=flat_take (ys:=ys) (λz hz=>h z (YH _ hz)) k;rw [YO,List.take_succ_cons,YO,Y0S,Nat.add_comm (k*sz) sz,<- hy,List.take_length_add_append,hy,ih]
theorem Z6Q {sz:Nat}:∀ {ys:List (List FV)},(∀ y∈ys,y.length=sz)->∀ k,ys.flatten.drop (k*sz)=(ys.drop k).flatten
 | [],_,k=>by simp
 | y::ys,h,0=>by simp
 | y::ys,h,k+1=>by
  have hy:=h y YN;have ih:=Z6Q (ys:=ys) (λz hz=>h z (YH _ hz)) k;rw [YO,List.drop_succ_cons,Y0S,Nat.add_comm (k*sz) sz,<- hy,List.drop_length_add_append,hy,ih]
theorem Ops.copyS {α:Type} {c:α->List FV} {xs ys:List α} {el:TypeId} {sz m:Nat} {w:PV} {t9:TypeId} {id:Nat} (H:Has G lo hi L) (k:Nat) (hk:L[k]? = some (.sl v el sz (xs.map c) true)) (hv:v = .buf id m sz)
  (hx:Z1 X e x=some v) (hy:Z1 X e y=some w) (hb:Bring L sz w (ys.map c)) (ht:tslice X.P t1=some el) (hs:tsize X.P el=some sz)
  (ha:dr=true->(∀ id,v.owner=some id->Seen ops base i id true)/\(∀ id,w.owner=some id->Seen ops base i id true)) (hd:Nat.blt d n=true)
  (hk':∀ G',Has G' lo hi (L.set k (.sl v el sz ((cpy xs ys).map c) true))->Ops X n dr ops base (i+1) l (set e d (.v (.int .i64 (min ys.length xs.length:Nat)))) G' K) :
  Ops X n dr ops base i (⟨some d,.call { callee:=.builtin .copy,args:=#[x,y],argTypes:=#[t1,t9] },t,p,af,none⟩::l) e G K:=by
 obtain ⟨hb1,hb2⟩:=brought H hb
 obtain ⟨hsz,hv'⟩:=H.sl hk
 subst hv
 rcases hv' with ⟨h,_⟩|⟨id',hid,hbl⟩
 ·cases h
 cases hid
 have hl2:(vs (xs.map c).flatten).length=(xs.map c).length*sz:=by rw [Zw,Zl hsz]
 have hcp:splice (vs (xs.map c).flatten) 0 ((vs (ys.map c).flatten).take (min (ys.map c).length (xs.map c).length*sz))=vs ((cpy xs ys).map c).flatten:=by
  rw [vs_take,flat_take hb2];unfold splice;rw [List.take_zero,List.nil_append,Zw,Y0A,vs_drop,Zl (sz:=sz) (λy hy=>hb2 y (Yd hy)),Z6Q hsz,<- Z1l,<- Yt]
  congr 1
  unfold cpy;rw [Y03,List.map_take,List.map_drop];simp only [YR,YU]
  congr 3
  omega
 refine .plain (x:=.v (.int .i64 (min ys.length xs.length:Nat))) (G1:=G.put id (.blk el (vs ((cpy xs ys).map c).flatten) true)) ?_ (λh=>Z3T rfl rfl ?_) hd
  (hk' _ (H.put hk rfl (r':=.sl (.buf id (xs.map c).length sz) el sz ((cpy xs ys).map c) true) ⟨λy hy=>?_,.inr ⟨id,?_,Z14⟩⟩ rfl))
 ·simp only [Z2,ZM,ZG,hx,hy,Y1,Zg,Z3q,ht,hs,hb1,hbl];rw [if_pos ⟨trivial,trivial,hl2⟩,hcp];simp only [YU]
 ·intro id' hid;simp only [touched,ZF,YE,YG,hx,hy,YK] at hid;rcases List.mem_append.1 hid with hid|hid
  ·exact (ha h).1 _ (Z1d hid (by intros;simp))
  ·exact (ha h).2 _ (Z1d hid (Z3x H hb))
 ·obtain ⟨a,ha',rfl⟩:=List.mem_map.1 hy;unfold cpy at ha';rcases List.mem_append.1 ha' with h|h
  ·exact hb2 _ (List.mem_map.2 ⟨a,Yd h,rfl⟩)
  ·exact hsz _ (List.mem_map.2 ⟨a,List.mem_of_mem_drop h,rfl⟩)
 ·have:((cpy xs ys).map c).length=(xs.map c).length:=by
   unfold cpy;simp only [YU,YY,YR,Y0Q];omega
  rw [this]
theorem Ops.storeSt {α:Type} {c:α->List FV} {xs:List α} {u u':α} {id:Nat} {et:TypeId} {sz j m off ver:Nat} {zs:List FV} {iv:Int} {w:PV} (H:Has G lo hi L) (k:Nat) (hk:L[k]? = some (.sl v et sz (xs.map c) true)) (hv:v = .buf id (xs.map c).length sz) (hver:ver=(xs.map c).length*sz)
  (hu:at? xs iv=some u) (hx:Z1 X e x=some (.ptr id ver off)) (hoff:off=iv.toNat*sz+j) (hy:Z1 X e y=some w) (hw:w.cells=some (vs zs)) (hm:tsize X.P t1=some m) (hz:zs.length=m) (hj:Nat.ble (j+m) sz=true)
  (hu':(c u).take j++zs++(c u).drop (j+zs.length)=c u') (ha:dr=true->Seen ops base i id true)
  (hk':∀ G',Has G' lo hi (L.set k (.sl v et sz ((xs.set iv.toNat u').map c) true))->Ops X n dr ops base (i+1) l e G' K):Ops X n dr ops base i (⟨none,.store t1 x y,t,p,af,none⟩::l) e G K:=by
 refine Ops.storeS H k hk hv hver (at?_map hu) hx hoff hy hw hm hz hj hu' ha ?_
 rw [List.map_set] at hk'
 exact hk'
theorem Ops.binA {op:BinOp} {u w:PV} {r:FV} (hx:Z1 X e x=some u) (hy:Z1 X e y=some w) (hr:binD X.P G op t1 u w=some r) (ha:dr=true->ZK X ops base i ⟨some d,.binOp op t1 x y t2,t,p,af,none⟩ e=true) (hd:Nat.blt d n=true)
  (hk:Ops X n dr ops base (i+1) l (set e d (.v r)) G K):Ops X n dr ops base i (⟨some d,.binOp op t1 x y t2,t,p,af,none⟩::l) e G K :=
 .plain (x:=.v r) (G1:=G) (by simp only [Z2,hx,hy,hr,Y9]) ha hd hk
theorem ask_eqA {op:BinOp} {us ws:List PV} {o:Oper} (hx:Z1 X e x=some (.agg us)) (hy:Z1 X e y=some (.agg ws)) (hop:Zh (.binOp op t1 x y t2) = .read) (ho:o.op = .binOp op t1 x y t2):ZK X ops base i o e=true :=
 Z1H (by rw [ho];exact hop) (by rw [ho];simp only [touched,ZF,YE,YG,hx,hy,vids,YK])
theorem Ops.buildA {parts:Array (Nat×Operand)} {cs:List PV} (hb:Z5r X e t1 parts.toList=some (.agg cs)) (hd:Nat.blt d n=true) (hk:Ops X n dr ops base (i+1) l (set e d (.agg cs)) G K):Ops X n dr ops base i (⟨some d,.build t1 parts,t,p,af,none⟩::l) e G K :=
 .plain (x:=.agg cs) (G1:=G) (by simp only [Z2,hb,Y9]) (λ_=>Z04 rfl) hd hk
theorem Ops.min2 {k:IntKind} {u w:Int} {ts:Array TypeId} (hx:Z1 X e x=some (.v (.int k u))) (hy:Z1 X e y=some (.v (.int k w))) (hd:Nat.blt d n=true) (hk:Ops X n dr ops base (i+1) l (set e d (.v (.int k (iMin u w)))) G K) :
  Ops X n dr ops base i (⟨some d,.call { callee:=.builtin .min,args:=#[x,y],argTypes:=ts },t,p,af,none⟩::l) e G K :=
 .plain (x:=.v (.int k (iMin u w))) (G1:=G) (by simp only [Z2,ZM,ZG,hx,hy,Y1,Zg,Z1L,if_true,Y9]) (λ_=>Z04 rfl) hd hk
theorem Ops.max2 {k:IntKind} {u w:Int} {ts:Array TypeId} (hx:Z1 X e x=some (.v (.int k u))) (hy:Z1 X e y=some (.v (.int k w))) (hd:Nat.blt d n=true) (hk:Ops X n dr ops base (i+1) l (set e d (.v (.int k (iMax u w)))) G K) :
  Ops X n dr ops base i (⟨some d,.call { callee:=.builtin .max,args:=#[x,y],argTypes:=ts },t,p,af,none⟩::l) e G K :=
 .plain (x:=.v (.int k (iMax u w))) (G1:=G) (by simp only [Z2,ZM,ZG,hx,hy,Y1,Zg,Z1L,if_true,Y9]) (λ_=>Z04 rfl) hd hk
end
inductive Sub:List Res->List Res->Prop
 | nil {L:List Res}:Sub [] L
 | cons {c:Res} {C L:List Res} (k:Nat) (h:L[k]? = some c) (t:Sub C L):Sub (c::C) L
theorem Sub.push {C L:List Res} {r:Res} (h:Sub C L):Sub C (r::L):=by
 induction h with
 | nil=>exact .nil
 | cons k h t ih=>exact .cons (k+1) h ih
theorem Sub.inv {c:Res} {C L:List Res} (h:Sub (c::C) L):∃ k:Nat,L[k]? = some c/\Sub C L:=by
 cases h with
 | cons k h t=>exact ⟨k,h,t⟩
noncomputable def callV (X:Ctx) (cv:PV) (args:List PV) (G:Heap):Option (PV×Heap) :=
 match cv with
 | .v (.fn f)=>Zm X (.fn f) args G
 | .clo f first caps=>Zm X (.fn f) (first++args++caps) G
 | _=>none
def FnH (X:Ctx) (f:FuncId) (args:List PV) (r:PV) (C:List Res):Prop :=
 ∀ G lo hi L,Sub C L->Has G lo hi L->∃ G',Zm X (.fn f) args G=some (r,G')/\Has G' lo hi L
def CloH (X:Ctx) (cv:PV) (args:List PV) (r:PV) (C:List Res):Prop :=
 ∀ G lo hi L,Sub C L->Has G lo hi L->∃ G',callV X cv args G=some (r,G')/\Has G' lo hi L
section
variable {X:Ctx} {f:FuncId} {args:List PV} {r:PV} {C:List Res}
theorem Fn.toH (h:Fn X f args r) (C:List Res):FnH X f args r C:=λG lo hi L _ H=>⟨G,h.call G,H⟩
theorem CloH.fn (h:FnH X f args r C):CloH X (.v (.fn f)) args r C:=h
theorem CloH.clo {first caps:List PV} (h:FnH X f (first++args++caps) r C):CloH X (.clo f first caps) args r C:=h
theorem CloH.weak {cv:PV} (h:CloH X cv args r []):CloH X cv args r C:=λG lo hi L _ H=>h G lo hi L .nil H
theorem all_nil {α:Type} {p:α->Bool}:([] : List α).all p=true:=rfl
theorem all_t {α:Type} {p:α->Bool} {x:α} {l:List α} (h:p x=true) (t:l.all p=true):(x::l).all p=true:=by rw [Ye,h,t];rfl
theorem all_get {α:Type} {p:α->Bool} {x:α} {l:List α} (h:l.all p=true) (i:Nat) (hx:l[i]? = some x):p x=true:=List.all_eq_true.1 h x (Y6 hx)
def PV.still:PV->Bool
 | .ptr _ _ _=>true
 | .clo _ _ _=>true
 | .yld _=>true
 | x=>x.pure
theorem expArg_still {G:Heap} {x:PV} (h:x.still=true):Z1e G x=some (x,G):=by
 cases x<;>first|rfl|exact Z3W h
theorem Z2g {G:Heap}:∀ {xs:List PV},xs.all PV.still=true->Zz G xs=some (xs,G)
 | [],_=>rfl
 | x::xs,h=>by
  simp only [Ye,Y8] at h;simp only [Zz,expArg_still h.1,Y1,Z2g h.2]
theorem FnH.of {fu:Func} {c:Code} {m:Nat} (hf:X.P.funcs[f]? = some fu) (hb:fu.body=some c) (hi:X.intr f args=none) (hk:X.keep f=false) (ho:X.opn f=false) (hs:args.all PV.still=true) (hm:max fu.ntmps args.length=m)
  (hp:args.all PV.pure=true->C=[])
  (h:∀ G L,Sub C L->Hs G L->Runs X m f c (Z2t args) G (EndsH X fu.results.toList r L)) (hq:X.prim f=none:=by rfl):FnH X f args r C:=by
 subst hm
 intro G lo hi' L hC H
 by_cases hpu:args.all PV.pure=true
 ·have hC0:=hp hpu;subst hC0;obtain ⟨lf,x,e',G1,h1,hE⟩:=(h Heap.empty [] .nil (Has.nil (YA _))).run;obtain ⟨hx,xs,G2,_,_,h2,h3,_⟩:=hE.out;refine ⟨G,Z0m (lf:=lf) ?_,H⟩;have hbody:Z02 X (Zm X) lf f args Heap.empty=some (Z0J xs,G1):=by
   simp only [Z02,hq,hf,hb,h1];rcases hx with rfl|rfl<;>simp only [h2,Y9]
  simp only [Z2K,hi,hk,YB,if_false,Z0c hpu,ho,hpu,if_true,hbody,Y1,h3,Y9,ite_self]
 ·obtain ⟨lf,x,e',G1,h1,hE⟩:=(h G (.floor hi'::L) hC.push (H.all.floor hi' H.le)).run;obtain ⟨hx,xs,G2,lo2,hi2,h2,h3,H2⟩:=hE.out;refine ⟨G2,Z0m (lf:=lf) ?_,?_⟩
  ·have hbody:Z02 X (Zm X) lf f args G=some (Z0J xs,G1):=by
    simp only [Z02,hq,hf,hb,h1];rcases hx with rfl|rfl<;>simp only [h2,Y9]
   simp only [Z2K,hi,hk,Y0E,YB,if_false,Z2g hs,ho,if_neg hpu,hbody,Y1,h3]
  ·have hfl:hi'<=G2.nx:=H2.holds 0 _ rfl;have H3:=H2.erase 0;exact ⟨H3.holds,λk r hk id ho=>⟨(H.lt k r hk id ho).1,(H3.lt k r hk id ho).2⟩,H.sep,hfl⟩
end
section
variable {X:Ctx} {n:Nat} {dr:Bool} {fn:FuncId} {ops:Array Oper} {base i:Nat} {l:List Oper} {e:Env} {G:Heap} {K:Env->Heap->Prop}
variable {d:Nat} {t:TypeId} {p:String} {af:Array Edge} {x:Operand} {lo hi:Nat} {L C:List Res}
theorem Ops.callH {f:FuncId} {args:Array Operand} {ts:Array TypeId} {ys:List PV} {r:PV} (H:Has G lo hi L) (ha:ZG X e args.toList=some ys) (hf:FnH X f ys r C) (hs:Sub C L)
  (hdr:dr=true->(ys.all PV.pure && !X.opn f && !X.keep f)=true\/Z1m (Region.before ops) ops i=true) (hd:Nat.blt d n=true)
  (hk:∀ G',Has G' lo hi L->Ops X n dr ops base (i+1) l (set e d r) G' K) :
  Ops X n dr ops base i (⟨some d,.call { callee:=.value (.func f),args:=args,argTypes:=ts },t,p,af,none⟩::l) e G K:=by
 obtain ⟨G',q1,q2⟩:=hf G lo hi L hs H
 refine .plain (x:=r) (G1:=G') (by simp only [Z2,ZM,ha,Z1,q1]) (λh=>?_) hd (hk G' q2)
 rcases hdr h with this|this
 case inr=>exact ask_all this
 simp only [Y8,YQ] at this
 exact ask0 (by simp only [ZO,Zh,ha,Z3G,Z1,pure_calm this.1.1,this.1.2,this.2,Y0Y,Yi])
theorem Ops.callV {cv:PV} {args:Array Operand} {ts:Array TypeId} {ys:List PV} {r:PV} (H:Has G lo hi L) (hx:Z1 X e x=some cv) (ha:ZG X e args.toList=some ys) (hf:CloH X cv ys r C) (hs:Sub C L)
  (hdr:dr=true->Z1m (Region.before ops) ops i=true) (hd:Nat.blt d n=true)
  (hk:∀ G',Has G' lo hi L->Ops X n dr ops base (i+1) l (set e d r) G' K) :
  Ops X n dr ops base i (⟨some d,.call { callee:=.value x,args:=args,argTypes:=ts },t,p,af,none⟩::l) e G K:=by
 obtain ⟨G',q1,q2⟩:=hf G lo hi L hs H
 refine .plain (x:=r) (G1:=G') ?_ (λh=>ask_all (hdr h)) hd (hk G' q2)
 simp only [Z2,ZM,ha,hx]
 unfold Dn.callV at q1
 split at q1
 ·exact q1
 ·exact q1
 ·cases q1
end
end Go.Dn

namespace Go.Dn
open Go Go.ChangeShapes
def consec (P:Program):Nat->List Field->Option Nat
 | o,[]=>some o
 | o,f::fs=>if f.offset=o then consec P (o+P.cellsOf f.type) fs else none
def supp (P:Program):Nat->TypeId->Bool
 | 0,_=>false
 | d+1,t=>
  match P.underlying t with
  | some .bool=>P.cellsOf t==1
  | some (.int _)=>P.cellsOf t==1
  | some .string=>P.cellsOf t==1
  | some (.slice e)=>P.cellsOf t==1&&P.cellsOf e != 0&&supp P d e
  | some (.struct fs)=>fs.toList.all (λf=>supp P d f.type)&&(consec P 0 fs.toList==some (P.cellsOf t))
  | _=>false
def OKC (P:Program):Nat->TypeId->List FV->Prop
 | 0,_,_=>False
 | d+1,t,ys=>
  match P.underlying t with
  | some .bool=>∃ b,ys=[.bool b]
  | some (.int k)=>∃ m,ys=[.int k m]/\(Lit.int k m).wf=true
  | some .string=>∃ s,ys=[.str s]/\s.size<=maxLen
  | some (.slice e)=>∃ xs,ys=[.sl xs]/\xs.length*P.bytesOf e<=reachBytes/\∀ x∈xs,OKC P d e x
  | some (.struct fs)=>ys.length=P.cellsOf t/\∀ f∈fs.toList,OKC P d f.type ((ys.drop f.offset).take (P.cellsOf f.type))
  | _=>False
section
variable {H:Type} {enc:TypeId×Value->H} {P:Program} {w:World} {base:Nat} {spare:Nat->Bool} {held:Bool} {Im:Nat->Prop}
def Cov (w:World) (Im:Nat->Prop) (ys:List FV) (cs:List Value):Prop:=ys.length=cs.length/\∀ (i:Nat) (y:FV) (v:Value),ys[i]? = some y->cs[i]? = some v->FVR w Im y v
theorem Cov.one {y:FV} {v:Value} (h:FVR w Im y v):Cov w Im [y] [v]:=⟨rfl,λi y' v' hy hv=>by
 cases i with
 | zero=>cases hy;cases hv;exact h
 | succ i=>simp at hy⟩
theorem consec_le:∀ {fs:List Field} {o m:Nat},consec P o fs=some m->o<=m
 | [],o,m,h=>by simp [consec] at h;omega
 | f::fs,o,m,h=>by
  simp only [consec] at h
  split at h
  ·have:=consec_le h;omega
  ·cases h
theorem fields_ok {d n:Nat} {cs:List Value} (ih:∀ (t:TypeId) (cs:List Value) (x:DataW H×List MemPlace),supp P d t=true->DataW.trod enc P w base spare held n t cs=some x->(∀ p∈x.2,Im p.block)->(∀ n∈x.1.weights P t,n<=reachBytes)->∃ ys,Cov w Im ys cs/\OKC P d t ys) :
  ∀ (fs:List Field) (o m:Nat),consec P o fs=some m->m<=cs.length->(∀ f∈fs,supp P d f.type=true) ->
   (∀ f∈fs,∃ x,DataW.trod enc P w base spare held n f.type ((cs.drop f.offset).take (P.cellsOf f.type))=some x/\(∀ p∈x.2,Im p.block)/\∀ n∈x.1.weights P f.type,n<=reachBytes) ->
   ∃ ys,Cov w Im ys ((cs.drop o).take (m-o))/\∀ f∈fs,o<=f.offset/\OKC P d f.type ((ys.drop (f.offset-o)).take (P.cellsOf f.type))
 | [],o,m,hc,hm,_,_=>by
  simp [consec] at hc;subst hc;exact ⟨[],⟨by simp,by simp⟩,by simp⟩
 | f::fs,o,m,hc,hm,hs,hx=>by
  simp only [consec] at hc
  split at hc
  ·rename_i ho;subst ho;obtain ⟨x,hx1,hx2,hx3⟩:=hx f YN;obtain ⟨ys,⟨hl,hv⟩,hok⟩:=ih f.type _ x (hs f YN) hx1 hx2 hx3;have hle:=consec_le hc;obtain ⟨zs,⟨hl2,hv2⟩,hok2⟩:=fields_ok ih fs _ m hc hm (λg hg=>hs g (YH _ hg)) (λg hg=>hx g (YH _ hg));simp only [YR,Y0Q] at hl hl2;have hy:ys.length=P.cellsOf f.type:=by omega
   refine ⟨ys++zs,⟨by simp only [YY,YR,Y0Q];omega,λi y v h1 h2=>?_⟩,λg hg=>?_⟩
   ·by_cases hi:i<ys.length
    ·rw [YJ hi] at h1;refine hv i y v h1 ?_;rw [YM] at h2 ⊢;rw [if_pos (by omega)] at h2 ⊢
     exact h2
    ·rw [YP (by omega)] at h1
     have hi2:i-ys.length<zs.length:=by
      rcases YF (i-ys.length) zs.length with h|h
      ·exact h
      ·rw [Yl h] at h1;cases h1
     refine hv2 (i-ys.length) y v h1 ?_;rw [YM,YX] at h2 ⊢;rw [if_pos (by omega)] at h2 ⊢
     rw [<- h2]
     congr 1;omega
   ·rcases List.mem_cons.1 hg with rfl|hg
    ·refine ⟨YA _,?_⟩;rw [Nat.sub_self,List.drop_zero,Y0H (by omega),Y0I (by omega)]
     exact hok
    ·obtain ⟨h1,h2⟩:=hok2 g hg;refine ⟨by omega,?_⟩
     have:(ys++zs).drop (g.offset-f.offset)=zs.drop (g.offset-(f.offset+P.cellsOf f.type)):=by
      rw [List.drop_append,Y0J (by omega),List.nil_append]
      congr 1;omega
     rw [this];exact h2
  ·cases hc
theorem Z5w {e:TypeId}:∀ {ds:List (DataW H)} {d:DataW H},d∈ds->∀ n∈d.weights P e,n∈DataW.weightsAll P e ds
 | d0::ds,d,h,n,hn=>by
  simp only [DataW.weightsAll,Yb];rcases List.mem_cons.1 h with rfl|h
  ·exact .inl hn
  ·exact .inr (Z5w h n hn)
def Sized (P:Program) (t:TypeId) (d:DataW H):Prop:=∀ n∈d.weights P t,n<=reachBytes
theorem OKC.length:∀ {d:Nat} {t:TypeId} {ys:List FV},supp P d t=true->OKC P d t ys->ys.length=P.cellsOf t
 | 0,t,ys,h,_=>by simp [supp] at h
 | d+1,t,ys,h,ho=>by
  unfold supp at h;unfold OKC at ho
  split at h
  all_goals (rename_i hu;simp only [hu] at ho)
  ·obtain ⟨b,rfl⟩:=ho;simp at h;simp [h]
  ·obtain ⟨b,rfl,_⟩:=ho;simp at h;simp [h]
  ·obtain ⟨b,rfl,_⟩:=ho;simp at h;simp [h]
  ·obtain ⟨b,rfl,_⟩:=ho;simp at h;simp [h]
  ·exact ho.1
theorem trod_ok:∀ (d n:Nat) (t:TypeId) (cs:List Value) (x:DataW H×List MemPlace),supp P d t=true->DataW.trod enc P w base spare held n t cs=some x->(∀ p∈x.2,Im p.block)->(∀ n∈x.1.weights P t,n<=reachBytes)->∃ ys,Cov w Im ys cs/\OKC P d t ys
 | 0,n,t,cs,x,hs,h,hp,hw=>by simp [supp] at hs
 | d+1,n,t,cs,x,hs,h,hp,hw=>by
  unfold supp at hs
  split at hs
  ·rename_i hu;cases n with
   | zero=>simp [DataW.trod] at h
   | succ n=>
    simp only [DataW.trod,hu] at h
    split at h<;>simp_all
    rename_i b;exact ⟨[.bool b],Cov.one (.bool b),by simp [OKC,hu]⟩
  ·rename_i k hu;cases n with
   | zero=>simp [DataW.trod] at h
   | succ n=>
    simp only [DataW.trod,hu] at h
    split at h<;>try (simp_all;done)
    rename_i k2 m he1 ;simp only [Y5,TypeDesc.int.injEq] at he1;subst he1
    split at h
    ·rename_i k' n' hk;obtain ⟨rfl,hwf⟩:=hk;exact ⟨[.int _ _],Cov.one (.int _ _),by simp [OKC,hu,hwf]⟩
    ·cases h
  ·rename_i hu;cases n with
   | zero=>simp [DataW.trod] at h
   | succ n=>
    simp only [DataW.trod,hu] at h
    split at h<;>try (simp_all;done)
    split at h
    ·rename_i s hk;exact ⟨[.str _],Cov.one (.str _),by simp [OKC,hu,hk]⟩
    ·cases h
  ·rename_i e hu;simp only [Y8,beq_iff_eq,bne_iff_ne,ne_eq] at hs;rcases DataW.trod_slice hu h with ⟨rfl,rfl⟩|⟨a,len,cap,elems,rest,m,rfl,rfl,rfl,hb,hl,hm,hlen,hel,hsp,hns⟩
   ·exact ⟨[.sl []],Cov.one .nil,by simp [OKC,hu]⟩
   ·by_cases h0:len=0
    ·subst h0;exact ⟨[.sl []],Cov.one (.empty a cap),by simp [OKC,hu]⟩
    ·have each:∀ i,i<len->∃ cs' ys,w.cells? base (a.add (i*P.cellsOf e)) (P.cellsOf e)=some cs'/\Cov w Im ys cs'/\OKC P d e ys:=by
      intro i hi;have h1:=hel i hi;obtain ⟨y,hy⟩ : ∃ y,elems[i]? = some y:=⟨_,Y3 (by omega)⟩
      rw [hy,Y2] at h1;obtain ⟨cs',hcs,ht⟩:=h1;obtain ⟨ys,h2,h3⟩:=trod_ok d m e cs' y hs.2 ht (λp hpm=>hp p (by
       refine Yx _ (List.mem_flatMap.2 ⟨y,Y00 _ (Y6 hy),hpm⟩))) (λn hn=>hw n (by
       simp only [DataW.weights,hu,List.mem_cons,Yb];exact .inr (.inl (Z5w (List.mem_map.2 ⟨y,Y6 hy,rfl⟩) n hn))))
      exact ⟨cs',ys,hcs,h2,h3⟩
     let F:Nat->List FV:=λi=>if hi:i<len then (each i hi).choose_spec.choose else []
     let C:Nat->List Value:=λi=>if hi:i<len then (each i hi).choose else []
     have hF:∀ i,i<len->w.cells? base (a.add (i*P.cellsOf e)) (P.cellsOf e)=some (C i)/\Cov w Im (F i) (C i)/\OKC P d e (F i):=by
      intro i hi;simp only [F,C,dif_pos hi];exact (each i hi).choose_spec.choose_spec
     have hFl:∀ i,i<len->(F i).length=P.cellsOf e:=λi hi=>OKC.length hs.2 (hF i hi).2.2;have hxs:∀ y∈(List.range len).map F,∃ i,i<len/\y=F i:=λy hy=>by
      obtain ⟨i,hi,rfl⟩:=List.mem_map.1 hy;exact ⟨i,List.mem_range.1 hi,rfl⟩
     refine ⟨[.sl ((List.range len).map F)],Cov.one ?_,?_⟩
     ·by_cases hz:P.cellsOf e=0
      ·exact absurd hz hs.1.2
      ·have hsp0:a.spot=none:=by
        have h1:=(World.cells?_some (hF 0 (by omega)).1).2.2 0 (by omega)
        have hl0:=(World.cells?_some (hF 0 (by omega)).1).2.1
        simp only [Nat.zero_mul,Addr.add,if_true] at h1;unfold World.cell? at h1
        split at h1
        ·split at h1
         ·have:(C 0)[0]? = none:=h1.symm;rw [List.getElem?_eq_none_iff] at this;omega
         ·rename_i hq;simpa using hq
        ·have:(C 0)[0]? = none:=h1.symm;rw [List.getElem?_eq_none_iff] at this;omega
       obtain ⟨bl,off,spot⟩:=a;simp only at hsp0;subst hsp0;have hcov:=FVR.sl (w:=w) (Imm:=Im) ((List.range len).map F) bl off cap (P.cellsOf e) (λi j=>(C i).getD j Go.undef) ?_ (by simpa using hl) (λy hy=>by
        obtain ⟨i,hi,rfl⟩:=hxs y hy;exact hFl i hi) (λi j hi hj=>?_) (λi j y x h1 h2=>?_)
       ·simpa using hcov
       ·refine hp (.cell bl (off+0)) (Y00 _ ?_);simp only [MemPlace.row,List.mem_map,List.mem_range];refine ⟨0,?_,rfl⟩;exact Nat.mul_pos (by omega) (by omega)
       ·simp only [YU,List.length_range] at hi;have h1:=(World.cells?_some (hF i hi).1).2.2 j hj;have hl0:=(World.cells?_some (hF i hi).1).2.1;have e1:(Addr.add (Addr.add ⟨bl,off,none⟩ (i*P.cellsOf e)) j)=⟨bl,off+i*P.cellsOf e+j,none⟩:=by
         simp only [Z1M]
        rw [e1] at h1;rw [h1,Y3 (by omega)]
        simp [List.getD,Y3 (show j<(C i).length by omega)]
       ·rw [YI,Y0] at h1;obtain ⟨i',hi',rfl⟩:=h1;have hi2:=List.mem_range.1 (Y6 hi');have:i'=i:=by
         rw [List.getElem?_eq_some_iff] at hi';obtain ⟨q1,q2⟩:=hi'
         simpa using q2.symm
        subst this;have hj:j<(C i').length:=by
         rw [<- (hF i' hi2).2.1.1];exact (List.getElem?_eq_some_iff.1 h2).1
        refine (hF i' hi2).2.1.2 j x _ h2 ?_;rw [Y3 hj];simp [List.getD,Y3 hj]
     ·simp only [OKC,hu];refine ⟨_,rfl,?_,λy hy=>?_⟩
      ·have h1:=hw ((elems.length+rest.length)*P.bytesOf e) (by simp [DataW.weights,hu])
       refine YT (YS _ ?_) h1
       simp;omega
      obtain ⟨i,hi,rfl⟩:=hxs y hy;exact (hF i hi).2.2
  ·rename_i fs hu;simp only [Y8,beq_iff_eq,YC] at hs;obtain ⟨xs,m,rfl,rfl,hl,hx,hf⟩:=DataW.trod_struct hu h;obtain ⟨ys,hc,ho⟩:=fields_ok (cs:=cs) (λt cs x h1 h2 h3 h4=>trod_ok d m t cs x h1 h2 h3 h4) fs.toList 0 (P.cellsOf t) hs.2 (by omega) hs.1 (λf hfm=>by
    obtain ⟨i,hi⟩:=YD hfm;have hi':fs[i]? = some f:=by simpa using hi
    have h1:=hf i f hi';have hlt:i<xs.length:=by
     have:=(Array.getElem?_eq_some_iff.1 hi').1;omega
    rw [Y3 hlt] at h1;exact ⟨_,h1,λp hpm=>hp p (List.mem_flatMap.2 ⟨_,Ya hlt,hpm⟩),λn hn=>hw n (by
     simp only [DataW.weights,hu];exact DataW.weights_mem_each (j:=i) (t:=f.type) (d:=(xs[i]).1) (by simp [hi]) (by simp [hlt]) n hn)⟩)
   rw [List.drop_zero,Nat.sub_zero,Y0I (by omega)] at hc
   refine ⟨ys,hc,?_⟩;simp only [OKC,hu];exact ⟨hc.1.trans hl,λf hfm=>by simpa using (ho f hfm).2⟩
  ·cases hs
end
def okI (k:IntKind) (x:Int):Prop:=k.min<=x/\x<=k.max
def okB (_:Bool):Prop:=True
def okS (x:ByteArray):Prop:=x.size<=maxLen
def okL {α:Type} (b:Nat) (p:α->Prop) (xs:List α):Prop:=xs.length*b<=reachBytes/\∀ x∈xs,p x
def Dec (P:Program) {α:Type} (t:TypeId) (c:α->List FV) (ok:α->Prop):Prop:=∀ d ys,OKC P d t ys->∃ x,ys=c x/\ok x
section
variable {P:Program} {t e:TypeId}
theorem Dec.int {k:IntKind} (h:P.underlying t=some (.int k)):Dec P t (cI k) (okI k):=λd ys ho=>by
 cases d with
 | zero=>exact ho.elim
 | succ d=>
  simp only [OKC,h] at ho;obtain ⟨m,rfl,hw⟩:=ho;exact ⟨m,rfl,by simpa [Lit.wf,okI] using hw⟩
theorem Dec.bool (h:P.underlying t=some .bool):Dec P t cB okB:=λd ys ho=>by
 cases d with
 | zero=>exact ho.elim
 | succ d=>
  simp only [OKC,h] at ho;obtain ⟨m,rfl⟩:=ho;exact ⟨m,rfl,trivial⟩
theorem Dec.str (h:P.underlying t=some .string):Dec P t cS okS:=λd ys ho=>by
 cases d with
 | zero=>exact ho.elim
 | succ d=>
  simp only [OKC,h] at ho;obtain ⟨m,rfl,hw⟩:=ho;exact ⟨m,rfl,hw⟩
theorem Dec.sl {α:Type} {c:α->List FV} {ok:α->Prop} {b:Nat} (h:P.underlying t=some (.slice e)) (hb:P.bytesOf e=b) (he:Dec P e c ok):Dec P t (cL c) (okL b ok):=λd ys ho=>by
 cases d with
 | zero=>exact ho.elim
 | succ d=>
  simp only [OKC,h] at ho;obtain ⟨xs,rfl,hl,hx⟩:=ho;have:∀ xs:List (List FV),(∀ x∈xs,OKC P d e x)->∃ as_:List α,xs=as_.map c/\∀ a∈as_,ok a:=by
   intro xs
   induction xs with
   | nil=>intro _;exact ⟨[],rfl,by simp⟩
   | cons x xs ih=>
    intro hx;obtain ⟨a,rfl,ha⟩:=he d x (hx x YN);obtain ⟨as_,rfl,has⟩:=ih λy hy=>hx y (YH _ hy);exact ⟨a::as_,rfl,λb hb=>by
     rcases List.mem_cons.1 hb with rfl|hb
     ·exact ha
     ·exact has b hb⟩
  obtain ⟨as_,rfl,has⟩:=this xs hx;exact ⟨as_,rfl,by subst hb;simpa using hl,has⟩
theorem fld (ys:List FV) (o s:Nat):(ys.drop o).take s++ys.drop (o+s)=ys.drop o:=by
 rw [<- List.drop_drop];exact Y08 s (ys.drop o)
theorem fld_nil {ys:List FV} {n:Nat} (h:ys.length=n):ys.drop n=[]:=Y0J (by omega)
end
theorem pvr_agg {P:Program} {t:TypeId} {W:World} {base:Nat} {v:Value} {s:St} {ys:List FV} {fs:Array Field} (hu:P.underlying t=some (.struct fs)) (hval:Value.okWide P W .any base t v) (hs:s.w=W) (hc:Cov W s.imm ys v.cells.toList):PVR s (.agg (vs ys)) v:=by
 unfold Value.okWide at hval
 rw [hu] at hval
 obtain ⟨cs,rfl,_,_⟩:=hval
 obtain ⟨hl,hc⟩:=hc
 subst hs
 simp only [Value.cells,Ys] at hl hc
 have each:∀ (i:Nat) (u:Value),cs[i]? = some u->∃ y,ys[i]? = some y/\FVR s.w s.imm y u:=λi u hu=>by
  have hi:=(Array.getElem?_eq_some_iff.1 hu).1;exact ⟨ys[i],Y3 (by omega),hc i _ u (Y3 (by omega)) (by simpa using hu)⟩
 refine .agg (by rw [Zw];exact hl) (λi x hx=>?_) (λi u hu=>(each i u hu).choose_spec.2.Z2S)
 rw [vs_get,Y0] at hx
 obtain ⟨y,hy,rfl⟩:=hx
 have hi:=(List.getElem?_eq_some_iff.1 hy).1
 refine .v (hc i y _ hy ?_)
 rw [Yw,YV (by omega),Y7,YV (by omega)]
 rfl
theorem pvr_one {P:Program} {t:TypeId} {W:World} {base:Nat} {v:Value} {s:St} {y:FV} (hu:(match P.underlying t with|some .bool|some (.int _)|some .string|some (.slice _)=>true|_=>false)=true) (hval:Value.okWide P W .any base t v) (hs:s.w=W) (hc:Cov W s.imm [y] v.cells.toList):PVR s (.v y) v:=by
 subst hs
 have hv:v.cells.toList=[v]:=by
  unfold Value.okWide Cell.okWide Cell.ok at hval
  split at hu
  all_goals (first|(rename_i h1;rw [h1] at hval)|skip)
  ·cases v<;>first|rfl|exact hval.elim
  ·cases v<;>first|rfl|exact hval.elim
  ·cases v<;>first|rfl|exact hval.elim
  ·cases v<;>first|rfl|exact hval.elim
  ·cases hu
 rw [hv] at hc
 exact .v (hc.2 0 y v rfl rfl)
end Go.Dn

namespace Go.Dn
open Go
def cloneA (t b : TypeId) : Code := .region 0 #[{ dst := some 2, op := .assign (.const (.slice none 0 0)), type := t, pos := "slices.go:355", after := #[], guard := none }] false
def Z1v (t b : TypeId) : Array Oper := #[{ dst := some 3, op := .move (.tmp 0), type := t, pos := "slices.go:357", after := #[], guard := none },
 { dst := some 4, op := .binOp .eql t (.tmp 3) (.const (.slice none 0 0)) t, type := b, pos := "slices.go:357", after := #[{ on := 0, ground := .data }], guard := none }]
def cloneC (t : TypeId) : Code := .cond (.tmp 4) ((Code.region 2 #[{ dst := some 2, op := .assign (.const (.slice none 0 0)), type := t, pos := "slices.go:358", after := #[], guard := none }] false).seq .ret) .skip
def cloneD (t:TypeId):Code:=(Code.region 3
 #[{ dst := some 5, op := .buildSlice t 0 #[], type := t, pos := "slices.go:362", after := #[], guard := none },
  { dst := some 6, op := .move (.tmp 0), type := t, pos := "slices.go:362", after := #[], guard := none },
  { dst := some 7, op := .call { callee := .builtin .append, args := #[.tmp 5, .tmp 6], argTypes := #[t, t] }, type := t, pos := "slices.go:362", after := #[{ on := 0, ground := .data }, { on := 1, ground := .data }], guard := none },
  { dst := some 2, op := .assign (.tmp 7), type := t, pos := "slices.go:362", after := #[{ on := 2, ground := .data }, { on := 2, ground := .chain }, { on := 0, ground := .phase }, { on := 1, ground := .phase }, { on := 2, ground := .phase }], guard := none }] false).seq .ret
def cloneBody (t b:TypeId):Code:=(cloneA t b).seq (((Code.region 1 (Z1v t b) false).seq (cloneC t)).seq (cloneD t))
structure CloneT (P:Program) (t el:TypeId) (sz by_:Nat) (zs:List PV):Prop where
 ht:tslice P t=some el
 hs:tsize P el=some sz
 hb:tbytes P el=some by_
 hz:tzero P el=some zs
 hc:(sz != 0&&by_ != 0&&zs.length==sz)=true
variable {X:Ctx} {fn:FuncId} {t b el:TypeId} {sz by_:Nat} {zs:List PV}
theorem cloneD_runs (hT:CloneT X.P t el sz by_ zs) {xs:List (List FV)} (hl:xs.all (λy=>y.length==sz)=true) (hroom:xs.length*by_<=room) {e:Env} {G:Heap} (h0:e 0 = .v (.sl xs)) :
  Runs X 8 fn (cloneD t) e G λx e' G'=>x = .ret/\∃ (lo hi:Nat) (L:List Res) (k:Nat),Has G' lo hi L/\L[k]? = some (.sl (e' 2) el sz xs true):=by
 have hc:=hT.hc
 simp only [Y8,beq_iff_eq,bne_iff_ne,ne_eq] at hc
 have H:Hs G []:=Has.nil (YA _)
 obtain ⟨e0,rfl⟩:=(show ZC e [(0,.v (.sl xs))] from ⟨h0,trivial⟩).ex
 show Runs X 8 fn (Code.seq _ _) _ _ _
 apply Runs.then
 refine Runs.Z9 4 rfl H ?_;intro b1 G H
 refine Ops.Z3C (zs:=zs) (sz:=sz) (pp:=[]) [] H (by omega) (by omega) hT.ht rfl hT.hs hT.hz (by simp only [Y8,beq_iff_eq,bne_iff_ne,ne_eq];exact ⟨⟨hc.2,hc.1.1⟩,by simp⟩) rfl rfl rfl rfl ?_;intro G H
 refine Ops.move (v:=.v (.sl xs)) rfl rfl ?_
 refine Ops.appendS (v:=.buf (b1+0) 0 sz) (w:=.v (.sl xs)) (xs:=[]) (ys:=xs) H (by omega) (by omega) 0 rfl rfl rfl (.p hl) hT.ht hT.hs hT.hb hT.hz hT.hc (by simpa using hroom) nofun rfl ?_;intro w G H
 refine Ops.assign (v:=w) rfl rfl ?_
 apply Ops.nil
 apply Runs.ret
 exact ⟨rfl,_,_,_,0,H,rfl⟩
theorem cloneOps_wp {s:St} {e:Env} {a:Act} (hX:CtxOK X) (hG:Zp X s) (hi:Inv s) (he:EnvR s 8 e a) (hT:CloneT X.P t el sz by_ zs) {xs:List (List FV)} (h0:e 0 = .v (.sl xs)) {Q:Exit->Act->World->Prop}
  (hQ:∀ (o:Option Addr) (a':Act) (w':World) (D':Nat->Nat),(o=none->xs=[])->Then s 8 a (putD 8 (putD 8 e (some 3) (.v (.sl xs))) (some 4) (.v (.bool o.isNone))) ⟨s.G.nx+2,s.G.ent⟩ a' w' D'->Q .normal a' w') :
  (Code.region 1 (Z1v t b) false).wp X.P Q a s.w:=by
 refine (wpIn_wide (n:=0)).1 (wpIn_region ?_)
 have hi':=Z3s hi 2
 have he':=he.mono (Z0z (s:=s) 2)
 have hG':=hG.mono (Z0z (s:=s) 2)
 have st : Zv X (Zm X) 8 (Z1v t b) s.G.nx 0 { dst := some 3, op := .move (.tmp 0), type := t, pos := "slices.go:357", after := #[], guard := none } e (s.more 2).G = some (putD 8 e (some 3) (.v (.sl xs)), (s.more 2).G) := by
  simp only [Zv,ZP,Z2,Z1,h0,Y9,Y1]
 have first:=stepO_ok (m:=0) (Q:=Q) (rd:=none) (s:=s.more 2) (a:=a) (callL_ok hX) hG' hi' he' (hi.nx _ (by omega)) (by simp only [St.more];omega) st (K:=wpOpsIn (Fw none) 0 X.P (Z1v t b) Q [1]) ?_
 ·have h0' : (Z1v t b)[0]? = some { dst := some 3, op := .move (.tmp 0), type := t, pos := "slices.go:357", after := #[], guard := none } := rfl
  have hr:List.range (Z1v t b).size=[0,1]:=rfl;rw [hr];simp only [wpOpsIn,h0'];exact first
 ·intro a1 w1 D1 ht;have hn := ht.env;have hw : Region.wanted ⟨some 4, .binOp .eql t (.tmp 3) (.const (.slice none 0 0)) t, b, "slices.go:357", #[{ on := 0, ground := .data }], none⟩ (yielded (Z1v t b) a1.tmps) = true := rfl
  have h1' : (Z1v t b)[1]? = some ⟨some 4, .binOp .eql t (.tmp 3) (.const (.slice none 0 0)) t, b, "slices.go:357", #[{ on := 0, ground := .data }], none⟩ := rfl
  simp only [wpOpsIn,h1'];rw [if_pos hw];have hp:PVR ⟨w1,(s.more 2).Y,(s.more 2).G,D1⟩ (.v (.sl xs)) (a1.eval (.tmp 3)):=by
   refine Z6 (X:=X) (hG.mono ((Z0z (s:=s) 2).trans ht.ev)) hn ?_;simp [Z1,putD,upd]
  obtain ⟨o, cap, hv, hcap, hf⟩ := sl_inv hp;have hs : ∀ o4 : Oper, o4 = ⟨some 4, .binOp .eql t (.tmp 3) (.const (.slice none 0 0)) t, b, "slices.go:357", #[{ on := 0, ground := .data }], none⟩ → o4.uponIn (Fw none) 0 X.P a1 (Z3X ⟨w1, (s.more 2).Y, (s.more 2).G, D1⟩ a1 (some 4) (.v (.bool o.isNone)) (s.more 2).G) Q ((o4.semAt (Fw none).round a1.eval).run X.P w1) := by
   intro o4 ho4;have hop:o4.op = .binOp .eql t (.tmp 3) (.const (.slice none 0 0)) t:=by rw [ho4]
   have hd4:o4.dst=some 4:=by rw [ho4]
   rw [Oper.semAt_eq _ _ _ (by intro c hc;rw [hop] at hc;cases hc)]
   simp only [execOp,hop];rw [<- hd4];refine Z0Z (s:=⟨w1,(s.more 2).Y,(s.more 2).G,D1⟩) ht.inv ?_;rw [hv];have hg:(eqGuard .eql t (.tmp 3) (.const (.slice none 0 0)) (.slice o xs.length cap) (.slice none 0 0)).run X.P w1 = .ok () w1:=by simp [eqGuard]
   refine ⟨.bool o.isNone,?_,.v (.bool _)⟩;show (do eqGuard .eql t (.tmp 3) (.const (.slice none 0 0)) (.slice o xs.length cap) (.slice none 0 0);binOp .eql t (.slice o xs.length cap) (.slice none 0 0):Sem Value).run X.P w1=_;simp only [Sem.run_bind,hg,Result.andThen_ok];exact (Z1B (eqNil 9999 (Z0D hT.ht) o xs.length cap w1) (.inr (.inr (.inl ⟨_,_,_,_,_,_,rfl,rfl⟩)))).1
  refine Oper.wpIn_mono (K:=Z3X ⟨w1,(s.more 2).Y,(s.more 2).G,D1⟩ a1 (some 4) (.v (.bool o.isNone)) (s.more 2).G) (λa' w' hh=>?_) ⟨λ_ _=>trivial,hs _ rfl⟩;obtain ⟨v,rfl,D',h2,h3,h4⟩:=hh;refine hQ o _ w' D' (λho=>?_) ⟨h2,((Z0z (s:=s) 2).trans ht.ev).trans h3,(hn.mono h3).put h4,(Z4f _ _ _).trans ht.defers⟩
  subst ho;generalize hz:Value.slice none xs.length cap=z at hf;cases hf with
  | nil=>rfl
  | empty=>rfl
  | sl=>cases hz
theorem Z3v (hX:CtxOK X) {f:FuncId} {fu:Func} (hf:X.P.funcs[f]? = some fu) (hb:fu.body=some (cloneBody t b)) (hn:fu.ntmps=8) (hr:fu.results = #[.tmp 2]) (hg:∀ g,X.glob g=none)
  (hT:CloneT X.P t el sz by_ zs) {s:St} (hi:Inv s) {xs:List (List FV)} {v:Value} (hl:xs.all (λy=>y.length==sz)=true) (hroom:xs.length*by_<=room) (hv:PVR s (.v (.sl xs)) v) :
  Calls X.P f #[v] s.w λen w'=>∃ v',en = .returned v'/\Post s (.v (.sl xs)) s.G v' w':=by
 have hv1:PVRs s.under [.v (.sl xs)] #[v]:=⟨rfl,λi x hx=>by
  cases i with
  | zero=>cases hx;exact Z5i rfl hv
  | succ i=>simp at hx⟩
 have hiu:=Z5f hi
 have he:=env_of (s:=s.under) (k:=8) hv1
 have hG:∀ s,Zp X s:=λs g cells h=>by rw [hg] at h;cases h
 refine (callsIn_wide (n:=0)).1 (callsIn_of_wp_marks hf hb trivial ?_ rfl)
 rw [hn]
 refine wpIn_wide.2 ?_
 have fin:∀ e G a' w D (G3:Heap),Aft s.under 8 { tmps:=#[v]++Array.replicate (8-(#[v] : Array Value).size) undef,defers:=[] } e G a' w D->Z05 G (e 2)=some (.v (.sl xs),G3) ->
   bodyPostM Fence.wide 0 X.P fu (λen w'=>∃ v',en = .returned v'/\Post s (.v (.sl xs)) s.G v' w') .ret a' w:=by
  intro e G a' w D G3 ht h4;refine leaves_ok (X:=X) (fu:=fu) (xs:=[e 2]) rfl ht (by rw [hr];rfl) λv w' hp=>⟨v,rfl,?_⟩
  exact Z6K hi hp h4
 refine wp_seq ?_
 refine wp_mono (code_wp (X:=X) (s:=s.under) hX (fn:=f) (hG _) hiu he (Q:=λex e' G'=>ex = .normal/\e' 0 = .v (.sl xs)) ?_) ?_
 ·show Runs X 8 f (Code.region 0 (List.toArray [_]) false) _ ⟨0,λ_=>.none⟩ _;refine Runs.region rfl ?_;refine Ops.assign (v:=.nils) rfl rfl ?_;exact Ops.nil ⟨rfl,rfl⟩
 rintro ex a1 w1 ⟨x1,e1,G1,D1,⟨rfl,k0⟩,rfl,ht1⟩
 simp only [Ex.out,Exit.then]
 refine wp_seq (wp_seq ?_)
 refine cloneOps_wp (s:=⟨w1,s.under.Y,G1,D1⟩) hX (hG _) ht1.inv ht1.env hT k0 ?_
 intro o a2 w2 D2 ho ht2
 have ht12:=ht1.trans ht2.aft
 simp only [Exit.then]
 generalize he2:putD 8 (putD 8 e1 (some 3) (.v (.sl xs))) (some 4) (.v (.bool o.isNone))=e2 at ht2 ht12
 have q0:e2 0 = .v (.sl xs):=by rw [<- he2];simpa [putD,upd] using k0
 have q4:e2 4 = .v (.bool o.isNone):=by rw [<- he2];simp [putD,upd]
 refine wp_mono (code_wp (X:=X) (s:=⟨w2,s.under.Y,⟨G1.nx+2,G1.ent⟩,D2⟩) hX (fn:=f) (hG _) ht2.inv ht2.env (Q:=λex e' G'=>(xs=[]/\ex = .ret/\e' 2 = .nils)\/(ex = .normal/\e' 0 = .v (.sl xs))) ?_) ?_
 ·cases o with
  | none=>
   refine Runs.yes (by simp only [Z1,q4];rfl) ?_
   refine Runs.then ?_;refine Runs.region (l:=[_]) rfl ?_;refine Ops.assign (v:=.nils) rfl rfl ?_;refine Ops.nil ?_;refine Runs.ret ?_;exact .inl ⟨ho rfl,rfl,rfl⟩
  | some o=>
   refine Runs.no (by simp only [Z1,q4];rfl) ?_
   exact Runs.skip (.inr ⟨rfl,q0⟩)
 rintro ex a3 w3 ⟨x3,e3,G3,D3,hq,rfl,ht3⟩
 have ht13:=ht12.trans ht3
 rcases hq with ⟨rfl,rfl,k2⟩|⟨rfl,k3⟩
 ·simp only [Ex.out,Exit.then];exact fin e3 G3 a3 w3 D3 G3 ht13 (by rw [k2];rfl)
 ·simp only [Ex.out,Exit.then];refine wp_mono (code_wp (X:=X) (s:=⟨w3,s.under.Y,G3,D3⟩) hX (fn:=f) (hG _) ht3.inv ht3.env (cloneD_runs hT hl hroom k3)) ?_;rintro ex a4 w4 ⟨x4,e4,G4,D4,⟨rfl,lo,hi4,L,k,H4,hk⟩,rfl,ht4⟩;obtain ⟨G5,q,_⟩:=expR_ok H4 (ExpR.one (.c (.s k hk)));exact fin e4 G4 a4 w4 D4 G5 (ht13.trans ht4) q
end Go.Dn

namespace Go.Dn
open Go
theorem Has.perm {G:Heap} {lo hi:Nat} {L L':List Res} (H:Has G lo hi L) (hp:L.Perm L'):Has G lo hi L':=by
 have mem:∀ {A:List Res},(∀ (k:Nat) (r:Res),A[k]? = some r->r.holds G) ↔ ∀ r∈A,r.holds G:=λ{A}=>
  ⟨λh r hr=>by obtain ⟨k,hk⟩:=YD hr;exact h k r hk,λh k r hk=>h r (Y6 hk)⟩
 have pw:L.Pairwise (λr s=>∀ id,r.owner=some id->s.owner≠some id):=by
  rw [Yv];intro i j hi' hj hij;exact H.sep i j _ _ (by omega) (Y3 hi') (Y3 hj)
 have pw':L'.Pairwise (λr s=>∀ id,r.owner=some id->s.owner≠some id):=(hp.pairwise_iff (λ{a b} h id h1 h2=>h id h2 h1)).1 pw
 refine ⟨mem.2 λr hr=>mem.1 H.holds r (hp.mem_iff.2 hr),λk r hk=>?_,λi j r s hij h1 h2=>?_,H.le⟩
 ·obtain ⟨k',hk'⟩:=YD (hp.mem_iff.2 (Y6 hk));exact H.lt k' r hk'
 ·obtain ⟨hi',rfl⟩:=List.getElem?_eq_some_iff.1 h1;obtain ⟨hj',rfl⟩:=List.getElem?_eq_some_iff.1 h2;rw [Yv] at pw';rcases YF i j with h|h
  ·exact pw' i j hi' hj' h
  ·intro id h3 h4;exact pw' j i hj' hi' (by omega) id h4 h3
def pdOf:Ex->Option Code
 | .normal=>none
 | .exit t=>some (.exit t)
 | .ret=>some .ret
theorem Has.slCells {G:Heap} {lo hi:Nat} {L:List Res} {k:Nat} {v:PV} {et:TypeId} {sz:Nat} {xs:List (List FV)} {lv:Bool} (H:Has G lo hi L) (h:L[k]? = some (.sl v et sz xs lv)):v.cells=some [v]:=by
 rcases (H.holds k _ h).2 with ⟨rfl,_⟩|⟨id,rfl,_⟩<;>rfl
theorem Runs.env {X:Ctx} {n:Nat} {fn:FuncId} {c:Code} {e:Env} {G:Heap} {Q:Ex->Env->Heap->Prop} (l:List (Nat×PV)) (he:ZC e l) (h:∀ e0,Runs X n fn c (sets e0 l) G Q):Runs X n fn c e G Q:=by
 obtain ⟨e0,rfl⟩:=he.ex
 exact h e0
section
variable {X:Ctx}
def YldH (X:Ctx) (id:Nat) {S T:Type} (C:S->List Res->Prop) (pvT:T->List PV) (y:S->T->Option (S×Bool)):Prop :=
 ∀ s t s' b,y s t=some (s',b)->∀ G lo hi O L,C s L->Has G lo hi (O++L)->∃ G' L',Zm X (.yld id) (pvT t) G=some (.v (.bool b),G')/\C s' L'/\Hs G' (O++L')
def ItF (X:Ctx) (f:FuncId) (args:List PV) {S:Type} (C:S->List Res->Prop) (s s':S):Prop :=
 ∀ G L,C s L->Hs G L->∃ G' L',Zm X (.fn f) args G=some (.tup [],G')/\C s' L'/\Hs G' L'
structure EndsI {S:Type} (C:S->List Res->Prop) (s:S) (x:Ex) (e:Env) (G:Heap):Prop where
 out:(x = .normal\/x = .ret)/\∃ L,C s L/\Hs G L
theorem EndsI.H {S:Type} {C:S->List Res->Prop} {s:S} {x:Ex} {e:Env} {G:Heap} {lo hi:Nat} {L L0:List Res} (hx:x = .normal\/x = .ret) (H:Has G lo hi L) (k:Nat) (hk:L.drop k=L0) (hC:C s L0):EndsI C s x e G :=
 ⟨hx,L0,hC,(hk▸H.drop k:Has G lo hi L0).all⟩
theorem ItF.of {f:FuncId} {args:List PV} {S:Type} {C:S->List Res->Prop} {s s':S} {fu:Func} {c:Code} {m:Nat} (hf:X.P.funcs[f]? = some fu) (hb:fu.body=some c) (hr:fu.results = #[]) (hi:X.intr f args=none) (hk:X.keep f=false) (ho:X.opn f=false) (hs:args.all PV.still=true)
  (hp:args.all PV.pure=false) (hm:max fu.ntmps args.length=m) (h:∀ G L,C s L->Hs G L->Runs X m f c (Z2t args) G (EndsI C s')) (hq:X.prim f=none:=by rfl):ItF X f args C s s':=by
 subst hm
 intro G L hC H
 obtain ⟨lf,x,e',G1,h1,hE⟩:=(h G L hC H).run
 obtain ⟨hx,L',hC',H'⟩:=hE.out
 refine ⟨G1,L',Z0m (lf:=lf) ?_,hC',H'⟩
 have hbody:Z02 X (Zm X) lf f args G=some (.tup [],G1):=by
  simp only [Z02,hq,hf,hb,h1];rcases hx with rfl|rfl<;>simp [hr,ZY,Z0J]
 simp only [Z2K,hi,hk,Y0E,YB,if_false,Z2g hs,ho,hp,hbody,Y1]
 rfl
section
variable {n:Nat} {dr:Bool} {fn:FuncId} {ops:Array Oper} {base i:Nat} {l:List Oper} {e:Env} {G:Heap} {K:Env->Heap->Prop} {Q:Ex->Env->Heap->Prop}
variable {d:Nat} {t:TypeId} {p:String} {af:Array Edge} {x:Operand} {lo hi:Nat} {L:List Res}
end
def RangeC (id:Nat) (fn:FuncId) (e:Env) (n:Nat) (ps:List Nat) (as_ bo:Code) {S:Type} (Co:S->List Res->Prop) (pd:Nat->Option Code):S×Nat->List Res->Prop :=
 λs L=>∃ M,Co s.1 M/\L = .loop id fn e n ps as_ bo (if s.2=0 then .ready else .done) (pd s.2)::M
variable {n:Nat} {fn:FuncId} {e:Env} {G:Heap} {Q:Ex->Env->Heap->Prop}
def BodyOK (X:Ctx) (n:Nat) (fn:FuncId) (e:Env) (ps:List Nat) (as_ bo:Code) {S T:Type} (Co:S->List Res->Prop) (pvT:T->List PV) (yb:S->T->Option (S×Nat)) (pd:Nat->Option Code):Prop :=
 ∀ (R0 R1:Res) s t s' p,yb s t=some (s',p)->∀ G M O,Co s M->Hs G (R0::(M++O)) ->
  Runs X n fn as_ (Z1p e n ps (pvT t)) G λx e1 G1=>x = .normal/\∃ M1,Hs G1 (R0::(M1++O)) /\
   ∀ G2,Hs G2 (R1::(M1++O))->Runs X n fn bo e1 G2 λx e2 G3=>(pdOf x=pd p/\(x = .normal↔p=0))/\∃ M2,Co s' M2/\Hs G3 (R1::(M2++O))
theorem callO_of {f:FuncId} {args:List PV} {fu:Func} {c:Code} {m:Nat} {G:Heap} {Post:PV->Heap->Prop} (hf:X.P.funcs[f]? = some fu) (hb:fu.body=some c) (hi:X.intr f args=none) (hk:X.keep f=false) (ho:X.opn f=true) (hp:args.all PV.pure=true) (hm:max fu.ntmps args.length=m)
  (h:Runs X m f c (Z2t args) G λx e G'=>(x = .normal\/x = .ret)/\∃ xs,ZY X.P e G' fu.results.toList=some xs/\Post (Z0J xs) G') (hq:X.prim f=none:=by rfl) (hfr:X.fresh f=false:=by rfl):∃ r G',Zm X (.fn f) args G=some (r,G')/\Post r G':=by
 subst hm
 obtain ⟨lf,x,e',G1,h1,hx,xs,h2,h3⟩:=h.run
 refine ⟨Z0J xs,G1,Z0m (lf:=lf) ?_,h3⟩
 have hbody:Z02 X (Zm X) lf f args G=some (Z0J xs,G1):=by
  simp only [Z02,hq,hf,hb,h1];rcases hx with rfl|rfl<;>simp only [h2,Y9]
 simp only [Z2K,hi,hk,YB,if_false,Z0c hp,ho,if_true,hfr,Y0E,hbody]
end
end Go.Dn

namespace Go.Dn
open Go
theorem Has.pickT {G:Heap} {lo hi:Nat} {T:List Res} (A:List Res) (ks:List Nat) (hn:ks.Nodup) (hk:ks.all (Nat.blt · A.length)=true) (H:Has G lo hi (A++T)):Has G lo hi (Dn.pick A ks++T):=by
 have hk':∀ k∈ks,k<A.length:=λk h=>by
  have:=List.all_eq_true.1 hk k h;exact Ym this
 have h:=H.pick (ks++(List.range T.length).map (A.length+·)) (by
  refine List.nodup_append.2 ⟨hn,?_,?_⟩
  ·exact List.Pairwise.map _ (λa b hab=>by omega) List.nodup_range
  ·intro a ha b hb;obtain ⟨j,_,rfl⟩:=List.mem_map.1 hb;have:=hk' a ha;omega)
 have fc:∀ (f g:Nat->Option Res) (l:List Nat),(∀ k∈l,f k=g k)->l.filterMap f=l.filterMap g:=by
  intro f g l
  induction l with
  | nil=>intro _;rfl
  | cons k l ih=>
   intro h;rw [List.filterMap_cons,List.filterMap_cons,h k YN,ih λk hk=>h k (YH _ hk)]
 have fr:∀ (T:List Res),List.filterMap (λj=>T[j]?) (List.range T.length)=T:=by
  intro T
  induction T with
  | nil=>rfl
  | cons r T ih=>
   rw [Yc,List.range_succ_eq_map,List.filterMap_cons,List.filterMap_map];simp only [List.getElem?_cons_zero]
   congr 1
 have e:Dn.pick (A++T) (ks++(List.range T.length).map (A.length+·))=Dn.pick A ks++T:=by
  unfold Dn.pick;rw [List.filterMap_append]
  congr 1
  ·exact fc _ _ _ λk hm=>YJ (hk' k hm)
  ·rw [List.filterMap_map];refine Eq.trans (fc _ _ _ λj _=>?_) (fr T);simp [Function.comp,YP]
 rw [<- e];exact h
theorem Has.mem {G:Heap} {lo hi:Nat} {L:List Res} (H:Has G lo hi L):∀ r∈L,r.holds G/\∀ id,r.owner=some id->(id<lo\/hi<=id)/\id<G.nx:=λr hr=>by
 obtain ⟨k,hk⟩:=YD hr
 exact ⟨H.holds k r hk,H.lt k r hk⟩
abbrev Apart (r s:Res):Prop:=∀ id,r.owner=some id->s.owner≠some id
theorem Has.pw {G:Heap} {lo hi:Nat} {L:List Res} (H:Has G lo hi L):L.Pairwise Apart:=by
 rw [Yv]
 intro i j hi' hj hij
 exact H.sep i j _ _ (by omega) (Y3 hi') (Y3 hj)
theorem Has.mk' {G:Heap} {lo hi:Nat} {L:List Res} (hm:∀ r∈L,r.holds G/\∀ id,r.owner=some id->(id<lo\/hi<=id)/\id<G.nx) (hp:L.Pairwise Apart) (hle:hi<=G.nx):Has G lo hi L:=by
 refine ⟨λk r hk=>(hm r (Y6 hk)).1,λk r hk=>(hm r (Y6 hk)).2,λi j r s hij h1 h2=>?_,hle⟩
 obtain ⟨hi',rfl⟩:=List.getElem?_eq_some_iff.1 h1
 obtain ⟨hj',rfl⟩:=List.getElem?_eq_some_iff.1 h2
 rw [Yv] at hp
 rcases YF i j with h|h
 ·exact hp i j hi' hj' h
 ·intro id h3 h4;exact hp j i hj' hi' (by omega) id h4 h3
def holes (lo hi:Nat):List Res:=.floor hi::(List.range (hi-lo)).map λj=>.hole (lo+j)
theorem mem_holes {lo hi:Nat} {r:Res} (h:r∈holes lo hi):r = .floor hi\/∃ id,r = .hole id/\lo<=id/\id<hi:=by
 rcases List.mem_cons.1 h with h|h
 ·exact .inl h
 ·obtain ⟨j,hj,rfl⟩:=List.mem_map.1 h;have:=List.mem_range.1 hj;exact .inr ⟨_,rfl,by omega,by omega⟩
theorem Has.holesIn {G:Heap} {lo hi:Nat} {L:List Res} (H:Has G lo hi L):Hs G (L++holes lo hi):=by
 refine Has.mk' (λr hr=>?_) ?_ (YA _)
 ·rcases List.mem_append.1 hr with h|h
  ·exact ⟨(H.mem r h).1,λid ho=>⟨.inl ((H.mem r h).2 id ho).2,((H.mem r h).2 id ho).2⟩⟩
  ·rcases mem_holes h with rfl|⟨id,rfl,h1,h2⟩
   ·exact ⟨H.le,λid ho=>by cases ho⟩
   ·refine ⟨trivial,λid' ho=>?_⟩;cases ho;have:=H.le;exact ⟨.inl (by omega),by omega⟩
 ·refine List.pairwise_append.2 ⟨H.pw,?_,?_⟩
  ·refine List.pairwise_cons.2 ⟨λr _ id ho=>(by cases ho),?_⟩
   refine List.Pairwise.map _ ?_ List.nodup_range;intro a b hab id h1 h2;have h1:lo+a=id:=Option.some.inj h1;have h2:lo+b=id:=Option.some.inj h2;omega
  ·intro r hr s hs id h1 h2;have:=((H.mem r hr).2 id h1).1;rcases mem_holes hs with rfl|⟨id',rfl,h3,h4⟩
   ·cases h2
   ·cases h2;omega
theorem Has.holesOut {G:Heap} {lo hi:Nat} {A L:List Res} (H:Hs G (A++(L++holes lo hi))):Has G lo hi (A++L):=by
 rw [<- Yq] at H
 have hp:=List.pairwise_append.1 H.pw
 refine Has.mk' (λr hr=>?_) hp.1 ?_
 ·have h1:=H.mem r (Y00 _ hr);refine ⟨h1.1,λid ho=>⟨?_,(h1.2 id ho).2⟩⟩;rcases YF id lo with h|h
  ·exact .inl h
  ·rcases YF id hi with h'|h'
   ·exact absurd rfl (hp.2.2 r hr (.hole id) (YH _ (List.mem_map.2 ⟨id-lo,List.mem_range.2 (by omega),by congr 1;omega⟩)) id ho)
   ·exact .inr h'
 ·exact (H.mem (.floor hi) (Yx _ YN)).1
section
variable {X:Ctx} {f:FuncId} {fu:Func} {c:Code} {m:Nat} {G:Heap} {cv:PV} {ys args:List PV} {L:List Res} {PostA:PV->List Res->Prop}
def CallI (X:Ctx) (cv:PV) (ys:List PV) (G:Heap) (T:List Res) (PostA:PV->List Res->Prop):Prop:=∃ r G' A,callV X cv ys G=some (r,G')/\PostA r A/\Hs G' (A++T)
theorem callIO_of (hf:X.P.funcs[f]? = some fu) (hb:fu.body=some c) (hcv:∀ G,callV X cv ys G=Zm X (.fn f) args G) (hi:X.intr f args=none) (hk:X.keep f=false) (ho:X.opn f=true) (hp:args.all PV.pure=true) (hm:max fu.ntmps args.length=m) {T:List Res}
  (h:Runs X m f c (Z2t args) G λx e G'=>(x = .normal\/x = .ret)/\∃ xs,ZY X.P e G' fu.results.toList=some xs/\∃ A,PostA (Z0J xs) A/\Hs G' (A++T)) (hq:X.prim f=none:=by rfl) (hfr:X.fresh f=false:=by rfl):CallI X cv ys G T PostA:=by
 obtain ⟨r,G',h1,A,h2,h3⟩:=callO_of (Post:=λr G'=>∃ A,PostA r A/\Hs G' (A++T)) hf hb hi hk ho hp hm h hq hfr
 exact ⟨r,G',A,by rw [hcv];exact h1,h2,h3⟩
end
section
variable {X:Ctx} {n:Nat} {dr:Bool} {fn:FuncId} {ops:Array Oper} {base i:Nat} {l:List Oper} {e:Env} {G:Heap} {K:Env->Heap->Prop}
variable {d:Nat} {t t1:TypeId} {p:String} {af:Array Edge} {x:Operand} {lo hi:Nat} {L:List Res}
theorem callV_step {cv:PV} {args:List PV} {r:PV} {G':Heap} {c:Call} {id0:Nat} (hc:c.callee = .value x) (hx:Z1 X e x=some cv) (ha:ZG X e c.args.toList=some args) (h:Dn.callV X cv args G=some (r,G')):ZM X (Zm X) e G id0 c=some (r,G'):=by
 simp only [ZM,ha,hc,hx]
 unfold Dn.callV at h
 split at h
 ·exact h
 ·exact h
 ·cases h
theorem Sub.more {C L M:List Res} (h:Sub C L):Sub C (L++M):=by
 induction h with
 | nil=>exact .nil
 | cons k h t ih=>
  refine .cons k ?_ ih;rw [YJ (List.getElem?_eq_some_iff.1 h).1,h]
theorem Z6d {cv:PV} {ys:List PV} {PostA:PV->List Res->Prop} (A:List Res) (H:Has G lo hi (A++L)) (hf:∀ T,(∀ C,Sub C L->Sub C T)->Hs G (A++T)->CallI X cv ys G T PostA) :
  ∃ r G' A',Dn.callV X cv ys G=some (r,G')/\PostA r A'/\Has G' lo hi (A'++L):=by
 have hsub:∀ C,Sub C L->Sub C (L++holes lo hi):=λC h=>h.more
 have H1:=H.holesIn
 rw [Yq] at H1
 obtain ⟨r,G',A',h1,h2,h3⟩:=hf (L++holes lo hi) hsub H1
 exact ⟨r,G',A',h1,h2,h3.holesOut⟩
theorem Ops.callI {cv:PV} {args:Array Operand} {ts:Array TypeId} {ys:List PV} {PostA:PV->List Res->Prop} (A:List Res) (H:Has G lo hi (A++L)) (hx:Z1 X e x=some cv) (ha:ZG X e args.toList=some ys) (hf:∀ T,(∀ C,Sub C L->Sub C T)->Hs G (A++T)->CallI X cv ys G T PostA) (hdr:dr=true->Z1m (Region.before ops) ops i=true) (hd:Nat.blt d n=true)
  (hk:∀ r A' G',PostA r A'->Has G' lo hi (A'++L)->Ops X n dr ops base (i+1) l (set e d r) G' K) :
  Ops X n dr ops base i (⟨some d,.call { callee:=.value x,args:=args,argTypes:=ts },t,p,af,none⟩::l) e G K:=by
 obtain ⟨r,G',A',q1,q2,q3⟩:=Z6d A H hf
 exact .plain (x:=r) (G1:=G') (by simp only [Z2];exact callV_step rfl hx ha q1) (λh=>ask_all (hdr h)) hd (hk r A' G' q2 q3)
def FnO (X:Ctx) (f:FuncId) (args:List PV) (PostA:PV->List Res->Prop):Prop:=∀ G T,Hs G T->CallI X (.v (.fn f)) args G T PostA
theorem FnO.of {f:FuncId} {fu:Func} {c:Code} {m:Nat} {args:List PV} {PostA:PV->List Res->Prop} (hf:X.P.funcs[f]? = some fu) (hb:fu.body=some c) (hi:X.intr f args=none) (hk:X.keep f=false) (ho:X.opn f=true) (hp:args.all PV.pure=true) (hm:max fu.ntmps args.length=m)
  (h:∀ G T,Hs G T->Runs X m f c (Z2t args) G λx e G'=>(x = .normal\/x = .ret)/\∃ xs,ZY X.P e G' fu.results.toList=some xs/\∃ A,PostA (Z0J xs) A/\Hs G' (A++T)) (hq:X.prim f=none:=by rfl) (hfr:X.fresh f=false:=by rfl):FnO X f args PostA :=
 λG T H=>callIO_of hf hb (λ_=>rfl) hi hk ho hp hm (h G T H) hq hfr
theorem Ops.callFO {f:FuncId} {args:Array Operand} {ts:Array TypeId} {ys:List PV} {PostA:PV->List Res->Prop} (H:Has G lo hi L) (ha:ZG X e args.toList=some ys) (hf:FnO X f ys PostA) (hdr:dr=true->Z1m (Region.before ops) ops i=true) (hd:Nat.blt d n=true)
  (hk:∀ r A' G',PostA r A'->Has G' lo hi (A'++L)->Ops X n dr ops base (i+1) l (set e d r) G' K) :
  Ops X n dr ops base i (⟨some d,.call { callee:=.value (.func f),args:=args,argTypes:=ts },t,p,af,none⟩::l) e G K :=
 Ops.callI [] H rfl ha (λT _ H=>hf G T H) hdr hd hk
inductive ExpP:List Res->List (Nat×PV)->List (Nat×PV)->List Res->Prop
 | nil {L:List Res}:ExpP L [] [] L
 | keep {L L':List Res} {j:Nat} {x:PV} {ps qs:List (Nat×PV)} (h:needF x=false) (t:ExpP L ps qs L'):ExpP L ((j,x)::ps) ((j,x)::qs) L'
 | exp {L L1 L2:List Res} {j:Nat} {x y:PV} {ps qs:List (Nat×PV)} (h:ExpV L x y L1) (t:ExpP L1 ps qs L2):ExpP L ((j,x)::ps) ((j,y)::qs) L2
def FrzOK (ops:Array Oper) (base i:Nat) (pp:List (Nat×PV)):Prop :=
 Z1m (Region.before ops) ops i=true\/∃ ms:List Nat,(pp.flatMap λp=>Z2d p.2)=ms.map (base+·) /\
  (ms.all λm=>Nat.blt m ops.size&&((Region.before ops).getD i 0).testBit m&&(List.range ops.size).all λj=>!(unord (Region.before ops) i j&&((Region.before ops).getD j 0).testBit m))=true
end
theorem loopD_up (step step':Env->Heap->Option Out) (hst:∀ e G r,step e G=some r->step' e G=some r) (j j':Nat) (hj:j<=j') (e:Env) (G:Heap) (r:Out) (h:Z0O step j e G=some r):Z0O step' j' e G=some r:=by
 induction j generalizing j' e G r with
 | zero=>simp [Z0O] at h
 | succ j ihj=>
  obtain ⟨j',rfl⟩ : ∃ i,j'=i+1:=⟨j'-1,by omega⟩
  simp only [Z0O] at h ⊢
  split at h
  ·rename_i h1;rw [hst _ _ _ h1];exact ihj j' (by omega) _ _ _ h
  ·rename_i hn;rw [hst _ _ _ h]
   split
   ·rename_i heq;rw [h] at hn;cases heq;exact absurd rfl (hn _ _)
   ·rfl
theorem Runs.again {X:Ctx} {n:Nat} {fn:FuncId} {c:Code} {e:Env} {G:Heap} {Q:Ex->Env->Heap->Prop} (h:Runs X n fn c e G (Then' (λe G=>Runs X n fn (.loop c) e G Q) Q)):Runs X n fn (.loop c) e G Q:=by
 obtain ⟨l1,x,e1,G1,h1,h2⟩:=h.run
 cases x with
 | normal=>
  obtain ⟨l2,y,e2,G2,h3,h4⟩:=Runs.run h2;refine ⟨max l1 l2+1,y,e2,G2,?_,h4⟩;simp only [Z5] at h3 ⊢;simp only [Z0O,Z0S (show l1<=max l1 l2+1 by omega) h1]
  exact loopD_up _ _ (λe G r h=>Z0S (show l2<=max l1 l2+1 by omega) h) l2 _ (by omega) _ _ _ h3
 | exit id=>
  refine ⟨l1+1,_,e1,G1,?_,h2⟩;simp only [Z5,Z0O,Z0S (show l1<=l1+1 by omega) h1]
 | ret=>
  refine ⟨l1+1,_,e1,G1,?_,h2⟩;simp only [Z5,Z0O,Z0S (show l1<=l1+1 by omega) h1]
end Go.Dn

namespace Go.Dn
open Go
section
variable {X:Ctx} {n:Nat} {fn:FuncId} {ops:Array Oper} {base i:Nat} {l:List Oper} {e:Env} {G:Heap} {K:Env->Heap->Prop}
variable {d:Nat} {t t1:TypeId} {p:String} {af:Array Edge} {x y z:Operand} {lo hi k:Nat} {L:List Res}
end
theorem Ops.na {X:Ctx} {n:Nat} {dr:Bool} {ops:Array Oper} {base i:Nat} {e:Env} {G:Heap} {K:Env->Heap->Prop} {lo hi:Nat} {L:List Res} (H:Has G lo hi L) (h:Hs G L->K e G):Ops X n dr ops base i [] e G K:=.nil (h H.all)
section
variable {X:Ctx} {n:Nat} {dr:Bool} {ops:Array Oper} {base i:Nat} {l:List Oper} {e:Env} {G:Heap} {K:Env->Heap->Prop}
variable {d:Nat} {t t1:TypeId} {p:String} {af:Array Edge} {x y z:Operand} {lo hi k:Nat} {L:List Res}
end
end Go.Dn

namespace Go.Dn
open Go
def Res.solid:Res->Bool
 | .hole _=>false
 | _=>true
def star (G:Heap):Res->Res
 | .hole id=>.fix id (G.ent id)
 | r=>r
theorem Z70 {G:Heap} {r:Res}:(star G r).owner=r.owner:=by cases r<;>rfl
theorem star_holds {G:Heap} {r:Res} (h:r.holds G):(star G r).holds G:=by cases r<;>first|exact h|exact rfl
theorem solid_star {G:Heap} {r:Res} (h:r.solid=true):star G r=r:=by cases r<;>first|rfl|cases h
section
variable {G:Heap} {lo hi:Nat} {L C:List Res}
theorem Has.star (H:Has G lo hi L):Has G G.nx G.nx (L.map (star G)):=by
 refine ⟨λk r h=>?_,λk r h id ho=>?_,λj k r s hjk h1 h2 id ho=>?_,YA _⟩
 ·rw [YI,Y0] at h;obtain ⟨q,hq,rfl⟩:=h;exact star_holds (H.holds k q hq)
 ·rw [YI,Y0] at h;obtain ⟨q,hq,rfl⟩:=h;rw [Z70] at ho;have:=(H.lt k q hq id ho).2;exact ⟨.inl this,this⟩
 ·rw [YI,Y0] at h1 h2;obtain ⟨q,hq,rfl⟩:=h1;obtain ⟨q',hq',rfl⟩:=h2;rw [Z70] at ho ⊢;exact H.sep j k q q' hjk hq hq' id ho
theorem Has.add (H:Has G G.nx G.nx L) {id:Nat} (hl:id<G.nx) (hn:∀ r∈L,r.owner≠some id):Has G G.nx G.nx (.fix id (G.ent id)::L):=by
 refine ⟨λj s h=>?_,λj s h id' ho2=>?_,λi j s t hij h1 h2 id' hs=>?_,H.le⟩
 ·cases j with
  | zero=>cases h;exact rfl
  | succ j=>exact H.holds j s h
 ·cases j with
  | zero=>cases h;cases ho2;exact ⟨.inl hl,hl⟩
  | succ j=>exact H.lt j s h id' ho2
 ·cases i with
  | zero=>
   cases h1;cases hs;cases j with
   | zero=>exact absurd rfl hij
   | succ j=>exact hn t (Y6 h2)
  | succ i=>
   cases j with
   | zero=>
    cases h2;intro e;cases e;exact hn s (Y6 h1) hs
   | succ j=>exact H.sep i j s t (λe=>hij (by rw [e])) h1 h2 id' hs
def fixL (G:Heap) (L:List Res):Nat->List Res
 | 0=>L.map (star G)
 | k+1=>if (fixL G L k).any (λr=>r.owner==some k) then fixL G L k else .fix k (G.ent k)::fixL G L k
theorem Sub.star {C L:List Res} (h:Sub C L):C.all Res.solid=true->Sub C (L.map (star G)):=by
 induction h with
 | nil=>intro _;exact .nil
 | cons k h t ih=>
  intro hs;simp only [Ye,Y8] at hs;exact .cons k (by rw [YI,h,Y9,solid_star hs.1]) (ih hs.2)
end
section
variable {X:Ctx} {n:Nat} {dr:Bool} {fn:FuncId} {ops:Array Oper} {base i:Nat} {l:List Oper} {e:Env} {G:Heap} {K:Env->Heap->Prop}
variable {d:Nat} {t:TypeId} {p:String} {af:Array Edge} {x:Operand} {lo hi:Nat} {L C:List Res}
theorem Ops.stepS {o:Oper} {e1:Env} {G1:Heap} (h:Zv X (Zm X) n ops base i o e G=some (e1,G1)) (ha:dr=true->Z1o X (Zm X) ops base i o e G) (hk:Ops X n dr ops base (i+1) l e1 G1 K):Ops X n dr ops base i (o::l) e G K:=by
 obtain ⟨e',G',h1,h2⟩:=hk.run
 refine ⟨⟨e',G',?_,h2⟩⟩
 cases dr with
 | false=>
  simp only [YB,if_false] at h1 ⊢;simp only [Z0a,h,Y1,h1]
 | true=>
  simp only [if_true] at h1 ⊢;have:Zk X (Zm X) n ops base i o e G=some (e1,G1):=by
   unfold Zk
   split
   ·rw [if_pos (ha rfl)];exact h
   ·exact h
  simp only [Z0E,this,Y1,h1]
end
inductive FzC (L:List Res):PV->FV->Prop
 | v (y:FV):FzC L (.v y) y
 | n:FzC L .nils (.sl [])
 | ro {v:PV} {xs:List (List FV)} (h:RO v xs):FzC L v (.sl xs)
 | s {v:PV} {et:TypeId} {sz:Nat} {xs:List (List FV)} (k:Nat) (h:L[k]? = some (.sl v et sz xs false)):FzC L v (.sl xs)
inductive FzCs (L:List Res):List PV->List FV->Prop
 | nil:FzCs L [] []
 | cons {x:PV} {y:FV} {xs:List PV} {ys:List FV} (h:FzC L x y) (t:FzCs L xs ys):FzCs L (x::xs) (y::ys)
inductive FzV (L:List Res):PV->PV->Prop
 | c {x:PV} {y:FV} (h:FzC L x y):FzV L x (.v y)
 | a {xs:List PV} {ys:List FV} (h:FzCs L xs ys):FzV L (.agg xs) (.agg (vs ys))
 | p {x:PV} (h:x.pure=true):FzV L x x
inductive FzVs (L:List Res):List PV->List PV->Prop
 | nil:FzVs L [] []
 | cons {x y:PV} {xs ys:List PV} (h:FzV L x y) (t:FzVs L xs ys):FzVs L (x::xs) (y::ys)
section
variable {G:Heap} {lo hi:Nat} {L:List Res}
end
def PV.one:PV->Bool
 | .v _=>true
 | .fptr _=>true
 | .ptr _ _ _=>true
 | .clo _ _ _=>true
 | .yld _=>true
 | _=>false
theorem Z5d {x:PV} (h:x.one=true):x.still=true:=by cases x<;>first|rfl|cases h
end Go.Dn

namespace Go.Dn
open Go
def cF (n:Nat):List FV:=[.fn n]
def tailsOK (ops:Array Oper):Nat->List Oper->Bool
 | _,[]=>true
 | k,o::l=>(o.after.all λe=>!Region.binds .any e||decide (e.on<k))&&(l.all λoj=>oj.after.any (λe=>Region.binds .any e&&e.on==k)||o.apart ops oj)&&tailsOK ops (k+1) l
section
variable {X:Ctx} {n:Nat} {dr:Bool} {ops:Array Oper} {base i:Nat} {l:List Oper} {e:Env} {G:Heap} {K:Env->Heap->Prop}
variable {d:Nat} {t t1:TypeId} {p:String} {af:Array Edge} {x y:Operand} {lo hi:Nat} {L:List Res}
end
end Go.Dn

namespace Go.Dn
open Go
theorem p2 {A B:Type} {a a':A} {b b':B} (h:(a,b)=(a',b')):a=a'/\b=b':=by cases h;exact ⟨rfl,rfl⟩
theorem p3 {A B C:Type} {a a':A} {b b':B} {c c':C} (h:(a,b,c)=(a',b',c')):a=a'/\b=b'/\c=c':=by cases h;exact ⟨rfl,rfl,rfl⟩
theorem p4 {A B C Dd:Type} {a a':A} {b b':B} {c c':C} {d d':Dd} (h:(a,b,c,d)=(a',b',c',d')):a=a'/\b=b'/\c=c'/\d=d':=by cases h;exact ⟨rfl,rfl,rfl,rfl⟩
theorem p5 {A B C Dd E:Type} {a a':A} {b b':B} {c c':C} {d d':Dd} {e e':E} (h:(a,b,c,d,e)=(a',b',c',d',e')):a=a'/\b=b'/\c=c'/\d=d'/\e=e':=by cases h;exact ⟨rfl,rfl,rfl,rfl,rfl⟩
def gOK (ops:Array Oper) (e:Env):Option (Nat×Bool)->Bool
 | none=>true
 | some (j,w)=>match (ops[j]?).bind (·.dst) with
  | some d=>match e d with
   | .v (.bool b)=>b==w
   | _=>false
  | none=>false
def skipN (ops:Array Oper) (n:Nat):Nat->List Oper->Env->Option (List Oper×Env)
 | 0,l,e=>some (l,e)
 | k+1,[],e=>none
 | k+1,o::l,e=>match o.guard with
  | some (j,w)=>match (ops[j]?).bind (·.dst) with
   | some g=>match e g with
    | .v (.bool b)=>bif b==w then none else match o.dst with
     | some d=>bif Nat.blt d n then skipN ops n k l (set e d .undef) else none
     | none=>skipN ops n k l e
    | .undef=>match o.dst with
     | some d=>bif Nat.blt d n then skipN ops n k l (set e d .undef) else none
     | none=>skipN ops n k l e
    | _=>none
   | none=>none
  | none=>none
theorem EI {e:Env}:∀ {L:List (Nat×PV)},(L.map λp=>e p.1)=L.map (·.2)->ZC e L
 | [],_=>trivial
 | (k,v)::L,h=>by
  have h1:=List.cons.inj h;exact ⟨h1.1,EI h1.2⟩
section
variable {X:Ctx} {n:Nat} {dr:Bool} {fn:FuncId} {ops:Array Oper} {base i:Nat} {l:List Oper} {e:Env} {G:Heap} {K:Env->Heap->Prop} {Q:Ex->Env->Heap->Prop} {c a b:Code}
variable {d:Nat} {t t1 t2:TypeId} {p:String} {af:Array Edge} {x y:Operand} {v:PV} {lo hi:Nat} {L:List Res} {g:Option (Nat×Bool)} {dst:Option Tmp} {op:Op}
theorem Ops.gd (hg:gOK ops e g=true) (hk:Ops X n dr ops base i (⟨dst,op,t,p,af,none⟩::l) e G K):Ops X n dr ops base i (⟨dst,op,t,p,af,g⟩::l) e G K:=by
 cases g with
 | none=>exact hk
 | some q=>
  obtain ⟨j,w⟩:=q;simp only [gOK] at hg
  split at hg
  ·rename_i d hd
   split at hg
   ·rename_i b hb;have:b=w:=by simpa using hg
    subst this;exact .wanted hd hb hk
   ·cases hg
  ·cases hg
theorem Ops.ps {l':List Oper} {e':Env}:∀ (k:Nat) {i:Nat} {l:List Oper} {e:Env},skipN ops n k l e=some (l',e')->Ops X n dr ops base (i+k) l' e' G K->Ops X n dr ops base i l e G K
 | 0,i,l,e,h,hk=>by cases h;exact hk
 | k+1,i,[],e,h,hk=>by cases h
 | k+1,i,⟨dst,op,t,p,af,none⟩::l,e,h,hk=>by cases h
 | k+1,i,⟨dst,op,t,p,af,some (j,w)⟩::l,e,h,hk=>by
  rw [show i+(k+1)=i+1+k by omega] at hk
  simp only [skipN] at h
  split at h
  ·rename_i g hg
   split at h
   ·rename_i b hb;cases hw:b==w with
    | true=>rw [hw] at h;cases h
    | false=>
     rw [hw] at h;have hb':e g = .v (.bool (!w)):=by rw [hb];cases b<;>cases w<;>first|rfl|cases hw
     simp only [cond_false] at h;cases dst with
     | some d=>
      cases hd:Nat.blt d n with
      | false=>simp [hd] at h
      | true=>simp only [hd,cond_true] at h;exact .pass hg hb' hd (Ops.ps k h hk)
     | none=>exact .pass0 hg hb' (Ops.ps k h hk)
   ·rename_i hb;cases dst with
    | some d=>
     cases hd:Nat.blt d n with
     | false=>simp [hd] at h
     | true=>simp only [hd,cond_true] at h;exact .passU hg hb hd (Ops.ps k h hk)
    | none=>exact .pass0U hg hb (Ops.ps k h hk)
   ·cases h
  ·cases h
theorem Ops.m1 (v:PV) (h1:Z1 X e x=some v) (h:(Nat.blt d n,gOK ops e g)=(true,true)) (hk:Ops X n dr ops base (i+1) l (set e d v) G K):Ops X n dr ops base i (⟨some d,.move x,t,p,af,g⟩::l) e G K :=
 .gd (p2 h).2 (.move h1 (p2 h).1 hk)
theorem Ops.a1 (v:PV) (h1:Z1 X e x=some v) (h:(Nat.blt d n,gOK ops e g)=(true,true)) (hk:Ops X n dr ops base (i+1) l (set e d v) G K):Ops X n dr ops base i (⟨some d,.assign x,t,p,af,g⟩::l) e G K :=
 .gd (p2 h).2 (.assign h1 (p2 h).1 hk)
theorem Ops.mV {u:FV} (h:(Z1 X e x,Nat.blt d n,gOK ops e g)=(some (.v u),true,true)) (hk:Ops X n dr ops base (i+1) l (set e d (.v u)) G K):Ops X n dr ops base i (⟨some d,.move x,t,p,af,g⟩::l) e G K:=.gd (p3 h).2.2 (.move (p3 h).1 (p3 h).2.1 hk)
theorem Ops.mB {u q r:Nat} (h:(Z1 X e x,Nat.blt d n,gOK ops e g)=(some (.buf u q r),true,true)) (hk:Ops X n dr ops base (i+1) l (set e d (.buf u q r)) G K):Ops X n dr ops base i (⟨some d,.move x,t,p,af,g⟩::l) e G K:=.gd (p3 h).2.2 (.move (p3 h).1 (p3 h).2.1 hk)
theorem Ops.aV {u:FV} (h:(Z1 X e x,Nat.blt d n,gOK ops e g)=(some (.v u),true,true)) (hk:Ops X n dr ops base (i+1) l (set e d (.v u)) G K):Ops X n dr ops base i (⟨some d,.assign x,t,p,af,g⟩::l) e G K:=.gd (p3 h).2.2 (.assign (p3 h).1 (p3 h).2.1 hk)
theorem Ops.aB {u q r:Nat} (h:(Z1 X e x,Nat.blt d n,gOK ops e g)=(some (.buf u q r),true,true)) (hk:Ops X n dr ops base (i+1) l (set e d (.buf u q r)) G K):Ops X n dr ops base i (⟨some d,.assign x,t,p,af,g⟩::l) e G K:=.gd (p3 h).2.2 (.assign (p3 h).1 (p3 h).2.1 hk)
theorem Ops.tV {b:Bool} (h:(Z1 X e x,Nat.blt d n,gOK ops e g)=(some (.v (.bool b)),true,true)) (hk:Ops X n dr ops base (i+1) l (set e d (.v (.bool (!b)))) G K):Ops X n dr ops base i (⟨some d,.unOp .not t1 x,t,p,af,g⟩::l) e G K:=.gd (p3 h).2.2 (.not (p3 h).1 (p3 h).2.1 hk)
theorem Ops.iV {op:BinOp} {k:IntKind} {m m':Int} {r:FV} (h:(Z1 X e x,Z1 X e y,Z3r op k m m',Nat.blt d n,(op != .shl&&op != .shr)&&gOK ops e g)=(some (.v (.int k m)),some (.v (.int k m')),some r,true,true)) (hk:Ops X n dr ops base (i+1) l (set e d (.v r)) G K) :
  Ops X n dr ops base i (⟨some d,.binOp op t1 x y t2,t,p,af,g⟩::l) e G K:=by
 obtain ⟨h1,h2,h3,h4,h5⟩:=p5 h
 rw [Y8] at h5
 exact .gd h5.2 (.int h1 h2 h5.1 h3 h4 hk)
theorem Ops.xV {vs:List PV} {j:Nat} (h:(Z1 X e x,vs[j]?,Nat.blt d n,gOK ops e g)=(some (.tup vs),some v,true,true)) (hk:Ops X n dr ops base (i+1) l (set e d v) G K):Ops X n dr ops base i (⟨some d,.extract x j,t,p,af,g⟩::l) e G K:=by
 obtain ⟨h1,h2,h3,h4⟩:=p4 h
 exact .gd h4 (.extract h1 h2 h3 hk)
theorem Ops.kT {c:Operand} {u:FV} (h:(Z1 X e c,Z1 X e x,Nat.blt d n,gOK ops e g)=(some (.v (.bool true)),some (.v u),true,true)) (hk:Ops X n dr ops base (i+1) l (set e d (.v u)) G K):Ops X n dr ops base i (⟨some d,.pick c x y,t,p,af,g⟩::l) e G K:=by
 obtain ⟨h1,h2,h3,h4⟩:=p4 h
 exact .gd h4 (.pickT h1 h2 h3 hk)
theorem Ops.kF {c:Operand} {u:FV} (h:(Z1 X e c,Z1 X e y,Nat.blt d n,gOK ops e g)=(some (.v (.bool false)),some (.v u),true,true)) (hk:Ops X n dr ops base (i+1) l (set e d (.v u)) G K):Ops X n dr ops base i (⟨some d,.pick c x y,t,p,af,g⟩::l) e G K:=by
 obtain ⟨h1,h2,h3,h4⟩:=p4 h
 exact .gd h4 (.pickF h1 h2 h3 hk)
theorem Ops.bV {parts:Array (Nat×Operand)} (cs:List PV) (h:(Z5r X e t1 parts.toList,Nat.blt d n,gOK ops e g)=(some (.agg cs),true,true)) (hk:Ops X n dr ops base (i+1) l (set e d (.agg cs)) G K):Ops X n dr ops base i (⟨some d,.build t1 parts,t,p,af,g⟩::l) e G K :=
 .gd (p3 h).2.2 (.buildA (p3 h).1 (p3 h).2.1 hk)
theorem Ops.cV {f:FuncId} {args:Array Operand} {ts:Array TypeId} {ys:List PV} {r:PV} (hf:Fn X f ys r) (h:(ZG X e args.toList,Nat.blt d n,gOK ops e g)=(some ys,true,true)) (hk:Ops X n dr ops base (i+1) l (set e d r) G K) :
  Ops X n dr ops base i (⟨some d,.call { callee:=.value (.func f),args:=args,argTypes:=ts },t,p,af,g⟩::l) e G K:=.gd (p3 h).2.2 (.call (p3 h).1 hf (p3 h).2.1 hk)
theorem Ops.nV {α:Type} {c:α->List FV} {xs:List α} {el:TypeId} (h:(Z1 X e x,tslice X.P t1,Nat.blt d n,gOK ops e g)=(some (.v (.sl (xs.map c))),some el,true,true))
  (hk':Ops X n dr ops base (i+1) l (set e d (.v (.int .i64 xs.length))) G K):Ops X n dr ops base i (⟨some d,.call { callee:=.builtin .len,args:=#[x],argTypes:=#[t1] },t,p,af,g⟩::l) e G K:=by
 obtain ⟨h1,h2,h3,h4⟩:=p4 h
 exact .gd h4 (.lenPt h1 h2 h3 hk')
theorem Ops.jV {α:Type} {c:α->List FV} {xs:List α} {iv:Int} {ik:IntKind} {u:α} {m:Nat} (hu:at? xs iv=some u) (h:(Z1 X e x,Z1 X e y,(tslice X.P t1).bind (tsize X.P),(c u).length,(tslice X.P t1).isSome&&Nat.blt d n&&gOK ops e g)=(some (.v (.sl (xs.map c))),some (.v (.int ik iv)),some m,m,true))
  (hk':Ops X n dr ops base (i+1) l (set e d (.fptr (c u))) G K):Ops X n dr ops base i (⟨some d,.indexAddr t1 x y,t,p,af,g⟩::l) e G K:=by
 obtain ⟨h1,h2,h3,h4,h5⟩:=p5 h
 simp only [Y8,Option.isSome_iff_exists] at h5
 obtain ⟨⟨⟨el,he⟩,h6⟩,h7⟩:=h5
 rw [he,Y1] at h3
 exact .gd h7 (.indexP h1 h2 hu he h3 h4 h6 hk')
theorem Ops.pV {u:FV} {cells:List FV} (h:(Z1 X e x,tagg X.P t1,cells[0]?,Nat.blt d n,gOK ops e g)=(some (.fptr cells),some false,some u,true,true))
  (hk':Ops X n dr ops base (i+1) l (set e d (.v u)) G K):Ops X n dr ops base i (⟨some d,.load t1 x,t,p,af,g⟩::l) e G K:=by
 obtain ⟨h1,h2,h3,h4,h5⟩:=p5 h
 exact .gd h5 (.loadP h1 h2 h3 h4 hk')
theorem Ops.qV {m:Nat} {cells:List FV} (cs:List FV) (h:(Z1 X e x,tsize X.P t1,cells.take m,(tagg X.P t1==some true)&&Nat.ble m cells.length&&Nat.blt d n,gOK ops e g)=(some (.fptr cells),some m,cs,true,true))
  (hk':Ops X n dr ops base (i+1) l (set e d (.agg (vs cs))) G K):Ops X n dr ops base i (⟨some d,.load t1 x,t,p,af,g⟩::l) e G K:=by
 obtain ⟨h1,h2,h3,h4,h5⟩:=p5 h
 simp only [Y8,beq_iff_eq] at h4
 exact .gd h5 (.loadPA h1 h4.1.1 h2 h4.1.2 h3 h4.2 hk')
theorem Ops.fV {id ver off f fo:Nat} {ft:TypeId} {m:Nat} {te:TypeId} {cells:List PV} (H:Has G lo hi L) (k:Nat) (h:(Z1 X e x,L[k]?,tfield X.P t1 f,tsize X.P ft,Nat.beq cells.length ver&&Nat.blt d n&&gOK ops e g)=(some (.ptr id ver off),some (.blk id te cells),some (fo,ft),some (m+1),true))
  (hk':Ops X n false ops base (i+1) l (set e d (.ptr id ver (off+fo))) G K):Ops X n false ops base i (⟨some d,.fieldAddr t1 x f,t,p,af,g⟩::l) e G K:=by
 obtain ⟨h1,h2,h3,h4,h5⟩:=p5 h
 simp only [Y8] at h5
 exact .gd h5.2 (.ZA H k h2 (Yy h5.1.1) h1 h3 h4 nofun h5.1.2 hk')
theorem Ops.lV {id ver off:Nat} {te:TypeId} {cells:List PV} (H:Has G lo hi L) (k:Nat) (h:(Z1 X e x,L[k]?,tagg X.P t1,cells[off]?,Nat.beq cells.length ver&&Nat.blt d n&&gOK ops e g)=(some (.ptr id ver off),some (.blk id te cells),some false,some v,true))
  (hk':Ops X n false ops base (i+1) l (set e d v) G K):Ops X n false ops base i (⟨some d,.load t1 x,t,p,af,g⟩::l) e G K:=by
 obtain ⟨h1,h2,h3,h4,h5⟩:=p5 h
 simp only [Y8] at h5
 exact .gd h5.2 (.Z1R H k h2 (Yy h5.1.1) h1 h3 h4 nofun h5.1.2 hk')
theorem Ops.LV {id ver off m:Nat} {te:TypeId} {cells:List PV} (cs:List PV) (H:Has G lo hi L) (k:Nat) (h:(Z1 X e x,L[k]?,tsize X.P t1,(cells.drop off).take m,(tagg X.P t1==some true)&&Nat.ble (off+m) cells.length&&Nat.beq cells.length ver&&Nat.blt d n&&gOK ops e g)=(some (.ptr id ver off),some (.blk id te cells),some m,cs,true))
  (hk':Ops X n false ops base (i+1) l (set e d (.agg cs)) G K):Ops X n false ops base i (⟨some d,.load t1 x,t,p,af,g⟩::l) e G K:=by
 obtain ⟨h1,h2,h3,h4,h5⟩:=p5 h
 simp only [Y8,beq_iff_eq] at h5
 exact .gd h5.2 (.loadHA H k h2 (Yy h5.1.1.2) h1 h5.1.1.1.1 h3 h5.1.1.1.2 h4 nofun h5.1.2 hk')
theorem Ops.sV {id ver off:Nat} {te:TypeId} {cells ys:List PV} (cells':List PV) (H:Has G lo hi L) (k:Nat) (h:(Z1 X e x,L[k]?,(Z1 X e y).bind PV.cells,splice cells off ys,(tsize X.P t1==some ys.length)&&Nat.ble (off+ys.length) cells.length&&Nat.beq cells.length ver&&gOK ops e g)=(some (.ptr id ver off),some (.blk id te cells),some ys,cells',true))
  (hk':∀ G',Has G' lo hi (L.set k (.blk id te cells'))->Ops X n false ops base (i+1) l e G' K):Ops X n false ops base i (⟨none,.store t1 x y,t,p,af,g⟩::l) e G K:=by
 obtain ⟨h1,h2,h3,h4,h5⟩:=p5 h
 simp only [Y8,beq_iff_eq] at h5
 rw [Y2] at h3
 obtain ⟨v,h6,h7⟩:=h3
 exact .gd h5.2 (.Z3a H k h2 (Yy h5.1.2) h1 h6 h7 h5.1.1.1 rfl h5.1.1.2 h4 nofun hk')
theorem Ops.md {L0:List Res} (H:Has G lo hi L0) (k:Nat) (E:List (Nat×PV)) (L:List Res) (hk:Nat.ble k l.length=true) (h1:Ops X n dr ops base i (l.take k) e G λe G=>ZC e E/\Has G (base+(i+k)) hi L) (h2:∀ e G,Has G (base+(i+k)) hi L->Ops X n dr ops base (i+k) (l.drop k) (sets e E) G K):Ops X n dr ops base i l e G K :=
 .mid k hk h1 λe G ⟨he,H⟩=>by rw [he.eq];exact h2 e G H
theorem Runs.wh {α:Type} {c:Bool} {A B z:α} {t:Operand} (h:(bif c then A else B)=z) (ht:Z1 X e t=some (.v (.bool c))) (h1:A=z->Runs X n fn a e G Q) (h2:B=z->Runs X n fn b e G Q):Runs X n fn (.cond t a b) e G Q :=
 .whether ht (λhc=>h1 (cond_T hc h)) λhc=>h2 (cond_F hc h)
theorem Ops.sp {α:Type} {j gt:Nat} {w v:Bool} {A B z:α} (hb:(bif v then A else B)=z) (h:((ops[j]?).bind (·.dst),e gt)=(some gt,.v (.bool v))) (ht:A=z->Ops X n dr ops base i (⟨dst,op,t,p,af,some (j,w)⟩::l) (set e gt (.v (.bool true))) G K)
  (hf:B=z->Ops X n dr ops base i (⟨dst,op,t,p,af,some (j,w)⟩::l) (set e gt (.v (.bool false))) G K):Ops X n dr ops base i (⟨dst,op,t,p,af,some (j,w)⟩::l) e G K :=
 .split (p2 h).1 (p2 h).2 (λhc=>ht (cond_T hc hb)) λhc=>hf (cond_F hc hb)
theorem Runs.lp {S R β:Type} {step:S->Option (S⊕R)} {s:S} {Gg:R->Option β} {z:β} (h:(Dn.loopO step s).bind Gg=some z) (E:S->List (Nat×PV)) (L:S->List Res) (ex:Ex) (E':R->List (Nat×PV)) (L':R->List Res) (h0:ZC e (E s)) (H:Hs G (L s))
  (hs:∀ s e G,Hs G (L s)->∀ z,step s=some z->Runs X n fn c (sets e (E s)) G (LoopEnd (λs e G=>ZC e (E s)/\Hs G (L s)) (λy x e G=>x=ex/\ZC e (E' y)/\Hs G (L' y)) z))
  (hq:∀ y e G,Hs G (L' y)->Gg y=some z->Q ex (sets e (E' y)) G):Runs X n fn (.loop c) e G Q:=by
 obtain ⟨y,h1,h2⟩:=bind_some h
 obtain ⟨k,h1⟩:=ZL.1 h1
 refine (Runs.loopO h1 (λs e G=>ZC e (E s)/\Hs G (L s)) (λy x e G=>x=ex/\ZC e (E' y)/\Hs G (L' y)) ⟨h0,H⟩ ?_).mono ?_
 ·rintro s e G ⟨he,H⟩ z hz;rw [he.eq];exact hs s e G H z hz
 ·rintro x e G ⟨rfl,he,H⟩;rw [he.eq];exact hq y e G H h2
theorem Runs.jn {A B:Type} {o:Option A} {Gg:A->Option B} {z:B} (h:o.bind Gg=some z) (ex:Ex) (E:A->List (Nat×PV)) (L:A->List Res)
  (h1:∀ y,o=some y->Runs X n fn c e G λx e G=>x=ex/\ZC e (E y)/\Hs G (L y)) (h2:∀ y e G,Hs G (L y)->Gg y=some z->Q ex (sets e (E y)) G):Runs X n fn c e G Q:=by
 obtain ⟨y,h3,h4⟩:=bind_some h
 refine (h1 y h3).mono ?_
 rintro x e G ⟨rfl,he,H⟩
 rw [he.eq]
 exact h2 y e G H h4
theorem Runs.tR {id:Nat} {os:List Oper} (m:Nat) (hm:os.length=m) (H:Hs G L) (h:∀ base G',Has G' base (base+m) L->Ops X n false os.toArray base 0 os e G' λe G=>Runs X n fn b e G Q):Runs X n fn (.seq (.region id os.toArray false) b) e G Q :=
 .then (.Z9 m hm H h)
theorem bs {α β:Type} {x:Option α} {f:α->Option β} {b:β} (h:x.bind f=some b):∃ a,x=some a/\f a=some b:=Option.bind_eq_some_iff.1 h
theorem Ops.alc {cs:List PV} (H:Has G lo hi L) (hz:tzero X.P t1=some cs) (hd:Nat.blt d n=true)
  (hk:∀ G',Has G' (base+i+1) hi (.blk (base+i) t1 cs::L)->Ops X n dr ops base (i+1) l (set e d (.ptr (base+i) cs.length 0)) G' K) (hlo:lo<=base+i:=by omega) (hhi:base+i<hi:=by omega) :
  Ops X n dr ops base i (⟨some d,.alloc t1,t,p,af,none⟩::l) e G K:=.allocH H hlo hhi hz hd hk
theorem Ops.bxc {cs:List PV} (H:Has G lo hi L) (hx:Z1 X e x=some v) (hc:v.cells=some cs) (hd:Nat.blt d n=true)
  (hk:∀ G',Has G' (base+i+1) hi (.blk (base+i) t1 cs::L)->Ops X n dr ops base (i+1) l (set e d (.ptr (base+i) cs.length 0)) G' K) (hlo:lo<=base+i:=by omega) (hhi:base+i<hi:=by omega) :
  Ops X n dr ops base i (⟨some d,.box t1 x,t,p,af,none⟩::l) e G K:=.boxH H hlo hhi hx hc hd hk
theorem so {ops:Array Oper} {base i id:Nat} {dr:Bool} (h:id<base) (h2:Z2p (Region.before ops) ops i=true:=by kernel_rfl):dr=true->Seen ops base i id false:=λ_=>.inl ⟨h,nofun,λ_=>h2⟩
theorem Ends.eR {rs:List ResultVar} {xs:List PV} {r:PV} (h:(ZY X.P e G rs,Z2m (Z0J xs),Z0J xs)=(some xs,true,r)):Ends X rs r .ret e G:=.ret (p3 h).1 (p3 h).2.1 (p3 h).2.2
theorem Fn.go {f:FuncId} {args:List PV} {r:PV} {fu:Func} {c:Code} (hf:X.P.funcs[f]? = some fu) (h:(fu.body,X.intr f args,X.keep f,X.opn f,args.all PV.pure)=(some c,none,false,false,true))
  (hr:∀ G,Hs G []->Runs X (max fu.ntmps args.length) f c (Z2t args) G (Ends X fu.results.toList r)) (hq:X.prim f=none:=by rfl):Fn X f args r:=by
 obtain ⟨h1,h2,h3,h4,h5⟩:=p5 h
 exact .ends hf h1 h2 h3 h4 h5 rfl (hr _ (Has.nil (YA _))) hq
end
end Go.Dn

namespace Go.Dn
open Go
def famL {α:Type} (rt:TypeId) (sz:Nat) (c:α->List FV):List PV->List (List α)->List Res
 | v::ids,r::x=>.sl v rt sz (r.map c) true::famL rt sz c ids x
 | _,_=>[]
section
variable {α:Type} {rt:TypeId} {sz:Nat} {c:α->List FV}
theorem get_lt {β:Type} {l:List β} {m:Nat} {a:β} (h:l[m]? = some a):m<l.length:=(List.getElem?_eq_some_iff.1 h).1
end
section
variable {G:Heap} {lo hi:Nat} {L T:List Res}
end
theorem splice_set {cells:List PV} {j:Nat} {w:PV} (h:j<cells.length):splice cells j [w]=cells.set j w:=by
 unfold splice
 rw [Yp,if_pos h];simp
section
variable {X:Ctx} {n:Nat} {dr:Bool} {fn:FuncId} {ops:Array Oper} {base i:Nat} {l:List Oper} {e:Env} {G:Heap} {K:Env->Heap->Prop} {Q:Ex->Env->Heap->Prop}
variable {d:Nat} {t t1 t2:TypeId} {p:String} {af:Array Edge} {x y z:Operand} {v:PV} {lo hi:Nat} {L:List Res}
theorem Ops.isNilV {α:Type} {c:α->List FV} {xs:List α} {u:Unit} {el:TypeId} (h:some? xs=some u) (hx:Z1 X e x=some (.v (.sl (xs.map c)))) (hy:Z1 X e y=some .nils) (ht:tslice X.P t1=some el) (hd:Nat.blt d n=true)
  (hk':Ops X n dr ops base (i+1) l (set e d (.v (.bool false))) G K):Ops X n dr ops base i (⟨some d,.binOp .eql t1 x y t2,t,p,af,none⟩::l) e G K:=by
 cases xs with
 | nil=>cases h
 | cons a xs=>
  refine .plain (x:=.v (.bool false)) (G1:=G) ?_ (λ_=>Z1H rfl ?_) hd hk'
  ·simp only [Z2,hx,hy,Yz,binD,ht,Z3n,Y9]
  ·simp only [touched,ZF,YE,YG,hx,hy,vids,YK]
end
theorem fam_exp {α:Type} {rt:TypeId} {sz d:Nat} {c:α->List FV}:∀ {ids:List PV} {x:List (List α)} {G:Heap} {lo hi:Nat} {A T:List Res},ids.length=x.length->Has G lo hi (A++(famL rt sz c ids x++T)) ->
  ∃ G',ZT (ZN (d+2)) G ids=some (x.map (λr=>FV.sl (r.map c)),G')
 | [],[],G,lo,hi,A,T,_,H=>⟨G,rfl⟩
 | v::ids,r::x,G,lo,hi,A,T,hl,H=>by
  have hk:(A++(famL rt sz c (v::ids) (r::x)++T))[A.length]? = some (.sl v rt sz (r.map c) true):=by
   rw [YP (YA _),Nat.sub_self];rfl
  obtain ⟨hs,hv⟩:=H.sl hk;obtain ⟨G1,h1,H1⟩ : ∃ G1,ZN (d+2) G v=some (.sl (r.map c),G1)/\∃ lo hi,Has G1 lo hi ((A++[.sl v rt sz (r.map c) false])++(famL rt sz c ids x++T)):=by
   have e:∀ rr,(A++(famL rt sz c (v::ids) (r::x)++T)).set A.length rr=(A++[rr])++(famL rt sz c ids x++T):=λrr=>by
    rw [List.set_append_right _ _ (YA _),Nat.sub_self];simp [famL]
   rcases hv with ⟨rfl,h0⟩|⟨id,rfl,hb⟩
   ·refine ⟨G,by rw [h0];rfl,lo,hi,?_⟩
    have:=H.say hk (r':=.sl .nils rt sz (r.map c) false) ⟨hs,.inl ⟨rfl,h0⟩⟩ rfl
    rwa [e] at this
   ·refine ⟨G.put id (.blk rt (vs (r.map c).flatten) false),?_,lo,hi,?_⟩
    ·rw [Z37 hb (by rw [Zw,Zl hs]),Z5z]
     simp only [Y1,Z4p hs]
    ·have:=H.put hk rfl (r':=.sl (.buf id (r.map c).length sz) rt sz (r.map c) false) ⟨hs,.inr ⟨id,rfl,Z14⟩⟩ rfl
     rwa [e] at this
  obtain ⟨lo1,hi1,H1⟩:=H1;obtain ⟨G2,h2⟩:=fam_exp (d:=d) (ids:=ids) (x:=x) (by simpa using hl) H1
  exact ⟨G2,by simp only [ZT,h1,Y1,h2,Yz]⟩
 | [],_::_,G,lo,hi,A,T,h,_=>by simp at h
 | _::_,[],G,lo,hi,A,T,h,_=>by simp at h
theorem chunk_one:∀ (l:List FV),chunk 1 l.length l=l.map λy=>[y]
 | []=>rfl
 | y::l=>by simp only [Yc,chunk,Yz];rw [<- chunk_one l];rfl
theorem mat_exp {α:Type} {rt et:TypeId} {sz id k m:Nat} {c:α->List FV} {ids:List PV} {x:List (List α)} {G:Heap} {lo hi:Nat} {L T:List Res} (H:Has G lo hi L) (hk:L[k]? = some (.blk id et ids)) (hL:L.drop (k+1)=famL rt sz c ids x++T) (hM:ids.length=x.length) (hm:ids.length=m) :
  ∃ G',ZN 6 G (.buf id m 1)=some (.sl (x.map λr=>[FV.sl (r.map c)]),G'):=by
 have hb:=H.blk hk
 have H2:=H.put hk rfl (r':=.hole id) (en:=.blk et ids false) trivial rfl
 have hlt:k<L.length:=get_lt hk
 have e:L.set k (.hole id)=(L.take k++[.hole id])++(famL rt sz c ids x++T):=by
  rw [Yp,if_pos hlt,hL];simp
 rw [e] at H2
 obtain ⟨G',h⟩:=fam_exp (d:=3) hM H2
 refine ⟨G',?_⟩
 rw [Z37 hb (by rw [hm];omega)]
 have h':ZT (ZN 5) (G.put id (.blk et ids false)) ids=some (x.map (λr=>FV.sl (r.map c)),G'):=h
 rw [h']
 simp only [Y1]
 have:m=(x.map (λr=>FV.sl (r.map c))).length:=by rw [YU];omega
 rw [this,chunk_one,List.map_map]
 rfl
theorem Ends.M {α:Type} {X:Ctx} {rs:List ResultVar} {rt et:TypeId} {sz id m:Nat} {c:α->List FV} {ids:List PV} {x:List (List α)} {e:Env} {G:Heap} {lo hi:Nat} {L T:List Res} {xs:List PV} {r:PV} {ex:Ex} (hx:ex = .normal\/ex = .ret) (H:Has G lo hi L) (k:Nat) (hk:L[k]? = some (.blk id et ids)) (hL:L.drop (k+1)=famL rt sz c ids x++T) (hM:ids.length=x.length) (hm:ids.length=m)
  (h:ZY X.P e G rs=some (.buf id m 1::xs)) (hp:xs.all PV.pure=true) (hr:Z0J (.v (.sl (x.map λr=>[FV.sl (r.map c)]))::xs)=r):Ends X rs r ex e G:=by
 obtain ⟨G',q⟩:=mat_exp H hk hL hM hm
 refine ⟨hx,_,G',h,?_⟩
 have q1:Z07 G (.buf id m 1)=some (.v (.sl (x.map λr=>[FV.sl (r.map c)])),G'):=by
  show (ZN 6 G (.buf id m 1)).bind _=_;rw [q];rfl
 rw [<- hr]
 cases xs with
 | nil=>exact q1
 | cons y ys=>
  show (Z0M G (.buf id m 1::y::ys)).bind _=_;simp only [Z0M,q1,Y1];have:=Z3J (G:=G') hp;simp only [Z0M] at this;rw [this]
  rfl
end Go.Dn

namespace Go.Dn
open Go
section
variable {X:Ctx} {f:FuncId} {args:List PV} {r:PV}
theorem FnO.intr {X:Ctx} {f:FuncId} {args:List PV} {r:PV} (hi:X.intr f args=some r) (hp:args.all PV.pure=true):FnO X f args (λq A=>q=r/\A=[]):=λG T H=>
 ⟨r,G,[],Z0m (lf:=0) (by simp only [Z2K,hi,hp,if_true]),⟨rfl,rfl⟩,H⟩
end
end Go.Dn

namespace Go.Dn
open Go
section
variable {X:Ctx} {n:Nat} {dr:Bool} {ops:Array Oper} {base i:Nat} {l:List Oper} {e:Env} {G:Heap} {K:Env->Heap->Prop}
variable {t1 t:TypeId} {p:String} {af:Array Edge} {x y:Operand} {lo hi:Nat} {L:List Res} {v:PV}
end
end Go.Dn

namespace Go.Dn
open Go
section
variable {X:Ctx} {n:Nat} {dr:Bool} {ops:Array Oper} {base i:Nat} {l:List Oper} {e:Env} {G:Heap} {K:Env->Heap->Prop}
variable {d:Nat} {t t1:TypeId} {p:String} {af:Array Edge} {x y:Operand} {lo hi:Nat} {L:List Res}
end
end Go.Dn

namespace Go.Dn
open Go
section
variable {G:Heap} {lo hi:Nat}
end
section
variable {X:Ctx} {n:Nat} {dr:Bool} {ops:Array Oper} {base i:Nat} {l:List Oper} {e:Env} {G:Heap} {K:Env->Heap->Prop}
variable {d:Nat} {t t1:TypeId} {p:String} {af:Array Edge} {x y:Operand} {lo hi:Nat} {L:List Res}
end
open Classical in
noncomputable def liftI (X:Ctx) (f:FuncId) (args:List PV):Option PV:=if h:∃ r,Fn X f args r then some h.choose else none
theorem liftI_fn {X:Ctx} {f:FuncId} {args:List PV} {r:PV} (h:liftI X f args=some r):Fn X f args r:=by
 unfold liftI at h
 split at h
 ·rename_i hx;cases h;exact hx.choose_spec
 ·cases h
theorem liftI_of {X:Ctx} {f:FuncId} {args:List PV} {r:PV} (h:Fn X f args r):liftI X f args=some r:=by
 cases hl:liftI X f args with
 | none=>
  unfold liftI at hl;rw [dif_pos ⟨r,h⟩] at hl;cases hl
 | some r'=>
  have h2:=(liftI_fn hl).call Heap.empty;rw [h.call Heap.empty] at h2;cases h2
  rfl
end Go.Dn

namespace Go.Dn
open Go
section
variable {X:Ctx} {n:Nat} {dr:Bool} {ops:Array Oper} {base i:Nat} {l:List Oper} {e:Env} {G:Heap} {K:Env->Heap->Prop} {d:Nat} {t t1:TypeId} {p:String} {af:Array Edge} {x y:Operand} {lo hi:Nat} {L:List Res}
def Res.made:Res->Bool
 | .blk .. | .sl .. | .mp ..=>true
 | _=>false
theorem has_join {ρ:Heap} {A T:List Res} (HT:Hs G T) (HA:Hs ρ A) (hn:G.nx<=ρ.nx) (hρ:∀ k,k<G.nx->ρ.ent k = .none) (hA:A.all Res.made=true):Hs (G.join ρ) (A++T):=by
 rw [YC] at hA
 have own:∀ {k:Nat} {r:Res},A[k]? = some r->∀ id,r.owner=some id->ρ.ent id ≠ .none:=λ{k r} hk id ho=>by
  have h1:=HA.holds k r hk;have h2:=hA r (Y6 hk)
  cases r with
  | blk id' t c=>cases ho;simp only [Res.holds] at h1;rw [h1];simp
  | mp id' kv=>cases ho;simp only [Res.holds] at h1;rw [h1];simp
  | sl v e sz xs lv=>
   obtain ⟨_,⟨rfl,_⟩|⟨id',rfl,h3⟩⟩:=h1
   ·cases ho
   ·cases ho;rw [h3];simp
  | _=>cases h2
 have ge:∀ {k:Nat} {r:Res},A[k]? = some r->∀ id,r.owner=some id->G.nx<=id:=λhk id ho=>Nat.le_of_not_lt λh=>own hk id ho (hρ id h)
 have cases_:∀ {k:Nat} {r:Res},(A++T)[k]? = some r->(k<A.length/\A[k]? = some r)\/(A.length<=k/\T[k-A.length]? = some r):=λ{k r} hk=>by
  rcases YF k A.length with h|h
  ·rw [YJ h] at hk;exact .inl ⟨h,hk⟩
  ·rw [YP h] at hk;exact .inr ⟨h,hk⟩
 refine ⟨λk r hk=>?_,λk r hk id ho=>?_,λj k r s hne hj hk id ho=>?_,YA _⟩
 ·rcases cases_ hk with ⟨_,hk⟩|⟨_,hk⟩
  ·have h1:=HA.holds _ r hk;have h2:=hA r (Y6 hk)
   cases r with
   | blk id t c=>exact (Z5C (own hk id rfl)).trans h1
   | mp id kv=>exact (Z5C (own hk id rfl)).trans h1
   | sl v e sz xs lv=>
    obtain ⟨h3,⟨rfl,h4⟩|⟨id,rfl,h4⟩⟩:=h1
    ·exact ⟨h3,.inl ⟨rfl,h4⟩⟩
    ·exact ⟨h3,.inr ⟨id,rfl,(Z5C (own hk id rfl)).trans h4⟩⟩
   | _=>cases h2
  ·have h1:=HT.holds _ r hk;have h2:∀ id,r.owner=some id->(G.join ρ).ent id=G.ent id:=λid ho=>Z2k (hρ id (HT.lt _ r hk id ho).2)
   cases r with
   | blk id t c=>exact (h2 id rfl).trans h1
   | mp id kv=>exact (h2 id rfl).trans h1
   | sl v e sz xs lv=>
    obtain ⟨h3,⟨rfl,h4⟩|⟨id,rfl,h4⟩⟩:=h1
    ·exact ⟨h3,.inl ⟨rfl,h4⟩⟩
    ·exact ⟨h3,.inr ⟨id,rfl,(h2 id rfl).trans h4⟩⟩
   | floor m=>exact YT h1 hn
   | hole id=>trivial
   | loop id fn e n ps as_ bo st pd=>exact (h2 id rfl).trans h1
   | fix id en=>exact (h2 id rfl).trans h1
 ·rcases cases_ hk with ⟨_,hk⟩|⟨_,hk⟩
  ·have:=(HA.lt _ r hk id ho).2;exact ⟨YF _ _,this⟩
  ·have:=(HT.lt _ r hk id ho).2;exact ⟨YF _ _,YL this hn⟩
 ·rcases cases_ hj with ⟨q1,hj⟩|⟨q1,hj⟩<;>rcases cases_ hk with ⟨q2,hk⟩|⟨q2,hk⟩
  ·exact HA.sep j k r s hne hj hk id ho
  ·intro h;have a:=ge hj id ho;have b:=(HT.lt _ s hk id h).2;omega
  ·intro h;have a:=ge hk id h;have b:=(HT.lt _ r hj id ho).2;omega
  ·exact HT.sep _ _ r s (by omega) hj hk id ho
theorem FnO.ofFresh {f:FuncId} {fu:Func} {c:Code} {m:Nat} {args:List PV} {PostA:PV->List Res->Prop} (hf:X.P.funcs[f]? = some fu) (hb:fu.body=some c) (hi:X.intr f args=none) (hk:X.keep f=false) (ho:X.opn f=true) (hp:args.all PV.pure=true) (hm:max fu.ntmps args.length=m)
  (h:∀ G T,Hs G T->Runs X m f c (Z2t args) G λx e G'=>(x = .normal\/x = .ret)/\∃ xs,ZY X.P e G' fu.results.toList=some xs/\∃ A,PostA (Z0J xs) A/\Hs G' (A++T)) (hA:∀ r A,PostA r A->A.all Res.made=true) (hq:X.prim f=none:=by rfl) (hfr:X.fresh f=true:=by rfl):FnO X f args PostA:=by
 intro G T H
 subst hm
 obtain ⟨lf,x,e',ρ,h1,hx,xs,h2,A,h3,h4⟩:=(h (G.only []) [] (Has.nil (YA _))).run
 rw [YK] at h4
 have hbody:Z02 X (Zm X) lf f args (G.only [])=some (Z0J xs,ρ):=by
  simp only [Z02,hq,hf,hb,h1];rcases hx with rfl|rfl<;>simp only [h2,Y9]
 have ht:=Z1f (Z6w (X:=X)) hbody
 refine ⟨Z0J xs,G.join ρ,A,?_,h3,has_join H h4 ht.1 (λk hk=>ht.2 k hk (by simp) rfl) (hA _ _ h3)⟩
 show Zm X (.fn f) args G=_
 exact Z0m (lf:=lf) (by simp only [Z2K,hi,hk,YB,if_false,Z0c hp,ho,if_true,hfr,hp,Yi,hbody,Y9])
theorem Ops.callFM {f:FuncId} {args:Array Operand} {ts:Array TypeId} {ys:List PV} {PostA:PV->List Res->Prop} (H:Has G lo hi L) (ha:ZG X e args.toList=some ys) (hf:FnO X f ys PostA) (hfk:(X.fresh f,X.opn f,X.keep f,ys.all PV.pure)=(true,true,false,true)) (hh:base+ops.size<=hi) (hq:dr=true->Z2y ops i=true) (hd:Nat.blt d n=true)
  (hk:∀ r A' G',PostA r A'->Has G' lo hi (A'++L)->Ops X n dr ops base (i+1) l (set e d r) G' K) :
  Ops X n dr ops base i (⟨some d,.call { callee:=.value (.func f),args:=args,argTypes:=ts },t,p,af,none⟩::l) e G K:=by
 simp only [Y4] at hfk
 obtain ⟨f1,f2,f3,f4⟩:=hfk
 obtain ⟨r,G',A',q1,q2,q3⟩:=Z6d [] H (λT _ H=>hf G T H)
 have q0:Zm X (.fn f) ys G=some (r,G'):=q1
 refine .stepS (e1:=set e d r) (G1:=G') ?_ (λhdr=>⟨rfl,.inr (.inr ⟨?_,YT hh H.le⟩)⟩) (hk r A' G' q2 q3)
 ·simp only [Zv,ZP,Z2,ZM,ha,Z1,q0,Y1,putD,if_pos (blt_lt hd),set_eq]
 ·unfold Z1V;simp only [hq hdr,ha,Z1,f1,f2,f3,f4,Y0Y,Yi]
end
end Go.Dn

namespace Go.Dn
open Go Go.Proofs
def Z23 (sz by_:Nat):List PV->Option PV
 | [.v (.sl xs)]=>if (xs.all λy=>y.length==sz)=true/\xs.length*by_<=room then some (.v (.sl xs)) else none
 | _=>none
noncomputable def CA:Ctx:={ P:=Try.prog,glob:=λ_=>none,intr:=λf args=>if f=45 then Z23 1 24 args else if f=46 then Z23 2 32 args else if f=47 then Z23 2 16 args else none,opn:=λf=>f==65,keep:=λf=>false,lit:=true }
noncomputable def C0:Ctx:={ P:=Try.prog,glob:=λ_=>none,intr:=λ_ _=>none,opn:=λ_=>false,keep:=λ_=>false }
theorem Z5H:ProgOK Try.prog:=by
 refine ⟨λf fn h=>?_,by kernel_rfl⟩
 have hall : Try.prog.funcs.all (fun fn => !(fn.name == "runtime.NumGoroutine")) = true := by kernel_rfl
 have:=Array.all_eq_true_iff_forall_mem.1 hall fn (Array.mem_of_getElem? h)
 simpa using this
theorem c0_ok:CtxOK C0:=⟨Z5H,λf args r h=>(by cases h),λf p h=>(by cases h)⟩
theorem Z5q (f:FuncId) (fu:Func) (vs:Array Value) (w:World) (hf:Try.prog.funcs[f]? = some fu) (hb:fu.body.isSome=true):(callFunc f vs).run Try.prog w = .ok (.enter f vs) w:=by
 have hp:(program).run Try.prog w = .ok Try.prog w:=rfl
 simp only [callFunc,Sem.run_bind,hp,Result.andThen_ok,hf,Z5H.names f fu hf]
 cases hc:fu.body with
 | none=>rw [hc] at hb;cases hb
 | some c=>simp
set_option maxRecDepth 100000 in
theorem cloneT45:CloneT Try.prog 22 31 1 24 [.nils]:=⟨rfl,rfl,rfl,rfl,rfl⟩
set_option maxRecDepth 100000 in
theorem cloneT46:CloneT Try.prog 23 45 2 32 [.v (.int .i64 0),.nils]:=⟨rfl,rfl,rfl,rfl,rfl⟩
set_option maxRecDepth 100000 in
theorem cloneT47:CloneT Try.prog 31 43 2 16 [.v (.int .i64 0),.v (.int .i64 0)]:=⟨rfl,rfl,rfl,rfl,rfl⟩
theorem pvrs_one' {s:St} {x:PV} {vs:Array Value} (h:PVRs s [x] vs):∃ v,vs = #[v]/\PVR s x v:=by
 obtain ⟨hl,hx⟩:=h
 have:vs.size=1:=hl.symm
 refine ⟨vs.getD 0 Go.undef,?_,hx 0 x rfl⟩
 apply Array.ext
 ·simpa using this
 ·intro i h1 h2;have:i=0:=by simp at h2;omega
  subst this;simp [Array.getD,h1]
theorem ca_ok:CtxOK CA:=by
 refine ⟨Z5H,λf args r h s hi hG vs hv hp=>?_,λf p h=>by cases h⟩
 simp only [CA] at h
 split at h
 ·rename_i hf;subst hf;refine ⟨Z5q 45 _ _ _ Try.func45 rfl,?_⟩;unfold Z23 at h
  split at h
  ·split at h
   ·rename_i xs hx;cases h;obtain ⟨v,rfl,hv1⟩:=pvrs_one' hv;exact Z3v (X:=C0) (b:=4) c0_ok Try.func45 rfl rfl rfl (λ_=>rfl) cloneT45 hi hx.1 hx.2 hv1
   ·cases h
  ·cases h
 split at h
 ·rename_i hf;subst hf;refine ⟨Z5q 46 _ _ _ Try.func46 rfl,?_⟩;unfold Z23 at h
  split at h
  ·split at h
   ·rename_i xs hx;cases h;obtain ⟨v,rfl,hv1⟩:=pvrs_one' hv;exact Z3v (X:=C0) (b:=4) c0_ok Try.func46 rfl rfl rfl (λ_=>rfl) cloneT46 hi hx.1 hx.2 hv1
   ·cases h
  ·cases h
 split at h
 ·rename_i hf;subst hf;refine ⟨Z5q 47 _ _ _ Try.func47 rfl,?_⟩;unfold Z23 at h
  split at h
  ·split at h
   ·rename_i xs hx;cases h;obtain ⟨v,rfl,hv1⟩:=pvrs_one' hv;exact Z3v (X:=C0) (b:=4) c0_ok Try.func47 rfl rfl rfl (λ_=>rfl) cloneT47 hi hx.1 hx.2 hv1
   ·cases h
  ·cases h
 cases h
def awakeV:List PV->Option PV
 | []=>some (.v (.bool true))
 | _=>none
theorem awake26 (G:Heap):Za CA 60 (.fn 26) [] G=some (.v (.bool true),G):=by kernel_rfl
noncomputable def CX:Ctx:={ P:=Try.prog,glob:=λ_=>none,intr:=λf args=>if f=26 then awakeV args else CA.intr f args,opn:=λf=>f==65,keep:=λf=>false }
theorem cx_ok:CtxOK CX:=by
 refine ⟨Z5H,λf args r h s hi hG vs hv hp=>?_,λf p h=>by cases h⟩
 replace hG:Zp CA s:=λg c h=>by cases h
 simp only [CX] at h
 split at h
 ·rename_i hf;subst hf;unfold awakeV at h
  split at h
  ·cases h;exact Z51 ca_ok 60 (.fn 26) [] _ _ s (awake26 s.G) hi hG vs hv
  ·cases h
 exact ca_ok.intr f args r h s hi hG vs hv hp
theorem cx_intr45 (args:List PV):CX.intr 45 args=Z23 1 24 args:=rfl
theorem cx_intr46 (args:List PV):CX.intr 46 args=Z23 2 32 args:=rfl
theorem cx_intr47 (args:List PV):CX.intr 47 args=Z23 2 16 args:=rfl
end Go.Dn

namespace Go.Dn
open Go
noncomputable section
structure Span where
 From:Int
 To:Int
 deriving DecidableEq
def Span.cs (x:Span):List FV:=[(.int .i64 x.From),(.int .i64 x.To)]
def Span.ok (x:Span):Prop:=okI .i64 x.From/\okI .i64 x.To
structure Granule where
 Index:Int
 Ticks:(List Span)
 deriving DecidableEq
def Granule.cs (x:Granule):List FV:=[(.int .i64 x.Index),(.sl (x.Ticks.map Span.cs))]
def Granule.ok (x:Granule):Prop:=okI .i64 x.Index/\okL 16 Span.ok x.Ticks
structure Form where
 Period:Int
 Count:Int
 Core:(List (List Span))
 Odd:(List Granule)
 deriving DecidableEq
def Form.cs (x:Form):List FV:=[(.int .i64 x.Period),(.int .i64 x.Count),(.sl (x.Core.map (cL Span.cs))),(.sl (x.Odd.map Granule.cs))]
def Form.ok (x:Form):Prop:=okI .i64 x.Period/\okI .i64 x.Count/\okL 24 (okL 16 Span.ok) x.Core/\okL 32 Granule.ok x.Odd
def Zs.s0 (f:Form) (s1:Int×Int):Option ((Int×Int)⊕(Int)) :=
 (bif (decide (s1.2<(f.Core.length:Int))) then
  (at? f.Core s1.2).bind λx1=>
  some (.inl ((w64 (s1.1+(x1.length:Int))),(w64 (s1.2+1))))
 else
  some (.inr s1.1))
def Zs.s1 (f:Form) (s2:Int×Int):Option ((Int×Int)⊕(Int)) :=
 (bif (decide (s2.2<(f.Odd.length:Int))) then
  (at? f.Odd s2.2).bind λx2=>
  some (.inl ((w64 (s2.1+(x2.Ticks.length:Int))),(w64 (s2.2+1))))
 else
  some (.inr s2.1))
def Zs (f:Form):Option (Int) :=
 (loopO (Zs.s0 f) (0,0)).bind λ(y1:Int)=>
 (loopO (Zs.s1 f) (y1,0)).bind λ(y2:Int)=>
 some y2
def Z0V (f:Form):Option (Bool) :=
 (
  (bif ((decide ((f.Core.length:Int)<=12))&&(decide ((f.Odd.length:Int)<=8))) then
   (Zs f).bind λx1=>
   some (decide (x1<=60))
  else
   some false)).bind λ(y1:Bool)=>
 some y1
def ZQ (t:Int):Bool :=
 ((decide (t>=(-1099511627776)))&&(decide (t<=1099511627776)))
def Zx.s0 (l:(List Span)) (s1:Int):Option ((Int)⊕(Jx (Unit) (Bool))) :=
 (bif (decide (s1<(l.length:Int))) then
  (at? l s1).bind λx1=>
  (
   (bif (((!(ZQ x1.From))||(!(ZQ x1.To)))||(decide (x1.From>x1.To))) then
    some true
   else
    (
     (bif (decide (s1>0)) then
      (at? l (w64 (s1-1))).bind λx2=>
      some (decide (x1.From<(w64 (x2.To+2))))
     else
      some false)).bind λ(y3:Bool)=>
    some y3)).bind λ(y2:Bool)=>
  (bif y2 then
   some (.inr (.ret false))
  else
   some (.inl (w64 (s1+1))))
 else
  some (.inr (.go ())))
def Zx (l:(List Span)):Option (Bool) :=
 (loopO (Zx.s0 l) 0).bind λ(y1:Jx (Unit) (Bool))=>
 y1.elim (λr'=>
   some r') λa2=>
 some true
def Z0F (i:Int):Bool :=
 ((decide (i>=(-1099511627776)))&&(decide (i<=1099511627776)))
def ZX.s0 (f:Form) (s1:Int):Option ((Int)⊕(Jx (Unit) (Bool))) :=
 (bif (decide (s1<(f.Core.length:Int))) then
  (at? f.Core s1).bind λx1=>
  (Zx x1).bind λx2=>
  (bif (!x2) then
   some (.inr (.ret false))
  else
   some (.inl (w64 (s1+1))))
 else
  some (.inr (.go ())))
def ZX.s1 (f:Form) (s2:Int):Option ((Int)⊕(Jx (Unit) (Bool))) :=
 (bif (decide (s2<(f.Odd.length:Int))) then
  (at? f.Odd s2).bind λx3=>
  (Zx x3.Ticks).bind λx4=>
  (
   (bif ((!x4)||(!(Z0F x3.Index))) then
    some true
   else
    (
     (bif (decide (s2>0)) then
      (at? f.Odd (w64 (s2-1))).bind λx5=>
      some (decide (x3.Index<=x5.Index))
     else
      some false)).bind λ(y4:Bool)=>
    some y4)).bind λ(y3:Bool)=>
  (bif y3 then
   some (.inr (.ret false))
  else
   some (.inl (w64 (s2+1))))
 else
  some (.inr (.go ())))
def ZX (f:Form):Option (Bool) :=
 (bif ((((f.Count != (f.Core.length:Int))||((f.Count==0) != (f.Period==0)))||(decide (f.Period<0)))||(decide (f.Period>1099511627776))) then
  some false
 else
  (loopO (ZX.s0 f) 0).bind λ(y1:Jx (Unit) (Bool))=>
  y1.elim (λr'=>
    some r') λa2=>
  (loopO (ZX.s1 f) 0).bind λ(y2:Jx (Unit) (Bool))=>
  y2.elim (λr'=>
    some r') λa4=>
  some true)
def Zo.s0 (f:Form) (s2:Int×(List (List Span))):Option ((Int×(List (List Span)))⊕((List (List Span)))) :=
 (bif (decide (s2.1<(f.Core.length:Int))) then
  (
   (
    (at? f.Core s2.1).bind λx1=>
    (bif (decide ((x1.length:Int)>0)) then
     (app? 24 s2.2 [x1]).bind λx2=>
     some x2
    else
     some s2.2)).bind λ(y3:(List (List Span)))=>
   some y3).bind λ(y2:(List (List Span)))=>
  some (.inl ((w64 (s2.1+1)),y2))
 else
  some (.inr s2.2))
def Zo.s1 (f:Form) (y1:(List (List Span))) (s3:Int):Option ((Int)⊕(Jx (Unit) (Bool))) :=
 (bif (decide (s3<(y1.length:Int))) then
  (
   (
    (at? y1 s3).bind λx3=>
    (nz? (y1.length:Int)).bind λu1=>
    (at? y1 ((w64 (s3+1)).tmod (y1.length:Int))).bind λx4=>
    (
     (bif ((w64 (s3+1))==(y1.length:Int)) then
      some f.Period
     else
      some 0)).bind λ(y7:Int)=>
    (at? x3 (w64 ((x3.length:Int)-1))).bind λx5=>
    (at? x4 0).bind λx6=>
    (bif (decide (x5.To>=(w64 (x6.From+y7)))) then
     some (.ret false)
    else
     some (.go ()))).bind λ(y6:Jx (Unit) (Bool))=>
   y6.elim (λr'=>
     some (.ret r')) λa4=>
   some (.go ())).bind λ(y5:Jx (Unit) (Bool))=>
  y5.elim (λr'=>
    some (.inr (.ret r'))) λa5=>
  some (.inl (w64 (s3+1)))
 else
  some (.inr (.go ())))
def Zo (f:Form):Option (Bool) :=
 (loopO (Zo.s0 f) (0,[])).bind λ(y1:(List (List Span)))=>
 (loopO (Zo.s1 f y1) 0).bind λ(y4:Jx (Unit) (Bool))=>
 y4.elim (λr'=>
   some r') λa6=>
 some true
def Z3.s0 (x':(List Granule)) (target:Int) (cmp:Granule->Int->Option Int) (s1:Int×Int):Option ((Int×Int)⊕(Int)) :=
 (bif (decide (s1.1<s1.2)) then
  (
   (at? x' (w64 ((IntKind.u64.wrap (w64 (s1.1+s1.2))).fdiv (2 ^ 1)))).bind λx1=>
   (cmp x1 target).bind λx2=>
   (bif (decide (x2<0)) then
    some ((w64 ((w64 ((IntKind.u64.wrap (w64 (s1.1+s1.2))).fdiv (2 ^ 1)))+1)),s1.2)
   else
    some (s1.1,(w64 ((IntKind.u64.wrap (w64 (s1.1+s1.2))).fdiv (2 ^ 1)))))).bind λ(y2:Int×Int)=>
  some (.inl (y2.1,y2.2))
 else
  some (.inr s1.1))
def Z3 (x':(List Granule)) (target:Int) (cmp:Granule->Int->Option Int):Option (Int×Bool) :=
 (loopO (Z3.s0 x' target cmp) (0,(x'.length:Int))).bind λ(y1:Int)=>
 (
  (bif (decide (y1<(x'.length:Int))) then
   (at? x' y1).bind λx3=>
   (cmp x3 target).bind λx4=>
   some (x4==0)
  else
   some false)).bind λ(y3:Bool)=>
 some (y1,y3)
def Z0h (x':Int):Bool :=
 (x' != x')
def Z0g (x':Int) (y:Int):Int :=
 (bif (Z0h x') then
  (bif (Z0h y) then
   0
  else
   (-1))
 else
  (bif (Z0h y) then
   1
  else
   (bif (decide (x'<y)) then
    (-1)
   else
    (bif (decide (x'>y)) then
     1
    else
     0))))
def Z1Z (g:Granule) (i:Int):Int :=
 (Z0g g.Index i)
def Z2l (f:Form) (i:Int):Option (Int×Bool) :=
 (Z3 f.Odd i (λz0 z1=>some (Z1Z z0 z1))).bind λx1=>
 some (x1.1,x1.2)
def Z2J (a:Int) (b:Int):Option (Int×Int×Int) :=
 (bif (b==0) then
  some (0,0,11)
 else
  (bif ((b==(-1))&&(a==(-9223372036854775808))) then
   some (0,0,10)
  else
   (nz? b).bind λu1=>
   (nz? b).bind λu2=>
   (
    (bif (((a.tmod b) != 0)&&((decide ((a.tmod b)<0)) != (decide (b<0)))) then
     some ((w64 ((w64 (a.tdiv b))-1)),(w64 ((a.tmod b)+b)))
    else
     some ((w64 (a.tdiv b)),(a.tmod b)))).bind λ(y1:Int×Int)=>
   some (y1.1,y1.2,0)))
def Z0B (a:Int):Int :=
 (bif (decide (a<0)) then
  (IntKind.u64.wrap (0-(IntKind.u64.wrap a)))
 else
  (IntKind.u64.wrap a))
def Zu (x':Int) (y:Int):Int×Int :=
 ((IntKind.u64.wrap ((IntKind.u64.wrap ((IntKind.u64.wrap ((x'.fdiv (2 ^ 32))*(y.fdiv (2 ^ 32))))+((IntKind.u64.wrap ((IntKind.u64.wrap ((x'.fdiv (2 ^ 32))*(iAnd .u64 y 4294967295)))+((IntKind.u64.wrap ((iAnd .u64 x' 4294967295)*(iAnd .u64 y 4294967295))).fdiv (2 ^ 32)))).fdiv (2 ^ 32))))+((IntKind.u64.wrap ((iAnd .u64 (IntKind.u64.wrap ((IntKind.u64.wrap ((x'.fdiv (2 ^ 32))*(iAnd .u64 y 4294967295)))+((IntKind.u64.wrap ((iAnd .u64 x' 4294967295)*(iAnd .u64 y 4294967295))).fdiv (2 ^ 32)))) 4294967295)+(IntKind.u64.wrap ((iAnd .u64 x' 4294967295)*(y.fdiv (2 ^ 32)))))).fdiv (2 ^ 32)))),(IntKind.u64.wrap (x'*y)))
def Z1D (n:Int) (minus:Bool):Int×Int :=
 (bif (minus&&(decide (n<=9223372036854775808))) then
  ((w64 (IntKind.u64.wrap (0-n))),0)
 else
  (bif ((!minus)&&(decide (n<=9223372036854775807))) then
   ((w64 n),0)
  else
   (0,10)))
def Z1t (a:Int) (b:Int):Int×Int :=
 (bif (((Zu (Z0B a) (Z0B b)).1) != 0) then
  (0,10)
 else
  ((Z1D ((Zu (Z0B a) (Z0B b)).2) ((decide (a<0)) != (decide (b<0)))).1,(Z1D ((Zu (Z0B a) (Z0B b)).2) ((decide (a<0)) != (decide (b<0)))).2))
def Z0x (f:Form) (i:Int):Option ((List Span)×Int×Int) :=
 (Z2l f i).bind λx1=>
 (bif x1.2 then
  (at? f.Odd x1.1).bind λx2=>
  some (x2.Ticks,0,0)
 else
  (bif (f.Count==0) then
   some ([],0,0)
  else
   (Z2J i f.Count).bind λx3=>
   (at? f.Core x3.2.1).bind λx4=>
   some (x4,(Z1t x3.1 f.Period).1,(Z1t x3.1 f.Period).2)))
def Z4 (a:Int) (b:Int):Int×Int :=
 (bif (((decide ((w64 (a+b))>a)) != (decide (b>0)))&&(b != 0)) then
  (0,10)
 else
  ((w64 (a+b)),0))
def ZZ.s0 (l:(List Span)) (by':Int) (s2:Int×(List Span)):Option ((Int×(List Span))⊕(Jx ((List Span)) ((List Span)×Int))) :=
 (bif (decide (s2.1<(l.length:Int))) then
  (at? l s2.1).bind λx1=>
  (bif ((((((Z4 x1.From by').2) != 0)||(((Z4 x1.To by').2) != 0))||(!(ZQ ((Z4 x1.From by').1))))||(!(ZQ ((Z4 x1.To by').1)))) then
   some (.inr (.ret ([],20)))
  else
   (app? 16 s2.2 [(Span.mk ((Z4 x1.From by').1) ((Z4 x1.To by').1))]).bind λx2=>
   some (.inl ((w64 (s2.1+1)),x2)))
 else
  some (.inr (.go s2.2)))
def ZZ (l:(List Span)) (by':Int):Option ((List Span)×Int) :=
 (loopO (ZZ.s0 l by') (0,[])).bind λ(y1:Jx ((List Span)) ((List Span)×Int))=>
 y1.elim (λr'=>
   some r') λa2=>
 some (a2,0)
def Z0U (f:Form) (i:Int):Option ((List Span)×Int) :=
 (bif (!(Z0F i)) then
  some ([],20)
 else
  (Z0x f i).bind λx1=>
  (bif ((x1.1.length:Int)==0) then
   some ([],0)
  else
   (bif (x1.2.2 != 0) then
    some ([],20)
   else
    (ZZ x1.1 x1.2.1).bind λx2=>
    some (x2.1,x2.2))))
def Z8.s0 (s:(List (List Span))) (f:(List Span)->Option Bool) (s1:Int):Option ((Int)⊕(Jx (Unit) (Int))) :=
 (bif (decide (s1<(s.length:Int))) then
  (at? s s1).bind λx1=>
  (f x1).bind λx2=>
  (bif x2 then
   some (.inr (.ret s1))
  else
   some (.inl (w64 (s1+1))))
 else
  some (.inr (.go ())))
def Z8 (s:(List (List Span))) (f:(List Span)->Option Bool):Option (Int) :=
 (loopO (Z8.s0 s f) 0).bind λ(y1:Jx (Unit) (Int))=>
 y1.elim (λr'=>
   some r') λa2=>
 some (-1)
def ZW (s:(List (List Span))) (f:(List Span)->Option Bool):Option (Bool) :=
 (Z8 s f).bind λx1=>
 some (decide (x1>=0))
def Z2R (l:(List Span)):Bool :=
 (decide ((l.length:Int)>0))
def Z32 (f:Form):Option (Bool) :=
 (ZW f.Core (λz0=>some (Z2R z0))).bind λx1=>
 some (!x1)
def Z2u (f:Form) (i:Int):Option (Bool) :=
 (Z0x f i).bind λx1=>
 some (decide ((x1.1.length:Int)>0))
def Ze.s0 (f:Form) (by':Int) (s1:Int):Option ((Int)⊕(Jx (Unit) (Int×Bool))) :=
 (bif ((decide (s1>=0))&&(decide (s1<(f.Odd.length:Int)))) then
  (at? f.Odd s1).bind λx3=>
  (bif (decide ((x3.Ticks.length:Int)>0)) then
   (at? f.Odd s1).bind λx4=>
   some (.inr (.ret (x4.Index,true)))
  else
   some (.inl (w64 (s1+by'))))
 else
  some (.inr (.go ())))
def Ze.s1 (f:Form) (by':Int) (s2:Int):Option ((Int)⊕(Jx (Unit) (Int×Bool))) :=
 (bif (Z0F s2) then
  (Z2u f s2).bind λx5=>
  (bif x5 then
   some (.inr (.ret (s2,true)))
  else
   some (.inl (w64 (s2+by'))))
 else
  some (.inr (.go ())))
def Ze (f:Form) (from':Int) (by':Int):Option (Int×Bool) :=
 (Z32 f).bind λx1=>
 (bif x1 then
  (Z2l f from').bind λx2=>
  (
   (bif ((decide (by'<0))&&(!x2.2)) then
    some (w64 (x2.1-1))
   else
    some x2.1)).bind λ(y1:Int)=>
  (loopO (Ze.s0 f by') y1).bind λ(y2:Jx (Unit) (Int×Bool))=>
  y2.elim (λr'=>
    some r') λa2=>
  some (0,false)
 else
  (loopO (Ze.s1 f by') from').bind λ(y3:Jx (Unit) (Int×Bool))=>
  y3.elim (λr'=>
    some r') λa4=>
  some (0,false))
def Z1G (f:Form) (i:Int):Option (Int×Bool) :=
 (bif (decide (i<=(-1099511627776))) then
  some (0,false)
 else
  (Ze f (iMin (w64 (i-1)) 1099511627776) (-1)).bind λx1=>
  some (x1.1,x1.2))
def Z1F (f:Form) (i:Int):Option (Int×Bool) :=
 (bif (decide (i>=1099511627776)) then
  some (0,false)
 else
  (Ze f (iMax (w64 (i+1)) (-1099511627776)) 1).bind λx1=>
  some (x1.1,x1.2))
def Z0G (a:(List Span)) (b:(List Span)):Option (Bool) :=
 (
  (bif (((a.length:Int)==0)||((b.length:Int)==0)) then
   some true
  else
   (at? a (w64 ((a.length:Int)-1))).bind λx1=>
   (at? b 0).bind λx2=>
   some (decide (x1.To<x2.From)))).bind λ(y1:Bool)=>
 some y1
def Z0r (f:Form) (i:Int):Option (Bool) :=
 (Z0U f i).bind λx1=>
 (bif (x1.2 != 0) then
  some false
 else
  (Z1G f i).bind λx2=>
  (Z1F f i).bind λx3=>
  (
   (bif x2.2 then
    (Z0U f x2.1).bind λx4=>
    (bif (x4.2 != 0) then
     some (.ret false)
    else
     some (.go x4.1))
   else
    some (.go []))).bind λ(y1:Jx ((List Span)) (Bool))=>
  y1.elim (λr'=>
    some r') λa2=>
  (
   (bif x3.2 then
    (Z0U f x3.1).bind λx5=>
    (bif (x5.2 != 0) then
     some (.ret false)
    else
     some (.go x5.1))
   else
    some (.go []))).bind λ(y2:Jx ((List Span)) (Bool))=>
  y2.elim (λr'=>
    some r') λa4=>
  (Z0G a2 x1.1).bind λx6=>
  (
   (bif x6 then
    (Z0G x1.1 a4).bind λx7=>
    some x7
   else
    some false)).bind λ(y3:Bool)=>
  (
   (bif y3 then
    (Z0G a2 a4).bind λx8=>
    some x8
   else
    some false)).bind λ(y4:Bool)=>
  some y4)
def Z03.s0 (f:Form) (s1:Int):Option ((Int)⊕(Jx (Unit) (Int))) :=
 (bif (decide (s1<(f.Odd.length:Int))) then
  (at? f.Odd s1).bind λx4=>
  (Z0r f x4.Index).bind λx5=>
  (bif (!x5) then
   some (.inr (.ret 50))
  else
   some (.inl (w64 (s1+1))))
 else
  some (.inr (.go ())))
def Z03 (f:Form):Option (Int) :=
 (
  (bif ((decide ((f.Core.length:Int)>6000))||(decide ((f.Odd.length:Int)>6000))) then
   some true
  else
   (Zs f).bind λx1=>
   some (decide (x1>60000)))).bind λ(y1:Bool)=>
 (bif y1 then
  some 3
 else
  (ZX f).bind λx2=>
  (
   (bif (!x2) then
    some true
   else
    (Zo f).bind λx3=>
    some (!x3))).bind λ(y2:Bool)=>
  (bif y2 then
   some 50
  else
   (loopO (Z03.s0 f) 0).bind λ(y3:Jx (Unit) (Int))=>
   y3.elim (λr'=>
     some r') λa2=>
   some 0))
def Z0H (f:Form):Option (Bool) :=
 (Z0V f).bind λx1=>
 (
  (bif x1 then
   (Z03 f).bind λx2=>
   some (x2==0)
  else
   some false)).bind λ(y1:Bool)=>
 some y1
def Z0W:Bool:=true
def ZU.s0 (a:(List Span)) (b:(List Span)) (s1:Int):Option ((Int)⊕(Jx (Unit) (Bool))) :=
 (bif (decide (s1<(a.length:Int))) then
  (at? a s1).bind λx1=>
  (at? b s1).bind λx2=>
  (bif (!((x2.From==x1.From)&&((x2.To==x1.To)&&true))) then
   some (.inr (.ret false))
  else
   some (.inl (w64 (s1+1))))
 else
  some (.inr (.go ())))
def ZU (a:(List Span)) (b:(List Span)):Option (Bool) :=
 (bif ((a.length:Int) != (b.length:Int)) then
  some false
 else
  (loopO (ZU.s0 a b) 0).bind λ(y1:Jx (Unit) (Bool))=>
  y1.elim (λr'=>
    some r') λa2=>
  some true)
def ZD.s0 (a:Form) (b:Form) (s1:Int):Option ((Int)⊕(Jx (Unit) (Bool))) :=
 (bif (decide (s1<(a.Core.length:Int))) then
  (at? a.Core s1).bind λx1=>
  (at? b.Core s1).bind λx2=>
  (ZU x1 x2).bind λx3=>
  (bif (!x3) then
   some (.inr (.ret false))
  else
   some (.inl (w64 (s1+1))))
 else
  some (.inr (.go ())))
def ZD.s1 (a:Form) (b:Form) (s2:Int):Option ((Int)⊕(Jx (Unit) (Bool))) :=
 (bif (decide (s2<(a.Odd.length:Int))) then
  (at? a.Odd s2).bind λx4=>
  (at? b.Odd s2).bind λx5=>
  (
   (bif (x4.Index != x5.Index) then
    some true
   else
    (at? b.Odd s2).bind λx6=>
    (ZU x4.Ticks x6.Ticks).bind λx7=>
    some (!x7))).bind λ(y3:Bool)=>
  (bif y3 then
   some (.inr (.ret false))
  else
   some (.inl (w64 (s2+1))))
 else
  some (.inr (.go ())))
def ZD (a:Form) (b:Form):Option (Bool) :=
 (bif ((((a.Period != b.Period)||(a.Count != b.Count))||((a.Core.length:Int) != (b.Core.length:Int)))||((a.Odd.length:Int) != (b.Odd.length:Int))) then
  some false
 else
  (loopO (ZD.s0 a b) 0).bind λ(y1:Jx (Unit) (Bool))=>
  y1.elim (λr'=>
    some r') λa2=>
  (loopO (ZD.s1 a b) 0).bind λ(y2:Jx (Unit) (Bool))=>
  y2.elim (λr'=>
    some r') λa4=>
  some true)
def Z0j (l:(List Span)):Option ((List Span)) :=
 (new? 16 (l.length:Int) (Span.mk 0 0)).bind λx1=>
 some (cpy x1 l)
def ZE.s0 (f:Form) (s2:Int×(List (List Span))):Option ((Int×(List (List Span)))⊕((List (List Span)))) :=
 (bif (decide (s2.1<(f.Core.length:Int))) then
  (at? f.Core s2.1).bind λx1=>
  (Z0j x1).bind λx2=>
  (app? 24 s2.2 [x2]).bind λx3=>
  some (.inl ((w64 (s2.1+1)),x3))
 else
  some (.inr s2.2))
def ZE.s1 (f:Form) (s4:Int×(List Granule)):Option ((Int×(List Granule))⊕((List Granule))) :=
 (bif (decide (s4.1<(f.Odd.length:Int))) then
  (at? f.Odd s4.1).bind λx4=>
  (Z0j x4.Ticks).bind λx5=>
  (app? 32 s4.2 [(Granule.mk x4.Index x5)]).bind λx6=>
  some (.inl ((w64 (s4.1+1)),x6))
 else
  some (.inr s4.2))
def ZE (f:Form):Option (Form) :=
 (loopO (ZE.s0 f) (0,[])).bind λ(y1:(List (List Span)))=>
 (loopO (ZE.s1 f) (0,[])).bind λ(y2:(List Granule))=>
 some (Form.mk f.Period f.Count y1 y2)
def Z06.s0 (l:(List Span)) (by':Int) (s2:Int×(List Span)):Option ((Int×(List Span))⊕(Jx ((List Span)) (Unit))) :=
 (bif (decide (s2.1<(l.length:Int))) then
  (at? l s2.1).bind λx1=>
  (bif ((((((Z4 x1.From by').2) != 0)||(((Z4 x1.To by').2) != 0))||(!(ZQ ((Z4 x1.From by').1))))||(!(ZQ ((Z4 x1.To by').1)))) then
   some (.inr (.ret ()))
  else
   (app? 16 s2.2 [(Span.mk ((Z4 x1.From by').1) ((Z4 x1.To by').1))]).bind λx2=>
   some (.inl ((w64 (s2.1+1)),x2)))
 else
  some (.inr (.go s2.2)))
def Z06 (l:(List Span)) (by':Int):Option ((List Span)×Int) :=
 (loopO (Z06.s0 l by') (0,[])).bind λ(y1:Jx ((List Span)) (Unit))=>
 y1.elim (λa4=>
   some ([],20)) λa3=>
 some (a3,0)
def Zn (s:(List (List Span))):Option ((List (List Span))) :=
 (some? s).bind λu1=>
 (app? 24 [] s).bind λx1=>
 some x1
def Zc (s:(List Granule)):Option ((List Granule)) :=
 (some? s).bind λu1=>
 (app? 32 [] s).bind λx1=>
 some x1
def Zy (s:(List Span)):Option ((List Span)) :=
 (some? s).bind λu1=>
 (app? 16 [] s).bind λx1=>
 some x1
def own? (f:Form):Option Unit :=
 (bif (((decide (f.Core.length*24<=room))&&(decide (f.Odd.length*32<=room)))&&((f.Core.all λr=>decide (r.length*16<=room))&&(f.Odd.all λg=>decide (g.Ticks.length*16<=room)))) then
  some ()
 else
  none)
def Zf.s0 (x3:(List Span)×Int) (s1:Int×(List Span)):Option ((Int×(List Span))⊕(Unit)) :=
 (bif (decide (s1.1<(x3.1.length:Int))) then
  (at? s1.2 s1.1).bind λx4=>
  (at? s1.2 s1.1).bind λx5=>
  some (.inl ((w64 (s1.1+1)),(s1.2.set (s1.1).toNat (Span.mk (w64 (x4.From-1)) x5.To))))
 else
  some (.inr ()))
def Zf (f:Form) (i:Int):Option (Bool) :=
 (Z0H f).bind λx1=>
 (bif (!x1) then
  some Z0W
 else
  (ZE f).bind λx2=>
  (Z0U f i).bind λx3=>
  (loopO (Zf.s0 x3) (0,x3.1)).bind λ(y1:Unit)=>
  (own? f).bind λu1=>
  (ZD f x2).bind λx6=>
  some (x6&&Z0W))
end
end Go.Dn

namespace Go.Dn
open Go Go.Proofs
set_option maxRecDepth 100000
set_option maxHeartbeats 4000000
abbrev vl {α:Type} (c:α->List FV) (x:List α):PV:=.v (.sl (x.map c))
abbrev vi (x:Int):PV:=.v (.int .i64 x)
abbrev vu (x:Int):PV:=.v (.int .u64 x)
abbrev vb (x:Bool):PV:=.v (.bool x)
section
theorem Ops.wt {X:Ctx} {n:Nat} {dr:Bool} {ops:Array Oper} {base i:Nat} {l:List Oper} {e:Env} {G:Heap} {K:Env->Heap->Prop} {op:Op} {t:TypeId} {p:String} {af:Array Edge} {j:Nat} {g:Tmp} {w:Bool} {dst:Option Tmp} (hg:(ops[j]?).bind (·.dst)=some g) (he:e g = .v (.bool w)) (hk:Ops X n dr ops base i (⟨dst,op,t,p,af,none⟩::l) e G K):Ops X n dr ops base i (⟨dst,op,t,p,af,some (j,w)⟩::l) e G K:=.wanted hg he hk
variable {X:Ctx} {n:Nat} {dr:Bool} {ops:Array Oper} {base i:Nat} {l:List Oper} {e:Env} {G:Heap} {K:Env->Heap->Prop} {d:Nat} {t t1 t2:TypeId} {p:String} {af:Array Edge} {x y:Operand} {lo hi:Nat} {L:List Res}
theorem Ops.mv (v:PV) (hx:Z1 X e x=some v) (hd:Nat.blt d n=true) (hk:Ops X n dr ops base (i+1) l (set e d v) G K):Ops X n dr ops base i (⟨some d,.move x,t,p,af,none⟩::l) e G K:=.move hx hd hk
theorem Ops.av (v:PV) (hx:Z1 X e x=some v) (hd:Nat.blt d n=true) (hk:Ops X n dr ops base (i+1) l (set e d v) G K):Ops X n dr ops base i (⟨some d,.assign x,t,p,af,none⟩::l) e G K:=.assign hx hd hk
theorem Ops.it {op:BinOp} {k:IntKind} (m m':Int) (r:FV) (hx:Z1 X e x=some (.v (.int k m))) (hy:Z1 X e y=some (.v (.int k m'))) (hop:(op != .shl&&op != .shr)=true) (hr:Z3r op k m m'=some r) (hd:Nat.blt d n=true) (hk:Ops X n dr ops base (i+1) l (set e d (.v r)) G K):Ops X n dr ops base i (⟨some d,.binOp op t1 x y t2,t,p,af,none⟩::l) e G K:=.int hx hy hop hr hd hk
theorem Ops.xt (v:PV) {vs:List PV} {j:Nat} (hx:Z1 X e x=some (.tup vs)) (hj:vs[j]? = some v) (hd:Nat.blt d n=true) (hk:Ops X n dr ops base (i+1) l (set e d v) G K):Ops X n dr ops base i (⟨some d,.extract x j,t,p,af,none⟩::l) e G K:=.extract hx hj hd hk
theorem Ops.ld (v:PV) {id ver off:Nat} {te:TypeId} {cells:List PV} (H:Has G lo hi L) (k:Nat) (hk:L[k]? = some (.blk id te cells)) (hv:cells.length=ver) (hx:Z1 X e x=some (.ptr id ver off)) (hg:tagg X.P t1=some false) (hc:cells[off]? = some v) (ha:dr=true->Seen ops base i id false) (hd:Nat.blt d n=true) (hk':Ops X n dr ops base (i+1) l (set e d v) G K):Ops X n dr ops base i (⟨some d,.load t1 x,t,p,af,none⟩::l) e G K:=.Z1R H k hk hv hx hg hc ha hd hk'
end
theorem sk {α:Type} {a b:α} (h:some a=some b):b=a:=(Option.some.inj h).symm
theorem V {α:Sort _} {a:α}:a=a:=rfl
theorem U:True:=trivial
theorem Has.wk {G:Heap} {lo hi:Nat} {L:List Res} (H:Has G lo hi L) {lo':Nat} (h:lo<=lo'):Has G lo' hi L:=H.weak h (YA _)
theorem sj {α:Type} {a b:α} (h:some a=some b):a=b:=Option.some.inj h
abbrev vF (f:Form):List PV:=[vi f.Period,vi f.Count,vl (cL Span.cs) f.Core,vl Granule.cs f.Odd]
theorem Z52 {f:Form} {r:Int} (h:Zs f=some r):Fn CX 33 [(.agg (vs (Form.cs f)))] (vi r):=by
 refine Fn.go Try.func33 V λG H=>?_;unfold Zs at h;refine .tR 2 V H λb1 G H=>(.bxc (cs:=(vF f)) H V V V λG H=>(.aV V (.na H λH=>(.tR 1 V H λb2 G H=>(.aV V (.na H λH=>(.then (.tR 4 V H λb3 G H=>?_))))))));refine .fV H 0 V (.lV H 0 V (.nV V (.mV V (.na H λH=>(.inBlock ?_)))));refine .lp h (λs1=>[(1,(.ptr (b1+0) 4 0)),(3,(vi s1.1)),(9,(vl (cL Span.cs) f.Core)),(10,(vi (f.Core.length:Int))),(11,(vi s1.2))]) (λs1=>[.blk (b1+0) 25 (vF f)]) (.exit 0) (λy1=>[(1,(.ptr (b1+0) 4 0)),(3,(vi y1))]) (λy1=>[.blk (b1+0) 25 (vF f)]) (EI V) H (λs1 e G H z h=>?_) λy1 e G H h=>?_
 ·unfold Zs.s0 at h;refine .tR 1 V H λb4 G H=>(.iV V (.na H λH=>(.then ?_)));refine .wh h V ?_ ?_<;>intro h
  ·refine .skip (.then (.inBlock (.tR 3 V H λb5 G H=>?_)));obtain ⟨x1,q1,h⟩:=bs h;refine .jV q1 V (.pV V (.aV V (.na H λH=>(.Z9 5 V H λb6 G H=>(.mV V (.mV V (.nV V (.iV V ?_))))))));refine .aV V (.na H λH=>(.Z9 2 V H λb7 G H=>(.iV V (.mV V (.na H λH=>?_)))));obtain rfl:=sj h;exact ⟨V,EI V,H⟩
  refine .exit ?_;obtain rfl:=sj h;exact ⟨nofun,⟨V,EI V,H⟩⟩
 refine .then (.tR 4 V H λb8 G H=>(.fV H 0 V (.lV H 0 V (.nV V (.mV V (.na H λH=>(.inBlock ?_)))))));refine .lp h (λs2=>[(3,(vi s2.1)),(21,(vl Granule.cs f.Odd)),(22,(vi (f.Odd.length:Int))),(23,(vi s2.2))]) (λs2=>[]) (.exit 2) (λy2=>[(3,(vi y2))]) (λy2=>[]) (EI V) (H.erase 0) (λs2 e G H z h=>?_) λy2 e G H h=>?_
 ·unfold Zs.s1 at h;refine .tR 1 V H λb9 G H=>(.iV V (.na H λH=>(.then ?_)));refine .wh h V ?_ ?_<;>intro h
  ·refine .skip (.then (.inBlock (.tR 4 V H λb10 G H=>?_)));obtain ⟨x2,q2,h⟩:=bs h;refine .jV q2 V (.qV [(.int .i64 x2.Index),(.sl (x2.Ticks.map Span.cs))] V (.alc (cs:=[(vi 0),.nils]) H V V λG H=>(.sV [(vi x2.Index),(vl Span.cs x2.Ticks)] H 0 V λG H=>(.na H λH=>(.Z9 6 V H λb11 G H=>(.mV V (.fV H 0 V (.lV H 0 V ?_))))))));refine .nV V (.iV V (.aV V (.na H λH=>(.Z9 2 V H λb12 G H=>(.iV V (.mV V (.na H λH=>?_)))))));obtain rfl:=sj h;exact ⟨V,EI V,(H.erase 0)⟩
  refine .exit ?_;obtain rfl:=sj h;exact ⟨nofun,⟨V,EI V,H⟩⟩
 refine .tR 2 V H λb13 G H=>(.mV V (.aV V (.na H λH=>(.ret ?_))));obtain rfl:=sj h;exact Ends.eR V
theorem Z4J {f:Form} {r:Bool} (h:Z0V f=some r):Fn CX 36 [(.agg (vs (Form.cs f)))] (vb r):=by
 refine Fn.go Try.func36 V λG H=>?_;unfold Z0V at h;refine .tR 2 V H λb1 G H=>(.bxc (cs:=(vF f)) H V V V λG H=>(.aV V (.na H λH=>(.tR 16 V H λb2 G H=>(.fV H 0 V (.lV H 0 V (.nV V (.iV V ?_))))))));refine .mV V ?_;refine .md H 5 [(12,(vb ((decide ((f.Core.length:Int)<=12))&&(decide ((f.Odd.length:Int)<=8))))),(1,(.ptr (b1+0) 4 0))] [.blk (b1+0) 25 (vF f)] V ?_ λe G H=>?_
 ·refine .split V V ?_ ?_<;>intro hc1
  ·refine .fV H 0 V (.lV H 0 V (.nV V (.iV V (.kT V (.nil ?_)))));exact ⟨⟨Z3Z hc1,V,U⟩,H.wk (by omega)⟩
  ·refine .ps 4 V (.kF V (.nil ?_));exact ⟨⟨Z3w hc1,V,U⟩,H.wk (by omega)⟩
 refine .mV V ?_;obtain ⟨y1,hj1,h⟩:=bs h;refine .md H 4 [(17,(vb y1))] [] V ?_ λe G H=>?_
 ·refine .sp hj1 V ?_ ?_<;>intro h
  ·refine .LV (vF f) H 0 V (.wt V V ?_);obtain ⟨x1,q1,h⟩:=bs h;refine .cV (Z52 q1) V (.iV V (.kT V (.nil ?_)));obtain rfl:=sj h;exact ⟨EI V,(H.erase 0).wk (by omega)⟩
  refine .ps 3 V (.kF V (.nil ?_));obtain rfl:=sj h;exact ⟨EI V,(H.erase 0).wk (by omega)⟩
 refine .aV V (.na H λH=>(.ret ?_));obtain rfl:=sj h;exact Ends.eR V
theorem Z11 {t:Int} {r:Bool} (h:ZQ t=r):Fn CX 41 [(vi t)] (vb r):=by
 refine Fn.go Try.func41 V λG H=>?_;unfold ZQ at h;refine .tR 1 V H λb1 G H=>(.aV V (.na H λH=>(.tR 7 V H λb2 G H=>(.mV V (.iV V (.mV V ?_))))));refine .md H 3 [(8,(vb ((decide (t>=(-1099511627776)))&&(decide (t<=1099511627776)))))] [] V ?_ λe G H=>?_
 ·refine .split V V ?_ ?_<;>intro hc1
  ·refine .mV V (.iV V (.kT V (.nil ?_)));exact ⟨⟨Z3Z hc1,U⟩,H.wk (by omega)⟩
  ·refine .ps 2 V (.kF V (.nil ?_));exact ⟨⟨Z3w hc1,U⟩,H.wk (by omega)⟩
 refine .aV V (.na H λH=>(.ret ?_));subst h;exact Ends.eR V
theorem Z3h {l:(List Span)} {r:Bool} (h:Zx l=some r):Fn CX 17 [(vl Span.cs l)] (vb r):=by
 refine Fn.go Try.func17 V λG H=>?_;unfold Zx at h;refine .tR 1 V H λb1 G H=>(.aV V (.na H λH=>(.then (.tR 3 V H λb2 G H=>(.mV V (.nV V (.mV V (.na H λH=>?_))))))));refine .inBlock ?_;obtain ⟨y1,hj1,h⟩:=bs h;obtain ⟨n1,hj1⟩:=ZL.1 hj1;refine .mono (Runs.loopO hj1 (λs1 e G=>ZC e [(0,(vl Span.cs l)),(5,(vl Span.cs l)),(6,(vi (l.length:Int))),(7,(vi s1))]/\Hs G []) (λy1 x e G=>(∃ a1,y1=(.go a1)/\x = .exit 0/\ZC e []/\Hs G [])\/(∃ r',y1=(.ret r')/\x = .ret/\Ends CX Try.f17.results.toList (vb r') x e G)) ⟨EI V,H⟩ ?_) ?_
 ·intro s1 e G hI z h;obtain ⟨he,H⟩:=hI;obtain ⟨e,rfl⟩:=he.ex;unfold Zx.s0 at h;refine .tR 1 V H λb3 G H=>(.iV V (.na H λH=>(.then ?_)));refine .wh h V ?_ ?_<;>intro h
  ·refine .skip (.then (.inBlock (.tR 6 V H λb4 G H=>(.mV V ?_))));obtain ⟨x1,q1,h⟩:=bs h;refine .jV q1 V (.qV [(.int .i64 x1.From),(.int .i64 x1.To)] V (.alc (cs:=[(vi 0),(vi 0)]) H V V λG H=>(.aV V (.sV [(vi x1.From),(vi x1.To)] H 0 V λG H=>(.na H λH=>(.then (.Z22 33 V (by kernel_rfl) H λb5 G H B5=>(.ZA H 0 V V V V V (so (B5 0 _ V _ V)) V ?_))))))));refine .ld (vi x1.From) H 0 V V V V V (so (B5 0 _ V _ V)) V (.cV (Z11 V) V (.tV V (.mV V ?_)));refine .md H 5 [(21,(vb ((!(ZQ x1.From))||(!(ZQ x1.To))))),(0,(vl Span.cs l)),(3,(vi s1)),(4,(.ptr (b4+3) 2 0)),(5,(vl Span.cs l)),(6,(vi (l.length:Int))),(7,(vi s1))] [.blk (b4+3) 43 [(vi x1.From),(vi x1.To)]] rfl ?_ λe G H=>?_
   ·refine .split V V ?_ ?_<;>intro hc2
    ·refine .ps 4 V (.kT V (.nil ?_));exact ⟨⟨or_T hc2,V,V,V,V,V,V,U⟩,H.wk (by omega)⟩
    ·refine .wt V V (.ZA H 0 V V V V V (so (B5 0 _ V _ V)) V (.wt V V (.ld (vi x1.To) H 0 V V V V V (so (B5 0 _ V _ V)) V (.cV (Z11 V) V (.tV V (.kF V (.nil ?_)))))));exact ⟨⟨or_F hc2,V,V,V,V,V,V,U⟩,H.wk (by omega)⟩
   refine .mV V ?_;refine .md H 6 [(28,(vb (((!(ZQ x1.From))||(!(ZQ x1.To)))||(decide (x1.From>x1.To))))),(0,(vl Span.cs l)),(3,(vi s1)),(4,(.ptr (b4+3) 2 0)),(5,(vl Span.cs l)),(6,(vi (l.length:Int))),(7,(vi s1))] [.blk (b4+3) 43 [(vi x1.From),(vi x1.To)]] rfl ?_ λe G H=>?_
   ·refine .split V V ?_ ?_<;>intro hc3
    ·refine .ps 5 V (.kT V (.nil ?_));exact ⟨⟨or_T hc3,V,V,V,V,V,V,U⟩,H.wk (by omega)⟩
    ·refine .wt V V (.ZA H 0 V V V V V (so (B5 0 _ V _ V)) V (.wt V V (.ld (vi x1.From) H 0 V V V V V (so (B5 0 _ V _ V)) V (.wt V V (.ZA H 0 V V V V V (so (B5 0 _ V _ V)) V (.wt V V (.ld (vi x1.To) H 0 V V V V V (so (B5 0 _ V _ V)) V (.iV V ?_))))))));refine .kF V (.nil ?_);exact ⟨⟨or_F hc3,V,V,V,V,V,V,U⟩,H.wk (by omega)⟩
   refine .mV V ?_;obtain ⟨y2,hj2,h⟩:=bs h;refine .md H 15 [(44,(vb y2)),(0,(vl Span.cs l)),(5,(vl Span.cs l)),(6,(vi (l.length:Int))),(7,(vi s1))] [] V ?_ λe G H=>?_
   ·refine .sp hj2 V ?_ ?_<;>intro h
    ·refine .ps 14 V (.kT V (.nil ?_));obtain rfl:=sj h;exact ⟨EI V,(H.erase 0).wk (by omega)⟩
    refine .mV V (.iV V (.mV V ?_));obtain ⟨y3,hj3,h⟩:=bs h;refine .md H 11 [(43,(vb y3)),(0,(vl Span.cs l)),(5,(vl Span.cs l)),(6,(vi (l.length:Int))),(7,(vi s1)),(29,(vb false))] [] V ?_ λe G H=>?_
    ·refine .sp hj3 V ?_ ?_<;>intro h
     ·refine .wt V V (.ZA H 0 V V V V V (so (B5 0 _ V _ V)) V (.wt V V (.ld (vi x1.From) H 0 V V V V V (so (B5 0 _ V _ V)) V (.mV V (.mV V (.iV V (.wt V V ?_)))))));obtain ⟨x2,q2,h⟩:=bs h;refine .jV q2 V (.wt V V (.Z0I V V V V (.pV V (.iV V (.iV V (.kT V (.nil ?_)))))));obtain rfl:=sj h;exact ⟨EI V,(H.erase 0).wk (by omega)⟩
     refine .ps 10 V (.kF V (.nil ?_));obtain rfl:=sj h;exact ⟨EI V,(H.erase 0).wk (by omega)⟩
    refine .kF V (.nil ?_);obtain rfl:=sj h;exact ⟨EI V,H.wk (by omega)⟩
   refine .na H λH=>?_;refine .wh h V ?_ ?_<;>intro h
   ·refine .tR 1 V H λb6 G H=>(.aV V (.na H λH=>(.ret ?_)));obtain rfl:=sj h;exact ⟨nofun,(.inr ⟨_,V,V,(Ends.H (xs:=[(vb false)]) (.inr V) H (.tmp (v:=(vb false)) V .nil) (.one (.c (.v _))))⟩)⟩
   refine .skip (.Z9 2 V H λb7 G H=>(.iV V (.mV V (.na H λH=>?_))));obtain rfl:=sj h;exact ⟨V,EI V,H⟩
  refine .exit ?_;obtain rfl:=sj h;exact ⟨nofun,(.inl ⟨_,V,V,U,H⟩)⟩
 ·rintro x e G (⟨a2,rfl,rfl,he,H⟩|⟨r',rfl,rfl,hE⟩)
  ·replace h:=jgo h;obtain ⟨e,rfl⟩:=he.ex;refine .tR 1 V H λb8 G H=>(.aV V (.na H λH=>(.ret ?_)));obtain rfl:=sj h;exact Ends.eR V
  ·replace h:=jret h;obtain rfl:=sj h;exact hE
theorem Z13 {i:Int} {r:Bool} (h:Z0F i=r):Fn CX 39 [(vi i)] (vb r):=by
 refine Fn.go Try.func39 V λG H=>?_;unfold Z0F at h;refine .tR 1 V H λb1 G H=>(.aV V (.na H λH=>(.tR 7 V H λb2 G H=>(.mV V (.iV V (.mV V ?_))))));refine .md H 3 [(8,(vb ((decide (i>=(-1099511627776)))&&(decide (i<=1099511627776)))))] [] V ?_ λe G H=>?_
 ·refine .split V V ?_ ?_<;>intro hc1
  ·refine .mV V (.iV V (.kT V (.nil ?_)));exact ⟨⟨Z3Z hc1,U⟩,H.wk (by omega)⟩
  ·refine .ps 2 V (.kF V (.nil ?_));exact ⟨⟨Z3w hc1,U⟩,H.wk (by omega)⟩
 refine .aV V (.na H λH=>(.ret ?_));subst h;exact Ends.eR V
theorem gran_shape_fn {f:Form} {r:Bool} (h:ZX f=some r):Fn CX 56 [(.agg (vs (Form.cs f)))] (vb r):=by
 refine Fn.go Try.func56 V λG H=>?_;unfold ZX at h;refine .tR 2 V H λb1 G H=>(.bxc (cs:=(vF f)) H V V V λG H=>(.aV V (.na H λH=>(.then (.tR 25 V H λb2 G H=>(.fV H 0 V (.lV H 0 V (.fV H 0 V ?_))))))));refine .lV H 0 V (.nV V (.iV V (.mV V ?_)));refine .md H 8 [(21,(vb ((f.Count != (f.Core.length:Int))||((f.Count==0) != (f.Period==0))))),(1,(.ptr (b1+0) 4 0))] [.blk (b1+0) 25 (vF f)] rfl ?_ λe G H=>?_
 ·refine .split V V ?_ ?_<;>intro hc1
  ·refine .ps 7 V (.kT V (.nil ?_));exact ⟨⟨or_T hc1,V,U⟩,H.wk (by omega)⟩
  ·refine .fV H 0 V (.lV H 0 V (.iV V (.fV H 0 V (.lV H 0 V (.iV V (.wt V V (.neB (b:=(f.Count==0)) (b':=(f.Period==0)) V V V V (.kF V ?_))))))));refine .nil ?_;exact ⟨⟨or_F hc1,V,U⟩,H.wk (by omega)⟩
 refine .mV V ?_;refine .md H 4 [(26,(vb (((f.Count != (f.Core.length:Int))||((f.Count==0) != (f.Period==0)))||(decide (f.Period<0))))),(1,(.ptr (b1+0) 4 0))] [.blk (b1+0) 25 (vF f)] rfl ?_ λe G H=>?_
 ·refine .split V V ?_ ?_<;>intro hc2
  ·refine .ps 3 V (.kT V (.nil ?_));exact ⟨⟨or_T hc2,V,U⟩,H.wk (by omega)⟩
  ·refine .fV H 0 V (.lV H 0 V (.iV V (.kF V (.nil ?_))));exact ⟨⟨or_F hc2,V,U⟩,H.wk (by omega)⟩
 refine .mV V ?_;refine .md H 4 [(31,(vb ((((f.Count != (f.Core.length:Int))||((f.Count==0) != (f.Period==0)))||(decide (f.Period<0)))||(decide (f.Period>1099511627776))))),(1,(.ptr (b1+0) 4 0))] [.blk (b1+0) 25 (vF f)] rfl ?_ λe G H=>?_
 ·refine .split V V ?_ ?_<;>intro hc3
  ·refine .ps 3 V (.kT V (.nil ?_));exact ⟨⟨or_T hc3,V,U⟩,H.wk (by omega)⟩
  ·refine .fV H 0 V (.lV H 0 V (.iV V (.kF V (.nil ?_))));exact ⟨⟨or_F hc3,V,U⟩,H.wk (by omega)⟩
 refine .na H λH=>?_;refine .wh h V ?_ ?_<;>intro h
 ·refine .tR 1 V H λb3 G H=>(.aV V (.na H λH=>(.ret ?_)));obtain rfl:=sj h;exact Ends.eR V
 refine .skip (.then (.tR 4 V H λb4 G H=>(.fV H 0 V (.lV H 0 V (.nV V (.mV V (.na H λH=>(.inBlock ?_))))))));obtain ⟨y1,hj1,h⟩:=bs h;obtain ⟨n1,hj1⟩:=ZL.1 hj1;refine .mono (Runs.loopO hj1 (λs1 e G=>ZC e [(1,(.ptr (b1+0) 4 0)),(33,(vl (cL Span.cs) f.Core)),(34,(vi (f.Core.length:Int))),(35,(vi s1))]/\Hs G [.blk (b1+0) 25 (vF f)]) (λy1 x e G=>(∃ a1,y1=(.go a1)/\x = .exit 0/\ZC e [(1,(.ptr (b1+0) 4 0))]/\Hs G [.blk (b1+0) 25 (vF f)])\/(∃ r',y1=(.ret r')/\x = .ret/\Ends CX Try.f56.results.toList (vb r') x e G)) ⟨EI V,H⟩ ?_) ?_
 ·intro s1 e G hI z h;obtain ⟨he,H⟩:=hI;obtain ⟨e,rfl⟩:=he.ex;unfold ZX.s0 at h;refine .tR 1 V H λb5 G H=>(.iV V (.na H λH=>(.then ?_)));refine .wh h V ?_ ?_<;>intro h
  ·refine .skip (.then (.inBlock (.tR 3 V H λb6 G H=>?_)));obtain ⟨x1,q1,h⟩:=bs h;refine .jV q1 V (.pV V (.aV V (.na H λH=>(.tR 3 V H λb7 G H=>(.mV V ?_)))));obtain ⟨x2,q2,h⟩:=bs h;refine .cV (Z3h q2) V (.tV V (.na H λH=>?_));refine .wh h V ?_ ?_<;>intro h
   ·refine .tR 1 V H λb8 G H=>(.aV V (.na H λH=>(.ret ?_)));obtain rfl:=sj h;exact ⟨nofun,(.inr ⟨_,V,V,(Ends.H (xs:=[(vb false)]) (.inr V) H (.tmp (v:=(vb false)) V .nil) (.one (.c (.v _))))⟩)⟩
   refine .skip (.Z9 2 V H λb9 G H=>(.iV V (.mV V (.na H λH=>?_))));obtain rfl:=sj h;exact ⟨V,EI V,H⟩
  refine .exit ?_;obtain rfl:=sj h;exact ⟨nofun,(.inl ⟨_,V,V,EI V,H⟩)⟩
 ·rintro x e G (⟨a2,rfl,rfl,he,H⟩|⟨r',rfl,rfl,hE⟩)
  ·replace h:=jgo h;obtain ⟨e,rfl⟩:=he.ex;refine .then (.tR 4 V H λb10 G H=>(.fV H 0 V (.lV H 0 V (.nV V (.mV V (.na H λH=>(.inBlock ?_)))))));obtain ⟨y2,hj2,h⟩:=bs h;obtain ⟨n2,hj2⟩:=ZL.1 hj2;refine .mono (Runs.loopO hj2 (λs2 e G=>ZC e [(1,(.ptr (b1+0) 4 0)),(44,(vl Granule.cs f.Odd)),(45,(vi (f.Odd.length:Int))),(46,(vi s2))]/\Hs G [.blk (b1+0) 25 (vF f)]) (λy2 x e G=>(∃ a3,y2=(.go a3)/\x = .exit 2/\ZC e []/\Hs G [])\/(∃ r',y2=(.ret r')/\x = .ret/\Ends CX Try.f56.results.toList (vb r') x e G)) ⟨EI V,H⟩ ?_) ?_
   ·intro s2 e G hI z h;obtain ⟨he,H⟩:=hI;obtain ⟨e,rfl⟩:=he.ex;unfold ZX.s1 at h;refine .tR 1 V H λb11 G H=>(.iV V (.na H λH=>(.then ?_)));refine .wh h V ?_ ?_<;>intro h
    ·refine .skip (.then (.inBlock (.tR 6 V H λb12 G H=>(.mV V ?_))));obtain ⟨x3,q3,h⟩:=bs h;refine .jV q3 V (.qV [(.int .i64 x3.Index),(.sl (x3.Ticks.map Span.cs))] V (.alc (cs:=[(vi 0),.nils]) H V V λG H=>(.aV V (.sV [(vi x3.Index),(vl Span.cs x3.Ticks)] H 0 V λG H=>(.na H λH=>(.then (.Z22 26 V (by kernel_rfl) H λb13 G H B13=>(.ZA H 0 V V V V V (so (B13 0 _ V _ V)) V ?_))))))));refine .ld (vl Span.cs x3.Ticks) H 0 V V V V V (so (B13 0 _ V _ V)) V ?_;obtain ⟨x4,q4,h⟩:=bs h;refine .cV (Z3h q4) V (.tV V (.mV V ?_));refine .md H 5 [(60,(vb ((!x4)||(!(Z0F x3.Index))))),(1,(.ptr (b1+0) 4 0)),(5,(vi s2)),(6,(.ptr (b12+3) 2 0)),(44,(vl Granule.cs f.Odd)),(45,(vi (f.Odd.length:Int))),(46,(vi s2))] [.blk (b12+3) 45 [(vi x3.Index),(vl Span.cs x3.Ticks)],.blk (b1+0) 25 (vF f)] rfl ?_ λe G H=>?_
     ·refine .split V V ?_ ?_<;>intro hc8
      ·refine .ps 4 V (.kT V (.nil ?_));exact ⟨⟨or_T hc8,V,V,V,V,V,V,U⟩,H.wk (by omega)⟩
      ·refine .wt V V (.ZA H 0 V V V V V (so (B13 0 _ V _ V)) V (.wt V V (.ld (vi x3.Index) H 0 V V V V V (so (B13 0 _ V _ V)) V (.cV (Z13 V) V (.tV V (.kF V (.nil ?_)))))));exact ⟨⟨or_F hc8,V,V,V,V,V,V,U⟩,H.wk (by omega)⟩
     refine .mV V ?_;obtain ⟨y3,hj3,h⟩:=bs h;refine .md H 15 [(76,(vb y3)),(1,(.ptr (b1+0) 4 0)),(44,(vl Granule.cs f.Odd)),(45,(vi (f.Odd.length:Int))),(46,(vi s2))] [.blk (b1+0) 25 (vF f)] V ?_ λe G H=>?_
     ·refine .sp hj3 V ?_ ?_<;>intro h
      ·refine .ps 14 V (.kT V (.nil ?_));obtain rfl:=sj h;exact ⟨EI V,(H.erase 0).wk (by omega)⟩
      refine .mV V (.iV V (.mV V ?_));obtain ⟨y4,hj4,h⟩:=bs h;refine .md H 11 [(75,(vb y4)),(1,(.ptr (b1+0) 4 0)),(44,(vl Granule.cs f.Odd)),(45,(vi (f.Odd.length:Int))),(46,(vi s2)),(61,(vb false))] [.blk (b1+0) 25 (vF f)] V ?_ λe G H=>?_
      ·refine .sp hj4 V ?_ ?_<;>intro h
       ·refine .wt V V (.ZA H 0 V V V V V (so (B13 0 _ V _ V)) V (.wt V V (.ld (vi x3.Index) H 0 V V V V V (so (B13 0 _ V _ V)) V (.wt V V (.ZA H 1 V V V V V (so (B13 1 _ V _ V)) V (.wt V V (.ld (vl Granule.cs f.Odd) H 1 V V V V V (so (B13 1 _ V _ V)) V (.mV V ?_))))))));refine .iV V (.wt V V ?_);obtain ⟨x5,q5,h⟩:=bs h;refine .jV q5 V (.wt V V (.Z0I V V V V (.pV V (.iV V (.kT V (.nil ?_))))));obtain rfl:=sj h;exact ⟨EI V,(H.erase 0).wk (by omega)⟩
       refine .ps 10 V (.kF V (.nil ?_));obtain rfl:=sj h;exact ⟨EI V,(H.erase 0).wk (by omega)⟩
      refine .kF V (.nil ?_);obtain rfl:=sj h;exact ⟨EI V,H.wk (by omega)⟩
     refine .na H λH=>?_;refine .wh h V ?_ ?_<;>intro h
     ·refine .tR 1 V H λb14 G H=>(.aV V (.na H λH=>(.ret ?_)));obtain rfl:=sj h;exact ⟨nofun,(.inr ⟨_,V,V,(Ends.H (xs:=[(vb false)]) (.inr V) H (.tmp (v:=(vb false)) V .nil) (.one (.c (.v _))))⟩)⟩
     refine .skip (.Z9 2 V H λb15 G H=>(.iV V (.mV V (.na H λH=>?_))));obtain rfl:=sj h;exact ⟨V,EI V,H⟩
    refine .exit ?_;obtain rfl:=sj h;exact ⟨nofun,(.inl ⟨_,V,V,U,(H.erase 0)⟩)⟩
   ·rintro x e G (⟨a4,rfl,rfl,he,H⟩|⟨r',rfl,rfl,hE⟩)
    ·replace h:=jgo h;obtain ⟨e,rfl⟩:=he.ex;refine .tR 1 V H λb16 G H=>(.aV V (.na H λH=>(.ret ?_)));obtain rfl:=sj h;exact Ends.eR V
    ·replace h:=jret h;obtain rfl:=sj h;exact hE
  ·replace h:=jret h;obtain rfl:=sj h;exact hE
theorem gran_turns_fn {f:Form} {r:Bool} (h:Zo f=some r):Fn CX 57 [(.agg (vs (Form.cs f)))] (vb r):=by
 refine Fn.go Try.func57 V λG H=>?_;unfold Zo at h;refine .tR 2 V H λb1 G H=>(.bxc (cs:=(vF f)) H V V V λG H=>(.aV V (.na H λH=>(.tR 1 V H λb2 G H=>(.a1 .nils V V (.na H λH=>(.then (.tR 4 V H λb3 G H=>?_))))))));refine .fV H 0 V (.lV H 0 V (.nV V (.mV V (.na H λH=>(.inBlock ?_)))));replace H:=H.pushNil 31 1 true;obtain ⟨y1,hj1,h⟩:=bs h;obtain ⟨n1,hj1⟩:=ZL.1 hj1;refine .mono (Runs.loopO hj1 (λs2 e G=>∃ (w3:PV),ZC e [(1,(.ptr (b1+0) 4 0)),(3,w3),(11,(vl (cL Span.cs) f.Core)),(12,(vi (f.Core.length:Int))),(13,(vi s2.1))]/\Hs G [.sl w3 31 1 (s2.2.map (cL Span.cs)) true,.blk (b1+0) 25 (vF f)]) (λy1 x e G=>∃ (w4:PV),x = .exit 0/\ZC e [(1,(.ptr (b1+0) 4 0)),(3,w4)]/\Hs G [.sl w4 31 1 (y1.map (cL Span.cs)) true,.blk (b1+0) 25 (vF f)]) ⟨.nils,EI V,H⟩ ?_) ?_
 ·intro s2 e G hI z h;obtain ⟨w3,he,H⟩:=hI;obtain ⟨e,rfl⟩:=he.ex;unfold Zo.s0 at h;refine .tR 1 V H λb4 G H=>(.iV V (.na H λH=>(.then ?_)));refine .wh h V ?_ ?_<;>intro h
  ·refine .skip (.then ?_);obtain ⟨y2,hj2,h⟩:=bs h;refine .mono (Q:=λx e G=>∃ (w5:PV),x = .normal/\ZC e [(1,(.ptr (b1+0) 4 0)),(3,w5),(11,(vl (cL Span.cs) f.Core)),(12,(vi (f.Core.length:Int))),(13,(vi s2.1))]/\Hs G [.sl w5 31 1 (y2.map (cL Span.cs)) true,.blk (b1+0) 25 (vF f)]) ?_ ?_
   ·replace h:=hj2;refine .inBlock ?_;obtain ⟨y3,hj3,h⟩:=bs h;refine .mono (Q:=λx e G=>∃ (w6:PV),x = .normal/\ZC e [(1,(.ptr (b1+0) 4 0)),(3,w6),(11,(vl (cL Span.cs) f.Core)),(12,(vi (f.Core.length:Int))),(13,(vi s2.1))]/\Hs G [.sl w6 31 1 (y3.map (cL Span.cs)) true,.blk (b1+0) 25 (vF f)]) ?_ ?_
    ·replace h:=hj3;refine .tR 3 V H λb5 G H=>?_;obtain ⟨x1,q1,h⟩:=bs h;refine .jV q1 V (.pV V (.aV V (.na H λH=>(.tR 3 V H λb6 G H=>(.mV V (.nV V (.iV V (.na H λH=>?_))))))));refine .wh h V ?_ ?_<;>intro h
     ·refine .Z9 5 V H λb7 G H=>(.m1 w3 V V (.mV V (.Z3C (sz:=1) ([x1].map (cL Span.cs)) H (by omega) (by omega) V V V V V V V V V λG H=>?_)));obtain ⟨x2,q2,h⟩:=bs h;refine .Z3t (c:=(cL Span.cs)) (v:=w3) (w:=(.buf (b7+2) 1 1)) (xs:=s2.2) (ys:=[x1]) H (by omega) (by omega) 1 V V V (.s 0 V) q2 V V V V V nofun V λw7 G H=>(.a1 w7 V V (.na H λH=>?_));obtain rfl:=sj h;exact ⟨w7,V,EI V,(H.erase 0)⟩
     refine .skip ?_;obtain rfl:=sj h;exact ⟨w3,V,EI V,H⟩
    ·rintro x e G ⟨w8,rfl,he,H⟩;obtain ⟨e,rfl⟩:=he.ex;obtain rfl:=sj h;exact ⟨w8,V,EI V,H⟩
   ·rintro x e G ⟨w9,rfl,he,H⟩;obtain ⟨e,rfl⟩:=he.ex;refine .Z9 2 V H λb8 G H=>(.iV V (.mV V (.na H λH=>?_)));obtain rfl:=sj h;exact ⟨V,w9,EI V,H⟩
  refine .exit ?_;obtain rfl:=sj h;exact ⟨nofun,⟨w3,V,EI V,H⟩⟩
 ·rintro x e G ⟨w10,rfl,he,H⟩;obtain ⟨e,rfl⟩:=he.ex;refine .then (.tR 3 V H λb9 G H=>(.m1 w10 V V (.lenSt (c:=(cL Span.cs)) (xs:=y1) H 0 V V V nofun V (.mV V (.na H λH=>(.inBlock ?_))))));obtain ⟨y4,hj4,h⟩:=bs h;obtain ⟨n2,hj4⟩:=ZL.1 hj4;refine .mono (Runs.loopO hj4 (λs3 e G=>∃ (w13:PV),ZC e [(1,(.ptr (b1+0) 4 0)),(3,w13),(25,w13),(26,(vi (y1.length:Int))),(27,(vi s3))]/\Hs G [.sl w13 31 1 (y1.map (cL Span.cs)) true,.blk (b1+0) 25 (vF f)]) (λy4 x e G=>(∃ a1,y4=(.go a1)/\x = .exit 2/\ZC e []/\Hs G [])\/(∃ r',y4=(.ret r')/\x = .ret/\Ends CX Try.f57.results.toList (vb r') x e G)) ⟨w10,EI V,H⟩ ?_) ?_
  ·intro s3 e G hI z h;obtain ⟨w13,he,H⟩:=hI;obtain ⟨e,rfl⟩:=he.ex;unfold Zo.s1 at h;refine .tR 1 V H λb10 G H=>(.iV V (.na H λH=>(.then ?_)));refine .wh h V ?_ ?_<;>intro h
   ·refine .skip (.then ?_);obtain ⟨y5,hj5,h⟩:=bs h;refine .mono (Q:=λx e G=>(∃ a2,∃ (w14:PV),y5=(.go a2)/\x = .normal/\ZC e [(1,(.ptr (b1+0) 4 0)),(3,w14),(25,w14),(26,(vi (y1.length:Int))),(27,(vi s3))]/\Hs G [.sl w14 31 1 (y1.map (cL Span.cs)) true,.blk (b1+0) 25 (vF f)])\/(∃ r',y5=(.ret r')/\x = .ret/\Ends CX Try.f57.results.toList (vb r') x e G)) ?_ ?_
    ·replace h:=hj5;refine .inBlock ?_;obtain ⟨y6,hj6,h⟩:=bs h;refine .mono (Q:=λx e G=>(∃ a3,∃ (w15:PV),y6=(.go a3)/\x = .normal/\ZC e [(1,(.ptr (b1+0) 4 0)),(3,w15),(25,w15),(26,(vi (y1.length:Int))),(27,(vi s3))]/\Hs G [.sl w15 31 1 (y1.map (cL Span.cs)) true,.blk (b1+0) 25 (vF f)])\/(∃ r',y6=(.ret r')/\x = .ret/\Ends CX Try.f57.results.toList (vb r') x e G)) ?_ ?_
     ·replace h:=hj6;refine .tR 5 V H λb11 G H=>(.mV V ?_);obtain ⟨x3,q3,h⟩:=bs h;refine .Z3V H 0 V V V (at?_map q3) V V nofun V ?_;intro id1 hv1;subst hv1;refine .loadS (id:=id1) (j:=0) (w:=(.sl (x3.map Span.cs))) H 0 V V (by simp) (at?_map q3) V (by simp) V V V nofun V ?_;refine .aV V (.aV V (.na H λH=>(.tR 10 V H λb12 G H=>(.mB V (.mV V (.iV V (.mB V (.lenSt (c:=(cL Span.cs)) (xs:=y1) H 0 V V V nofun V ?_))))))));obtain ⟨u1,q4,h⟩:=bs h;refine .rem (m:=(w64 (s3+1))) (m':=(y1.length:Int)) V V (nz_ne q4) V ?_;obtain ⟨x4,q5,h⟩:=bs h;refine .Z3V H 0 V V V (at?_map q5) V V nofun V ?_;intro id2 hv2;refine .loadS (id:=id2) (j:=0) (w:=(.sl (x4.map Span.cs))) H 0 V hv2 (by simp) (at?_map q5) V (by simp) V V V nofun V ?_;refine .aV V (.aV V (.na H λH=>(.then ?_)));refine .jn h .normal (λy7=>[(1,(.ptr (b1+0) 4 0)),(3,(.buf id1 (y1.map (cL Span.cs)).length 1)),(7,(vl Span.cs x3)),(8,(vl Span.cs x4)),(9,(vi y7)),(25,(.buf id1 (y1.map (cL Span.cs)).length 1)),(26,(vi (y1.length:Int))),(27,(vi s3))]) (λy7=>[.sl (.buf id1 (y1.map (cL Span.cs)).length 1) 31 1 (y1.map (cL Span.cs)) true,.blk (b1+0) 25 (vF f)]) (λy7 h=>?_) λy7 e G H h=>?_
      ·refine .tR 5 V H λb13 G H=>(.mV V (.iV V (.mB V (.lenSt (c:=(cL Span.cs)) (xs:=y1) H 0 V V V nofun V (.iV V (.na H λH=>?_))))));refine .wh h V ?_ ?_<;>intro h
       ·refine .Z9 3 V H λb14 G H=>(.fV H 1 V (.lV H 1 V (.aV V (.na H λH=>?_))));obtain rfl:=sj h;exact ⟨V,EI V,H⟩
       refine .skip ?_;obtain rfl:=sj h;exact ⟨V,EI V,H⟩
      refine .then (.Z22 14 V (by kernel_rfl) H λb15 G H B15=>(.mV V (.mV V (.nV V (.iV V ?_)))));obtain ⟨x5,q6,h⟩:=bs h;refine .jV q6 V (.Z0I V V V V (.pV V (.mV V ?_)));obtain ⟨x6,q7,h⟩:=bs h;refine .jV q7 V (.Z0I V V V V (.pV V (.mV V (.iV V (.iV V (.na H λH=>?_))))));refine .wh h V ?_ ?_<;>intro h
      ·refine .tR 1 V H λb16 G H=>(.aV V (.na H λH=>(.ret ?_)));obtain rfl:=sj h;exact (.inr ⟨_,V,V,(Ends.H (xs:=[(vb false)]) (.inr V) H (.tmp (v:=(vb false)) V .nil) (.one (.c (.v _))))⟩)
      refine .skip ?_;obtain rfl:=sj h;exact (.inl ⟨_,(.buf id1 (y1.map (cL Span.cs)).length 1),V,V,EI V,H⟩)
     ·rintro x e G (⟨a4,w16,rfl,rfl,he,H⟩|⟨r',rfl,rfl,hE⟩)
      ·replace h:=jgo h;obtain ⟨e,rfl⟩:=he.ex;obtain rfl:=sj h;exact (.inl ⟨_,w16,V,V,EI V,H⟩)
      ·replace h:=jret h;obtain rfl:=sj h;exact (.inr ⟨_,V,V,hE⟩)
    ·rintro x e G (⟨a5,w17,rfl,rfl,he,H⟩|⟨r',rfl,rfl,hE⟩)
     ·replace h:=jgo h;obtain ⟨e,rfl⟩:=he.ex;refine .Z9 2 V H λb17 G H=>(.iV V (.mV V (.na H λH=>?_)));obtain rfl:=sj h;exact ⟨V,w17,EI V,H⟩
     ·replace h:=jret h;obtain rfl:=sj h;exact ⟨nofun,(.inr ⟨_,V,V,hE⟩)⟩
   refine .exit ?_;obtain rfl:=sj h;exact ⟨nofun,(.inl ⟨_,V,V,U,((H.erase 1).erase 0)⟩)⟩
  ·rintro x e G (⟨a6,rfl,rfl,he,H⟩|⟨r',rfl,rfl,hE⟩)
   ·replace h:=jgo h;obtain ⟨e,rfl⟩:=he.ex;refine .tR 1 V H λb18 G H=>(.aV V (.na H λH=>(.ret ?_)));obtain rfl:=sj h;exact Ends.eR V
   ·replace h:=jret h;obtain rfl:=sj h;exact hE
theorem Z0N {x':(List Granule)} {target:Int} {cmp:Granule->Int->Option Int} {C:List Res} {cv0:PV} (hs0:cv0.one=true) (hp0:cv0.pure=true->C=[]) (hf0:∀ z0 z1 y,cmp z0 z1=some y->CloH CX cv0 [(.agg (vs (Granule.cs z0))),(vi z1)] (vi y) C) {r:Int×Bool} (h:Z3 x' target cmp=some r):FnH CX 73 [(vl Granule.cs x'),(vi target),cv0] (.tup [(vi r.1),(vb r.2)]) C:=by
 refine FnH.of Try.func73 V V V V (all_t V (all_t V (all_t (Z5d hs0) all_nil))) V (λh=>hp0 (all_get h 2 V)) ?_;intro G L hC H;unfold Z3 at h;refine .tR 2 V H λb1 G H=>(.aV V (.aV V (.na H λH=>(.tR 3 V H λb2 G H=>(.mV V (.nV V (.aV V (.na H λH=>?_))))))));refine .tR 3 V H λb3 G H=>(.mV V (.aV V (.aV V (.na H λH=>(.then (.inBlock ?_))))));refine .lp h (λs1=>[(0,(vl Granule.cs x')),(1,(vi target)),(2,cv0),(8,(vi (x'.length:Int))),(9,(vi s1.1)),(10,(vi s1.2))]) (λs1=>(L)) (.exit 0) (λy1=>[(0,(vl Granule.cs x')),(1,(vi target)),(2,cv0),(8,(vi (x'.length:Int))),(9,(vi y1))]) (λy1=>(L)) (EI V) H (λs1 e G H z h=>?_) λy1 e G H h=>?_
 ·unfold Z3.s0 at h;refine .then (.tR 3 V H λb4 G H=>(.mV V (.mV V (.iV V (.na H λH=>?_)))));refine .wh h V ?_ ?_<;>intro h
  ·refine .skip (.inBlock ?_);refine .jn h .normal (λy2=>[(0,(vl Granule.cs x')),(1,(vi target)),(2,cv0),(8,(vi (x'.length:Int))),(9,(vi y2.1)),(10,(vi y2.2))]) (λy2=>(L)) (λy2 h=>?_) λy2 e G H h=>?_
   ·refine .tR 7 V H λb5 G H=>(.mV V (.mV V (.iV V (.conv (m:=(w64 (s1.1+s1.2))) V V V V (.shr (m:=(IntKind.u64.wrap (w64 (s1.1+s1.2)))) (m':=1) V V (by decide) V (.conv (m:=((IntKind.u64.wrap (w64 (s1.1+s1.2))).fdiv (2 ^ 1))) V V V V (.aV V (.na H λH=>?_))))))));refine .tR 8 V H λb6 G H=>(.m1 cv0 V V (.mV V (.mV V ?_)));obtain ⟨x1,q1,h⟩:=bs h;refine .jV q1 V (.qV [(.int .i64 x1.Index),(.sl (x1.Ticks.map Span.cs))] V (.mV V ?_));obtain ⟨x2,q2,h⟩:=bs h;refine .callV (cv:=cv0) (ys:=[(.agg (vs (Granule.cs x1))),(vi target)]) (r:=(vi x2)) H V V (hf0 x1 target _ q2) hC nofun V λG H=>(.iV V (.na H λH=>?_));refine .wh h V ?_ ?_<;>intro h
    ·refine .Z9 3 V H λb7 G H=>(.mV V (.iV V (.aV V (.na H λH=>?_))));obtain rfl:=sj h;exact ⟨V,EI V,H⟩
    refine .Z9 2 V H λb8 G H=>(.mV V (.aV V (.na H λH=>?_)));obtain rfl:=sj h;exact ⟨V,EI V,H⟩
   obtain rfl:=sj h;exact ⟨V,EI V,H⟩
  refine .exit ?_;obtain rfl:=sj h;exact ⟨nofun,⟨V,EI V,H⟩⟩
 refine .tR 16 V H λb9 G H=>(.mV V (.mV V (.mV V (.iV V (.mV V ?_)))));obtain ⟨y3,hj3,h⟩:=bs h;refine .md H 9 [(48,(vb y3)),(35,(vi y1))] (L) V ?_ λe G H=>?_
 ·refine .sp hj3 V ?_ ?_<;>intro h
  ·refine .m1 cv0 V V (.mV V (.mV V (.wt V V ?_)));obtain ⟨x3,q3,h⟩:=bs h;refine .jV q3 V (.qV [(.int .i64 x3.Index),(.sl (x3.Ticks.map Span.cs))] V (.mV V (.wt V V ?_)));obtain ⟨x4,q4,h⟩:=bs h;refine .callV (cv:=cv0) (ys:=[(.agg (vs (Granule.cs x3))),(vi target)]) (r:=(vi x4)) H V V (hf0 x3 target _ q4) hC nofun V λG H=>(.iV V (.kT V (.nil ?_)));obtain rfl:=sj h;exact ⟨EI V,H.wk (by omega)⟩
  refine .ps 8 V (.kF V (.nil ?_));obtain rfl:=sj h;exact ⟨EI V,H.wk (by omega)⟩
 refine .aV V (.aV V (.na H λH=>(.ret ?_)));obtain rfl:=sj h;exact (EndsH.H (xs:=[(vi y1),(vb y3)]) (.inr V) H (.tmp (v:=(vi y1)) V (.tmp (v:=(vb y3)) V .nil)) (.two (.cons (.c (.v _)) (.cons (.c (.v _)) .nil))) 0 V)
theorem Z2w {x':Int} {r:Bool} (h:Z0h x'=r):Fn CX 83 [(vi x')] (vb r):=by
 refine Fn.go Try.func83 V λG H=>?_;unfold Z0h at h;refine .tR 1 V H λb1 G H=>(.aV V (.na H λH=>(.tR 4 V H λb2 G H=>(.mV V (.mV V (.iV V (.aV V (.na H λH=>?_))))))));refine .ret ?_;subst h;exact Ends.eR V
theorem Z4l {x':Int} {y:Int} {r:Int} (h:Z0g x' y=r):Fn CX 75 [(vi x'),(vi y)] (vi r):=by
 refine Fn.go Try.func75 V λG H=>?_;unfold Z0g at h;refine .tR 1 V H λb1 G H=>(.aV V (.na H λH=>(.tR 3 V H λb2 G H=>(.mV V (.cV (Z2w V) V (.aV V (.na H λH=>(.tR 3 V H λb3 G H=>?_))))))));refine .mV V (.cV (Z2w V) V (.aV V (.na H λH=>(.then (.tR 1 V H λb4 G H=>(.mV V (.na H λH=>?_)))))));refine .wh h V ?_ ?_<;>intro h
 ·refine .then (.tR 1 V H λb5 G H=>(.mV V (.na H λH=>?_)));refine .wh h V ?_ ?_<;>intro h
  ·refine .tR 1 V H λb6 G H=>(.aV V (.na H λH=>(.ret ?_)));subst h;exact Ends.eR V
  refine .skip (.tR 1 V H λb7 G H=>(.aV V (.na H λH=>(.ret ?_))));subst h;exact Ends.eR V
 refine .skip (.then (.tR 1 V H λb8 G H=>(.mV V (.na H λH=>?_))));refine .wh h V ?_ ?_<;>intro h
 ·refine .tR 1 V H λb9 G H=>(.aV V (.na H λH=>(.ret ?_)));subst h;exact Ends.eR V
 refine .skip (.then (.tR 3 V H λb10 G H=>(.mV V (.mV V (.iV V (.na H λH=>?_))))));refine .wh h V ?_ ?_<;>intro h
 ·refine .tR 1 V H λb11 G H=>(.aV V (.na H λH=>(.ret ?_)));subst h;exact Ends.eR V
 refine .skip (.then (.tR 3 V H λb12 G H=>(.mV V (.mV V (.iV V (.na H λH=>?_))))));refine .wh h V ?_ ?_<;>intro h
 ·refine .tR 1 V H λb13 G H=>(.aV V (.na H λH=>(.ret ?_)));subst h;exact Ends.eR V
 refine .skip (.tR 1 V H λb14 G H=>(.aV V (.na H λH=>(.ret ?_))));subst h;exact Ends.eR V
theorem gran_odd_1_fn {g:Granule} {i:Int} {r:Int} (h:Z1Z g i=r):Fn CX 74 [(.agg (vs (Granule.cs g))),(vi i)] (vi r):=by
 refine Fn.go Try.func74 V λG H=>?_;unfold Z1Z at h;refine .tR 2 V H λb1 G H=>(.bxc (cs:=[(vi g.Index),(vl Span.cs g.Ticks)]) H V V V λG H=>(.aV V (.na H λH=>(.tR 5 V H λb2 G H=>(.fV H 0 V (.lV H 0 V (.mV V (.cV (Z4l V) V ?_))))))));refine .aV V (.na H λH=>(.ret ?_));subst h;exact Ends.eR V
theorem Z5u {f:Form} {i:Int} {r:Int×Bool} (h:Z2l f i=some r):Fn CX 60 [(.agg (vs (Form.cs f))),(vi i)] (.tup [(vi r.1),(vb r.2)]):=by
 refine Fn.go Try.func60 V λG H=>?_;unfold Z2l at h;refine .tR 3 V H λb1 G H=>(.bxc (cs:=(vF f)) H V V V λG H=>(.aV V (.aV V (.na H λH=>(.tR 8 V H λb2 G H=>(.fV H 0 V (.lV H 0 V (.mV V ?_))))))));obtain ⟨x1,q1,h⟩:=bs h;refine .callH (ys:=[(vl Granule.cs f.Odd),(vi i),(.v (.fn 74))]) (r:=(.tup [(vi x1.1),(vb x1.2)])) H V (Z0N (C:=[]) V (λ_=>V) (λz0 z1 y hz=>(CloH.fn (Fn.toH (gran_odd_1_fn (Option.some.inj hz)) _))) q1) .nil nofun V λG H=>(.xV V (.xV V (.aV V (.aV V (.na H λH=>(.ret ?_))))));obtain rfl:=sj h;exact Ends.eR V
theorem safe_Floor_fn {a:Int} {b:Int} {r:Int×Int×Int} (h:Z2J a b=some r):Fn CX 62 [(vi a),(vi b)] (.tup [(vi r.1),(vi r.2.1),(vi r.2.2)]):=by
 refine Fn.go Try.func62 V λG H=>?_;unfold Z2J at h;refine .tR 3 V H λb1 G H=>(.aV V (.aV V (.aV V (.na H λH=>(.then (.inBlock (.tR 3 V H λb2 G H=>(.mV V ?_))))))));refine .iV V (.aV V (.na H λH=>?_));refine .wh h V ?_ ?_<;>intro h
 ·refine .tR 3 V H λb3 G H=>(.aV V (.aV V (.aV V (.na H λH=>(.ret ?_)))));obtain rfl:=sj h;exact Ends.eR V
 refine .tR 7 V H λb4 G H=>(.mV V (.iV V (.mV V ?_)));refine .md H 3 [(18,(vb ((b==(-1))&&(a==(-9223372036854775808))))),(0,(vi a)),(1,(vi b))] [] V ?_ λe G H=>?_
 ·refine .split V V ?_ ?_<;>intro hc2
  ·refine .mV V (.iV V (.kT V (.nil ?_)));exact ⟨⟨Z3Z hc2,V,V,U⟩,H.wk (by omega)⟩
  ·refine .ps 2 V (.kF V (.nil ?_));exact ⟨⟨Z3w hc2,V,V,U⟩,H.wk (by omega)⟩
 refine .aV V (.na H λH=>?_);refine .wh h V ?_ ?_<;>intro h
 ·refine .tR 3 V H λb5 G H=>(.aV V (.aV V (.aV V (.na H λH=>(.ret ?_)))));obtain rfl:=sj h;exact Ends.eR V
 refine .skip (.then (.Z22 8 V (by kernel_rfl) H λb6 G H B6=>(.mV V (.mV V ?_))));obtain ⟨u1,q1,h⟩:=bs h;refine .quo (m:=a) (m':=b) V V (nz_ne q1) V (.mV V (.mV V ?_));obtain ⟨u2,q2,h⟩:=bs h;refine .rem (m:=a) (m':=b) V V (nz_ne q2) V (.aV V (.aV V (.na H λH=>(.then ?_))));refine .jn h .normal (λy1=>[(7,(vi y1.1)),(8,(vi y1.2))]) (λy1=>[]) (λy1 h=>?_) λy1 e G H h=>?_
 ·refine .tR 9 V H λb7 G H=>(.mV V (.iV V (.mV V ?_)));refine .md H 6 [(33,(vb (((a.tmod b) != 0)&&((decide ((a.tmod b)<0)) != (decide (b<0)))))),(1,(vi b)),(7,(vi (w64 (a.tdiv b)))),(8,(vi (a.tmod b)))] [] V ?_ λe G H=>?_
  ·refine .split V V ?_ ?_<;>intro hc4
   ·refine .mV V (.iV V (.mV V (.iV V (.wt V V (.neB (b:=(decide ((a.tmod b)<0))) (b':=(decide (b<0))) V V V V (.kT V (.nil ?_)))))));exact ⟨⟨Z3Z hc4,V,V,V,U⟩,H.wk (by omega)⟩
   ·refine .ps 5 V (.kF V (.nil ?_));exact ⟨⟨Z3w hc4,V,V,V,U⟩,H.wk (by omega)⟩
  refine .na H λH=>?_;refine .wh h V ?_ ?_<;>intro h
  ·refine .Z9 7 V H λb8 G H=>(.mV V (.iV V (.mV V (.mV V (.iV V (.aV V (.aV V (.na H λH=>?_))))))));obtain rfl:=sj h;exact ⟨V,EI V,H⟩
  refine .skip ?_;obtain rfl:=sj h;exact ⟨V,EI V,H⟩
 refine .tR 5 V H λb9 G H=>(.mV V (.mV V (.aV V (.aV V (.aV V (.na H λH=>(.ret ?_)))))));obtain rfl:=sj h;exact Ends.eR V
theorem Z5E {a:Int} {r:Int} (h:Z0B a=r):Fn CX 77 [(vi a)] (vu r):=by
 refine Fn.go Try.func77 V λG H=>?_;unfold Z0B at h;refine .tR 1 V H λb1 G H=>(.aV V (.na H λH=>(.then (.tR 2 V H λb2 G H=>(.mV V (.iV V (.na H λH=>?_)))))));refine .wh h V ?_ ?_<;>intro h
 ·refine .tR 4 V H λb3 G H=>(.mV V (.conv (m:=a) V V V V (.neg (m:=(IntKind.u64.wrap a)) V V (.aV V (.na H λH=>(.ret ?_))))));subst h;exact Ends.eR V
 refine .skip (.tR 3 V H λb4 G H=>(.mV V (.conv (m:=a) V V V V (.aV V (.na H λH=>(.ret ?_))))));subst h;exact Ends.eR V
theorem Z4i {x':Int} {y:Int} {r:Int×Int} (h:Zu x' y=r):Fn CX 76 [(vu x'),(vu y)] (.tup [(vu r.1),(vu r.2)]):=by
 refine Fn.go Try.func76 V λG H=>?_;unfold Zu at h;refine .tR 2 V H λb1 G H=>(.aV V (.aV V (.na H λH=>(.tR 3 V H λb2 G H=>(.mV V (.iV V (.aV V (.na H λH=>?_))))))));refine .tR 3 V H λb3 G H=>(.mV V (.shr (m:=x') (m':=32) V V (by decide) V (.aV V (.na H λH=>(.tR 3 V H λb4 G H=>(.mV V (.iV V (.aV V ?_))))))));refine .na H λH=>(.tR 3 V H λb5 G H=>(.mV V (.shr (m:=y) (m':=32) V V (by decide) V (.aV V (.na H λH=>(.tR 4 V H λb6 G H=>(.mV V (.mV V ?_))))))));refine .iV V (.aV V (.na H λH=>(.tR 7 V H λb7 G H=>(.mV V (.mV V (.iV V (.mV V (.shr (m:=(IntKind.u64.wrap ((iAnd .u64 x' 4294967295)*(iAnd .u64 y 4294967295)))) (m':=32) V V (by decide) V ?_))))))));refine .iV V (.aV V (.na H λH=>(.tR 3 V H λb8 G H=>(.mV V (.iV V (.aV V (.na H λH=>(.tR 3 V H λb9 G H=>?_))))))));refine .mV V (.shr (m:=(IntKind.u64.wrap ((IntKind.u64.wrap ((x'.fdiv (2 ^ 32))*(iAnd .u64 y 4294967295)))+((IntKind.u64.wrap ((iAnd .u64 x' 4294967295)*(iAnd .u64 y 4294967295))).fdiv (2 ^ 32))))) (m':=32) V V (by decide) V (.aV V (.na H λH=>(.tR 6 V H λb10 G H=>(.mV V (.mV V (.mV V (.iV V ?_))))))));refine .iV V (.aV V (.na H λH=>(.tR 9 V H λb11 G H=>(.mV V (.mV V (.iV V (.mV V (.iV V ?_))))))));refine .mV V (.shr (m:=(IntKind.u64.wrap ((iAnd .u64 (IntKind.u64.wrap ((IntKind.u64.wrap ((x'.fdiv (2 ^ 32))*(iAnd .u64 y 4294967295)))+((IntKind.u64.wrap ((iAnd .u64 x' 4294967295)*(iAnd .u64 y 4294967295))).fdiv (2 ^ 32)))) 4294967295)+(IntKind.u64.wrap ((iAnd .u64 x' 4294967295)*(y.fdiv (2 ^ 32))))))) (m':=32) V V (by decide) V (.iV V (.aV V (.na H λH=>(.tR 4 V H λb12 G H=>(.mV V (.mV V (.iV V ?_))))))))
 refine .aV V (.na H λH=>(.ret ?_));subst h;exact Ends.eR V
theorem Z6o {n:Int} {minus:Bool} {r:Int×Int} (h:Z1D n minus=r):Fn CX 78 [(vu n),(vb minus)] (.tup [(vi r.1),(vi r.2)]):=by
 refine Fn.go Try.func78 V λG H=>?_;unfold Z1D at h;refine .tR 2 V H λb1 G H=>(.aV V (.aV V (.na H λH=>(.then (.inBlock (.tR 6 V H λb2 G H=>(.mV V (.mV V ?_))))))));refine .md H 3 [(11,(vb (minus&&(decide (n<=9223372036854775808))))),(0,(vu n)),(1,(vb minus))] [] V ?_ λe G H=>?_
 ·refine .split V V ?_ ?_<;>intro hc1
  ·refine .mV V (.iV V (.kT V (.nil ?_)));exact ⟨⟨Z3Z hc1,V,V,U⟩,H.wk (by omega)⟩
  ·refine .ps 2 V (.kF V (.nil ?_));exact ⟨⟨Z3w hc1,V,V,U⟩,H.wk (by omega)⟩
 refine .aV V (.na H λH=>?_);refine .wh h V ?_ ?_<;>intro h
 ·refine .tR 5 V H λb3 G H=>(.mV V (.neg (m:=n) V V (.conv (m:=(IntKind.u64.wrap (0-n))) V V V V (.aV V (.aV V (.na H λH=>(.ret ?_)))))));subst h;exact Ends.eR V
 refine .tR 7 V H λb4 G H=>(.mV V (.tV V (.mV V ?_)));refine .md H 3 [(21,(vb ((!minus)&&(decide (n<=9223372036854775807))))),(0,(vu n))] [] V ?_ λe G H=>?_
 ·refine .split V V ?_ ?_<;>intro hc3
  ·refine .mV V (.iV V (.kT V (.nil ?_)));exact ⟨⟨Z3Z hc3,V,U⟩,H.wk (by omega)⟩
  ·refine .ps 2 V (.kF V (.nil ?_));exact ⟨⟨Z3w hc3,V,U⟩,H.wk (by omega)⟩
 refine .aV V (.na H λH=>?_);refine .wh h V ?_ ?_<;>intro h
 ·refine .tR 4 V H λb5 G H=>(.mV V (.conv (m:=n) V V V V (.aV V (.aV V (.na H λH=>(.ret ?_))))));subst h;exact Ends.eR V
 refine .skip (.tR 2 V H λb6 G H=>(.aV V (.aV V (.na H λH=>(.ret ?_)))));subst h;exact Ends.eR V
theorem safe_Mul_fn {a:Int} {b:Int} {r:Int×Int} (h:Z1t a b=r):Fn CX 63 [(vi a),(vi b)] (.tup [(vi r.1),(vi r.2)]):=by
 refine Fn.go Try.func63 V λG H=>?_;unfold Z1t at h;refine .tR 2 V H λb1 G H=>(.aV V (.aV V (.na H λH=>(.tR 10 V H λb2 G H=>(.mV V (.cV (Z5E V) V (.mV V (.cV (Z5E V) V ?_))))))));refine .cV (Z4i V) V (.m1 (.tup [(vu (Zu (Z0B a) (Z0B b)).1),(vu (Zu (Z0B a) (Z0B b)).2)]) V V (.xV V (.xV V (.aV V (.aV V (.na H λH=>(.then (.tR 2 V H λb3 G H=>?_))))))));refine .mV V (.iV V (.na H λH=>?_));refine .wh h V ?_ ?_<;>intro h
 ·refine .tR 2 V H λb4 G H=>(.aV V (.aV V (.na H λH=>(.ret ?_))));subst h;exact Ends.eR V
 refine .skip (.tR 11 V H λb5 G H=>(.mV V (.mV V (.iV V (.mV V (.iV V (.neB (b:=(decide (a<0))) (b':=(decide (b<0))) V V V V (.cV (Z6o V) V ?_))))))));refine .xV V (.xV V (.aV V (.aV V (.na H λH=>(.ret ?_)))));subst h;exact Ends.eR V
theorem Z3I {f:Form} {i:Int} {r:(List Span)×Int×Int} (h:Z0x f i=some r):Fn CX 40 [(.agg (vs (Form.cs f))),(vi i)] (.tup [(vl Span.cs r.1),(vi r.2.1),(vi r.2.2)]):=by
 refine Fn.go Try.func40 V λG H=>?_;unfold Z0x at h;refine .tR 4 V H λb1 G H=>(.bxc (cs:=(vF f)) H V V V λG H=>(.a1 .nils V V (.aV V (.aV V (.na H λH=>(.then (.tR 8 V H λb2 G H=>(.LV (vF f) H 0 V ?_))))))));refine .mV V ?_;obtain ⟨x1,q1,h⟩:=bs h;refine .cV (Z5u q1) V (.m1 (.tup [(vi x1.1),(vb x1.2)]) V V (.xV V (.xV V (.aV V (.aV V (.na H λH=>(.tR 1 V H λb3 G H=>(.mV V ?_))))))));refine .na H λH=>?_;refine .wh h V ?_ ?_<;>intro h
 ·refine .tR 9 V H λb4 G H=>(.fV H 0 V (.lV H 0 V (.mV V ?_)));obtain ⟨x2,q2,h⟩:=bs h;refine .jV q2 V (.Z0I V V V V (.pV V (.aV V (.aV V (.aV V (.na H λH=>(.ret ?_)))))));obtain rfl:=sj h;exact Ends.eR V
 refine .skip (.then (.tR 3 V H λb5 G H=>(.fV H 0 V (.lV H 0 V (.iV V (.na H λH=>?_))))));refine .wh h V ?_ ?_<;>intro h
 ·refine .tR 3 V H λb6 G H=>(.a1 .nils V V (.aV V (.aV V (.na H λH=>(.ret ?_)))));obtain rfl:=sj h;exact (Ends.H (xs:=[.nils,(vi 0),(vi 0)]) (.inr V) H (.tmp (v:=.nils) V (.tmp (v:=(vi 0)) V (.tmp (v:=(vi 0)) V .nil))) (.two (.cons (.c .n) (.cons (.c (.v _)) (.cons (.c (.v _)) .nil)))))
 refine .skip (.tR 11 V H λb7 G H=>(.mV V (.fV H 0 V (.lV H 0 V ?_))));obtain ⟨x3,q3,h⟩:=bs h;refine .cV (safe_Floor_fn q3) V (.m1 (.tup [(vi x3.1),(vi x3.2.1),(vi x3.2.2)]) V V (.xV V (.xV V (.xV V (.aV V (.aV V (.aV V (.na H λH=>?_))))))));refine .tR 9 V H λb8 G H=>(.mV V (.fV H 0 V (.lV H 0 V (.cV (safe_Mul_fn V) V (.m1 (.tup [(vi (Z1t x3.1 f.Period).1),(vi (Z1t x3.1 f.Period).2)]) V V (.xV V (.xV V (.aV V ?_))))))));refine .aV V (.na H λH=>(.tR 10 V H λb9 G H=>(.fV H 0 V (.lV H 0 V (.mV V ?_)))));obtain ⟨x4,q4,h⟩:=bs h;refine .jV q4 V (.pV V (.mV V (.mV V (.aV V (.aV V (.aV V (.na H λH=>(.ret ?_))))))));obtain rfl:=sj h;exact Ends.eR V
theorem Z3l {a:Int} {b:Int} {r:Int×Int} (h:Z4 a b=r):Fn CX 43 [(vi a),(vi b)] (.tup [(vi r.1),(vi r.2)]):=by
 refine Fn.go Try.func43 V λG H=>?_;unfold Z4 at h;refine .tR 2 V H λb1 G H=>(.aV V (.aV V (.na H λH=>(.tR 4 V H λb2 G H=>(.mV V (.mV V (.iV V (.aV V ?_))))))));refine .na H λH=>(.then (.tR 10 V H λb3 G H=>(.mV V (.mV V (.iV V (.mV V (.iV V (.neB (b:=(decide ((w64 (a+b))>a))) (b':=(decide (b>0))) V V V V ?_))))))));refine .mV V ?_;refine .md H 3 [(19,(vb (((decide ((w64 (a+b))>a)) != (decide (b>0)))&&(b != 0)))),(6,(vi (w64 (a+b))))] [] V ?_ λe G H=>?_
 ·refine .split V V ?_ ?_<;>intro hc1
  ·refine .mV V (.iV V (.kT V (.nil ?_)));exact ⟨⟨Z3Z hc1,V,U⟩,H.wk (by omega)⟩
  ·refine .ps 2 V (.kF V (.nil ?_));exact ⟨⟨Z3w hc1,V,U⟩,H.wk (by omega)⟩
 refine .na H λH=>?_;refine .wh h V ?_ ?_<;>intro h
 ·refine .tR 2 V H λb4 G H=>(.aV V (.aV V (.na H λH=>(.ret ?_))));subst h;exact Ends.eR V
 refine .skip (.tR 3 V H λb5 G H=>(.mV V (.aV V (.aV V (.na H λH=>(.ret ?_))))));subst h;exact Ends.eR V
end Go.Dn

namespace Go.Dn
open Go Go.Proofs
set_option maxRecDepth 100000
set_option maxHeartbeats 4000000
theorem spans_Move_fn {l:(List Span)} {by':Int} {r:(List Span)×Int} (h:ZZ l by'=some r):Fn CX 21 [(vl Span.cs l),(vi by')] (.tup [(vl Span.cs r.1),(vi r.2)]):=by
 refine Fn.go Try.func21 V λG H=>?_;unfold ZZ at h;refine .tR 2 V H λb1 G H=>(.a1 .nils V V (.aV V (.na H λH=>(.tR 1 V H λb2 G H=>(.a1 .nils V V (.na H λH=>(.then (.tR 3 V H λb3 G H=>?_))))))));refine .mV V (.nV V (.mV V (.na H λH=>(.inBlock ?_))));replace H:=H.pushNil 43 2 true;obtain ⟨y1,hj1,h⟩:=bs h;obtain ⟨n1,hj1⟩:=ZL.1 hj1;refine .mono (Runs.loopO hj1 (λs2 e G=>∃ (w3:PV),ZC e [(1,(vi by')),(6,w3),(13,(vl Span.cs l)),(14,(vi (l.length:Int))),(15,(vi s2.1))]/\Hs G [.sl w3 43 2 (s2.2.map Span.cs) true]) (λy1 x e G=>(∃ a1,∃ (w4:PV),y1=(.go a1)/\x = .exit 0/\ZC e [(6,w4)]/\Hs G [.sl w4 43 2 (a1.map Span.cs) true])\/(∃ r',y1=(.ret r')/\x = .ret/\Ends CX Try.f21.results.toList (.tup [(vl Span.cs r'.1),(vi r'.2)]) x e G)) ⟨.nils,EI V,H⟩ ?_) ?_
 ·intro s2 e G hI z h;obtain ⟨w3,he,H⟩:=hI;obtain ⟨e,rfl⟩:=he.ex;unfold ZZ.s0 at h;refine .tR 1 V H λb4 G H=>(.iV V (.na H λH=>(.then ?_)));refine .wh h V ?_ ?_<;>intro h
  ·refine .skip (.then (.inBlock (.tR 4 V H λb5 G H=>?_)));obtain ⟨x1,q1,h⟩:=bs h;refine .jV q1 V (.qV [(.int .i64 x1.From),(.int .i64 x1.To)] V (.alc (cs:=[(vi 0),(vi 0)]) H V V λG H=>(.sV [(vi x1.From),(vi x1.To)] H 0 V λG H=>(.na H λH=>(.tR 9 V H λb6 G H=>(.fV H 0 V (.lV H 0 V (.mV V ?_))))))));refine .cV (Z3l V) V (.m1 (.tup [(vi (Z4 x1.From by').1),(vi (Z4 x1.From by').2)]) V V (.xV V (.xV V (.aV V (.aV V (.na H λH=>(.tR 9 V H λb7 G H=>(.fV H 0 V ?_))))))));refine .lV H 0 V (.mV V (.cV (Z3l V) V (.m1 (.tup [(vi (Z4 x1.To by').1),(vi (Z4 x1.To by').2)]) V V (.xV V (.xV V (.aV V (.aV V (.na H λH=>?_))))))));refine .then (.tR 16 V H λb8 G H=>(.mV V (.iV V (.mV V ?_))));refine .md H 3 [(38,(vb ((((Z4 x1.From by').2) != 0)||(((Z4 x1.To by').2) != 0)))),(1,(vi by')),(6,w3),(9,(vi (Z4 x1.From by').1)),(11,(vi (Z4 x1.To by').1)),(13,(vl Span.cs l)),(14,(vi (l.length:Int))),(15,(vi s2.1))] [.sl w3 43 2 (s2.2.map Span.cs) true] rfl ?_ λe G H=>?_
   ·refine .split V V ?_ ?_<;>intro hc2
    ·refine .ps 2 V (.kT V (.nil ?_));exact ⟨⟨or_T hc2,V,V,V,V,V,V,V,U⟩,(H.erase 0).wk (by omega)⟩
    ·refine .mV V (.iV V (.kF V (.nil ?_)));exact ⟨⟨or_F hc2,V,V,V,V,V,V,V,U⟩,(H.erase 0).wk (by omega)⟩
   refine .mV V ?_;refine .md H 4 [(43,(vb (((((Z4 x1.From by').2) != 0)||(((Z4 x1.To by').2) != 0))||(!(ZQ ((Z4 x1.From by').1)))))),(1,(vi by')),(6,w3),(9,(vi (Z4 x1.From by').1)),(11,(vi (Z4 x1.To by').1)),(13,(vl Span.cs l)),(14,(vi (l.length:Int))),(15,(vi s2.1))] [.sl w3 43 2 (s2.2.map Span.cs) true] rfl ?_ λe G H=>?_
   ·refine .split V V ?_ ?_<;>intro hc3
    ·refine .ps 3 V (.kT V (.nil ?_));exact ⟨⟨or_T hc3,V,V,V,V,V,V,V,U⟩,H.wk (by omega)⟩
    ·refine .mV V (.cV (Z11 V) V (.tV V (.kF V (.nil ?_))));exact ⟨⟨or_F hc3,V,V,V,V,V,V,V,U⟩,H.wk (by omega)⟩
   refine .mV V ?_;refine .md H 4 [(48,(vb ((((((Z4 x1.From by').2) != 0)||(((Z4 x1.To by').2) != 0))||(!(ZQ ((Z4 x1.From by').1))))||(!(ZQ ((Z4 x1.To by').1)))))),(1,(vi by')),(6,w3),(9,(vi (Z4 x1.From by').1)),(11,(vi (Z4 x1.To by').1)),(13,(vl Span.cs l)),(14,(vi (l.length:Int))),(15,(vi s2.1))] [.sl w3 43 2 (s2.2.map Span.cs) true] rfl ?_ λe G H=>?_
   ·refine .split V V ?_ ?_<;>intro hc4
    ·refine .ps 3 V (.kT V (.nil ?_));exact ⟨⟨or_T hc4,V,V,V,V,V,V,V,U⟩,H.wk (by omega)⟩
    ·refine .mV V (.cV (Z11 V) V (.tV V (.kF V (.nil ?_))));exact ⟨⟨or_F hc4,V,V,V,V,V,V,V,U⟩,H.wk (by omega)⟩
   refine .na H λH=>?_;refine .wh h V ?_ ?_<;>intro h
   ·refine .tR 2 V H λb9 G H=>(.a1 .nils V V (.aV V (.na H λH=>(.ret ?_))));obtain rfl:=sj h;exact ⟨nofun,(.inr ⟨_,V,V,(Ends.H (xs:=[.nils,(vi 20)]) (.inr V) H (.tmp (v:=.nils) V (.tmp (v:=(vi 20)) V .nil)) (.two (.cons (.c .n) (.cons (.c (.v _)) .nil))))⟩)⟩
   refine .skip (.Z9 7 V H λb10 G H=>(.m1 w3 V V (.mV V (.mV V (.bV [(vi (Z4 x1.From by').1),(vi (Z4 x1.To by').1)] V (.Z3C (sz:=2) ([(Span.mk ((Z4 x1.From by').1) ((Z4 x1.To by').1))].map Span.cs) H (by omega) (by omega) V V V V V V V V V λG H=>?_))))));obtain ⟨x2,q2,h⟩:=bs h;refine .Z3t (c:=Span.cs) (v:=w3) (w:=(.buf (b10+4) 1 2)) (xs:=s2.2) (ys:=[(Span.mk ((Z4 x1.From by').1) ((Z4 x1.To by').1))]) H (by omega) (by omega) 1 V V V (.s 0 V) q2 V V V V V nofun V λw5 G H=>(.a1 w5 V V (.na H λH=>(.Z9 2 V H λb11 G H=>(.iV V (.mV V (.na H λH=>?_))))));obtain rfl:=sj h;exact ⟨V,w5,EI V,(H.erase 0)⟩
  refine .exit ?_;obtain rfl:=sj h;exact ⟨nofun,(.inl ⟨_,w3,V,V,EI V,H⟩)⟩
 ·rintro x e G (⟨a2,w6,rfl,rfl,he,H⟩|⟨r',rfl,rfl,hE⟩)
  ·replace h:=jgo h;obtain ⟨e,rfl⟩:=he.ex;refine .tR 3 V H λb12 G H=>(.m1 w6 V V (.a1 w6 V V (.aV V (.na H λH=>(.ret ?_)))));obtain rfl:=sj h;exact (Ends.H (xs:=[w6,(vi 0)]) (.inr V) H (.tmp (v:=w6) V (.tmp (v:=(vi 0)) V .nil)) (.two (.cons (.c (.s 0 V)) (.cons (.c (.v _)) .nil))))
  ·replace h:=jret h;obtain rfl:=sj h;exact hE
theorem Z3j {f:Form} {i:Int} {r:(List Span)×Int} (h:Z0U f i=some r):Fn CX 16 [(.agg (vs (Form.cs f))),(vi i)] (.tup [(vl Span.cs r.1),(vi r.2)]):=by
 refine Fn.go Try.func16 V λG H=>?_;unfold Z0U at h;refine .tR 3 V H λb1 G H=>(.bxc (cs:=(vF f)) H V V V λG H=>(.a1 .nils V V (.aV V (.na H λH=>(.then (.tR 3 V H λb2 G H=>(.mV V (.cV (Z13 V) V ?_))))))));refine .tV V (.na H λH=>?_);refine .wh h V ?_ ?_<;>intro h
 ·refine .tR 2 V H λb3 G H=>(.a1 .nils V V (.aV V (.na H λH=>(.ret ?_))));obtain rfl:=sj h;exact (Ends.H (xs:=[.nils,(vi 20)]) (.inr V) H (.tmp (v:=.nils) V (.tmp (v:=(vi 20)) V .nil)) (.two (.cons (.c .n) (.cons (.c (.v _)) .nil))))
 refine .skip (.tR 10 V H λb4 G H=>(.LV (vF f) H 0 V (.mV V ?_)));obtain ⟨x1,q1,h⟩:=bs h;refine .cV (Z3I q1) V (.m1 (.tup [(vl Span.cs x1.1),(vi x1.2.1),(vi x1.2.2)]) V V (.xV V (.xV V (.xV V (.aV V (.aV V (.aV V (.na H λH=>?_))))))));refine .then (.tR 3 V H λb5 G H=>(.mV V (.nV V (.iV V (.na H λH=>?_)))));refine .wh h V ?_ ?_<;>intro h
 ·refine .tR 2 V H λb6 G H=>(.a1 .nils V V (.aV V (.na H λH=>(.ret ?_))));obtain rfl:=sj h;exact (Ends.H (xs:=[.nils,(vi 0)]) (.inr V) H (.tmp (v:=.nils) V (.tmp (v:=(vi 0)) V .nil)) (.two (.cons (.c .n) (.cons (.c (.v _)) .nil))))
 refine .skip (.then (.tR 2 V H λb7 G H=>(.mV V (.iV V (.na H λH=>?_)))));refine .wh h V ?_ ?_<;>intro h
 ·refine .tR 2 V H λb8 G H=>(.a1 .nils V V (.aV V (.na H λH=>(.ret ?_))));obtain rfl:=sj h;exact (Ends.H (xs:=[.nils,(vi 20)]) (.inr V) H (.tmp (v:=.nils) V (.tmp (v:=(vi 20)) V .nil)) (.two (.cons (.c .n) (.cons (.c (.v _)) .nil))))
 refine .skip (.tR 7 V H λb9 G H=>(.mV V (.mV V ?_)));obtain ⟨x2,q2,h⟩:=bs h;refine .cV (spans_Move_fn q2) V (.xV V (.xV V (.aV V (.aV V (.na H λH=>(.ret ?_))))));obtain rfl:=sj h;exact Ends.eR V
theorem Z1N {s:(List (List Span))} {f:(List Span)->Option Bool} {C:List Res} {cv0:PV} (hs0:cv0.one=true) (hp0:cv0.pure=true->C=[]) (hf0:∀ z0 y,f z0=some y->CloH CX cv0 [(vl Span.cs z0)] (vb y) C) {r:Int} (h:Z8 s f=some r):FnH CX 82 [(vl (cL Span.cs) s),cv0] (vi r) C:=by
 refine FnH.of Try.func82 V V V V (all_t V (all_t (Z5d hs0) all_nil)) V (λh=>hp0 (all_get h 1 V)) ?_;intro G L hC H;unfold Z8 at h;refine .tR 1 V H λb1 G H=>(.aV V (.na H λH=>(.then (.tR 3 V H λb2 G H=>(.mV V (.nV V (.mV V (.na H λH=>?_))))))));refine .inBlock ?_;obtain ⟨y1,hj1,h⟩:=bs h;obtain ⟨n1,hj1⟩:=ZL.1 hj1;refine .mono (Runs.loopO hj1 (λs1 e G=>ZC e [(0,(vl (cL Span.cs) s)),(1,cv0),(7,(vi (s.length:Int))),(8,(vi s1))]/\Hs G (L)) (λy1 x e G=>(∃ a1,y1=(.go a1)/\x = .exit 0/\ZC e []/\Hs G (L))\/(∃ r',y1=(.ret r')/\x = .ret/\EndsH CX Try.f82.results.toList (vi r') L x e G)) ⟨EI V,H⟩ ?_) ?_
 ·intro s1 e G hI z h;obtain ⟨he,H⟩:=hI;obtain ⟨e,rfl⟩:=he.ex;unfold Z8.s0 at h;refine .tR 1 V H λb3 G H=>(.iV V (.na H λH=>(.then ?_)));refine .wh h V ?_ ?_<;>intro h
  ·refine .skip (.then (.inBlock (.tR 2 V H λb4 G H=>(.mV V (.aV V (.na H λH=>(.tR 6 V H λb5 G H=>(.m1 cv0 V V ?_))))))));refine .mV V (.mV V ?_);obtain ⟨x1,q1,h⟩:=bs h;refine .jV q1 V (.pV V ?_);obtain ⟨x2,q2,h⟩:=bs h;refine .callV (cv:=cv0) (ys:=[(vl Span.cs x1)]) (r:=(vb x2)) H V V (hf0 x1 _ q2) hC nofun V λG H=>(.na H λH=>?_);refine .wh h V ?_ ?_<;>intro h
   ·refine .tR 2 V H λb6 G H=>(.mV V (.aV V (.na H λH=>(.ret ?_))));obtain rfl:=sj h;exact ⟨nofun,(.inr ⟨_,V,V,(EndsH.H (xs:=[(vi s1)]) (.inr V) H (.tmp (v:=(vi s1)) V .nil) (.one (.c (.v _))) 0 V)⟩)⟩
   refine .skip (.Z9 2 V H λb7 G H=>(.iV V (.mV V (.na H λH=>?_))));obtain rfl:=sj h;exact ⟨V,EI V,H⟩
  refine .exit ?_;obtain rfl:=sj h;exact ⟨nofun,(.inl ⟨_,V,V,U,H⟩)⟩
 ·rintro x e G (⟨a2,rfl,rfl,he,H⟩|⟨r',rfl,rfl,hE⟩)
  ·replace h:=jgo h;obtain ⟨e,rfl⟩:=he.ex;refine .tR 1 V H λb8 G H=>(.aV V (.na H λH=>(.ret ?_)));obtain rfl:=sj h;exact (EndsH.H (xs:=[(vi (-1))]) (.inr V) H (.tmp (v:=(vi (-1))) V .nil) (.one (.c (.v _))) 0 V)
  ·replace h:=jret h;obtain rfl:=sj h;exact hE
theorem Z12 {s:(List (List Span))} {f:(List Span)->Option Bool} {C:List Res} {cv0:PV} (hs0:cv0.one=true) (hp0:cv0.pure=true->C=[]) (hf0:∀ z0 y,f z0=some y->CloH CX cv0 [(vl Span.cs z0)] (vb y) C) {r:Bool} (h:ZW s f=some r):FnH CX 71 [(vl (cL Span.cs) s),cv0] (vb r) C:=by
 refine FnH.of Try.func71 V V V V (all_t V (all_t (Z5d hs0) all_nil)) V (λh=>hp0 (all_get h 1 V)) ?_;intro G L hC H;unfold ZW at h;refine .tR 1 V H λb1 G H=>(.aV V (.na H λH=>(.tR 5 V H λb2 G H=>(.mV V (.m1 cv0 V V ?_)))));obtain ⟨x1,q1,h⟩:=bs h;refine .callH (ys:=[(vl (cL Span.cs) s),cv0]) (r:=(vi x1)) H V (Z1N (C:=C) hs0 hp0 hf0 q1) hC nofun V λG H=>(.iV V (.aV V (.na H λH=>(.ret ?_))));obtain rfl:=sj h;exact (EndsH.H (xs:=[(vb (decide (x1>=0)))]) (.inr V) H (.tmp (v:=(vb (decide (x1>=0)))) V .nil) (.one (.c (.v _))) 0 V)
theorem Z6f {l:(List Span)} {r:Bool} (h:Z2R l=r):Fn CX 72 [(vl Span.cs l)] (vb r):=by
 refine Fn.go Try.func72 V λG H=>?_;unfold Z2R at h;refine .tR 1 V H λb1 G H=>(.aV V (.na H λH=>(.tR 4 V H λb2 G H=>(.mV V (.nV V (.iV V (.aV V (.na H λH=>?_))))))));refine .ret ?_;subst h;exact Ends.eR V
theorem gran_bare_fn {f:Form} {r:Bool} (h:Z32 f=some r):Fn CX 59 [(.agg (vs (Form.cs f)))] (vb r):=by
 refine Fn.go Try.func59 V λG H=>?_;unfold Z32 at h;refine .tR 2 V H λb1 G H=>(.bxc (cs:=(vF f)) H V V V λG H=>(.aV V (.na H λH=>(.tR 5 V H λb2 G H=>(.fV H 0 V (.lV H 0 V ?_))))));obtain ⟨x1,q1,h⟩:=bs h;refine .callH (ys:=[(vl (cL Span.cs) f.Core),(.v (.fn 72))]) (r:=(vb x1)) H V (Z12 (C:=[]) V (λ_=>V) (λz0 y hz=>(CloH.fn (Fn.toH (Z6f (Option.some.inj hz)) _))) q1) .nil nofun V λG H=>(.tV V (.aV V (.na H λH=>(.ret ?_))));obtain rfl:=sj h;exact Ends.eR V
theorem gran_some_fn {f:Form} {i:Int} {r:Bool} (h:Z2u f i=some r):Fn CX 61 [(.agg (vs (Form.cs f))),(vi i)] (vb r):=by
 refine Fn.go Try.func61 V λG H=>?_;unfold Z2u at h;refine .tR 2 V H λb1 G H=>(.bxc (cs:=(vF f)) H V V V λG H=>(.aV V (.na H λH=>(.tR 10 V H λb2 G H=>(.LV (vF f) H 0 V (.mV V ?_))))));obtain ⟨x1,q1,h⟩:=bs h;refine .cV (Z3I q1) V (.m1 (.tup [(vl Span.cs x1.1),(vi x1.2.1),(vi x1.2.2)]) V V (.xV V (.xV V (.xV V (.aV V (.aV V (.aV V (.na H λH=>?_))))))));refine .tR 4 V H λb3 G H=>(.mV V (.nV V (.iV V (.aV V (.na H λH=>(.ret ?_))))));obtain rfl:=sj h;exact Ends.eR V
theorem Z5O {f:Form} {from':Int} {by':Int} {r:Int×Bool} (h:Ze f from' by'=some r):Fn CX 38 [(.agg (vs (Form.cs f))),(vi from'),(vi by')] (.tup [(vi r.1),(vb r.2)]):=by
 refine Fn.go Try.func38 V λG H=>?_;unfold Ze at h;refine .tR 3 V H λb1 G H=>(.bxc (cs:=(vF f)) H V V V λG H=>(.aV V (.aV V (.na H λH=>(.then (.tR 2 V H λb2 G H=>(.LV (vF f) H 0 V ?_)))))));obtain ⟨x1,q1,h⟩:=bs h;refine .cV (gran_bare_fn q1) V (.na H λH=>?_);refine .wh h V ?_ ?_<;>intro h
 ·refine .tR 8 V H λb3 G H=>(.LV (vF f) H 0 V (.mV V ?_));obtain ⟨x2,q2,h⟩:=bs h;refine .cV (Z5u q2) V (.m1 (.tup [(vi x2.1),(vb x2.2)]) V V (.xV V (.xV V (.aV V (.aV V (.na H λH=>(.then ?_)))))));refine .jn h .normal (λy1=>[(2,(vi by')),(3,(.ptr (b1+0) 4 0)),(8,(vi y1))]) (λy1=>[.blk (b1+0) 25 (vF f)]) (λy1 h=>?_) λy1 e G H h=>?_
  ·refine .tR 6 V H λb4 G H=>(.mV V (.iV V (.mV V ?_)));refine .md H 3 [(24,(vb ((decide (by'<0))&&(!x2.2)))),(2,(vi by')),(3,(.ptr (b1+0) 4 0)),(8,(vi x2.1))] [.blk (b1+0) 25 (vF f)] V ?_ λe G H=>?_
   ·refine .split V V ?_ ?_<;>intro hc2
    ·refine .mV V (.tV V (.kT V (.nil ?_)));exact ⟨⟨Z3Z hc2,V,V,V,U⟩,H.wk (by omega)⟩
    ·refine .ps 2 V (.kF V (.nil ?_));exact ⟨⟨Z3w hc2,V,V,V,U⟩,H.wk (by omega)⟩
   refine .na H λH=>?_;refine .wh h V ?_ ?_<;>intro h
   ·refine .Z9 3 V H λb5 G H=>(.mV V (.iV V (.aV V (.na H λH=>?_))));obtain rfl:=sj h;exact ⟨V,EI V,H⟩
   refine .skip ?_;obtain rfl:=sj h;exact ⟨V,EI V,H⟩
  refine .then (.inBlock ?_);obtain ⟨y2,hj2,h⟩:=bs h;obtain ⟨n1,hj2⟩:=ZL.1 hj2;refine .mono (Runs.loopO hj2 (λs1 e G=>ZC e [(2,(vi by')),(3,(.ptr (b1+0) 4 0)),(8,(vi s1))]/\Hs G [.blk (b1+0) 25 (vF f)]) (λy2 x e G=>(∃ a1,y2=(.go a1)/\x = .exit 0/\ZC e []/\Hs G [])\/(∃ r',y2=(.ret r')/\x = .ret/\Ends CX Try.f38.results.toList (.tup [(vi r'.1),(vb r'.2)]) x e G)) ⟨EI V,H⟩ ?_) ?_
  ·intro s1 e G hI z h;obtain ⟨he,H⟩:=hI;obtain ⟨e,rfl⟩:=he.ex;unfold Ze.s0 at h;refine .then (.tR 9 V H λb6 G H=>(.mV V (.iV V (.mV V ?_))));refine .md H 6 [(35,(vb ((decide (s1>=0))&&(decide (s1<(f.Odd.length:Int)))))),(2,(vi by')),(3,(.ptr (b1+0) 4 0)),(8,(vi s1))] [.blk (b1+0) 25 (vF f)] V ?_ λe G H=>?_
   ·refine .split V V ?_ ?_<;>intro hc4
    ·refine .mV V (.fV H 0 V (.lV H 0 V (.nV V (.iV V (.kT V (.nil ?_))))));exact ⟨⟨Z3Z hc4,V,V,V,U⟩,H.wk (by omega)⟩
    ·refine .ps 5 V (.kF V (.nil ?_));exact ⟨⟨Z3w hc4,V,V,V,U⟩,H.wk (by omega)⟩
   refine .na H λH=>?_;refine .wh h V ?_ ?_<;>intro h
   ·refine .skip (.then (.inBlock (.tR 8 V H λb7 G H=>(.fV H 0 V (.lV H 0 V (.mV V ?_))))));obtain ⟨x3,q3,h⟩:=bs h;refine .jV q3 V (.Z0I V V V V (.pV V (.nV V (.iV V (.na H λH=>?_)))));refine .wh h V ?_ ?_<;>intro h
    ·refine .tR 8 V H λb8 G H=>(.fV H 0 V (.lV H 0 V (.mV V ?_)));obtain ⟨x4,q4,h⟩:=bs h;refine .jV q4 V (.Z0I V V V V (.pV V (.aV V (.aV V (.na H λH=>(.ret ?_))))));obtain rfl:=sj h;exact ⟨nofun,(.inr ⟨_,V,V,(Ends.H (xs:=[(vi x4.Index),(vb true)]) (.inr V) H (.tmp (v:=(vi x4.Index)) V (.tmp (v:=(vb true)) V .nil)) (.two (.cons (.c (.v _)) (.cons (.c (.v _)) .nil))))⟩)⟩
    refine .skip (.Z9 4 V H λb9 G H=>(.mV V (.mV V (.iV V (.aV V (.na H λH=>?_))))));obtain rfl:=sj h;exact ⟨V,EI V,H⟩
   refine .exit ?_;obtain rfl:=sj h;exact ⟨nofun,(.inl ⟨_,V,V,U,(H.erase 0)⟩)⟩
  ·rintro x e G (⟨a2,rfl,rfl,he,H⟩|⟨r',rfl,rfl,hE⟩)
   ·replace h:=jgo h;obtain ⟨e,rfl⟩:=he.ex;refine .tR 2 V H λb10 G H=>(.aV V (.aV V (.na H λH=>(.ret ?_))));obtain rfl:=sj h;exact Ends.eR V
   ·replace h:=jret h;obtain rfl:=sj h;exact hE
 refine .skip (.then (.tR 2 V H λb11 G H=>(.mV V (.aV V (.na H λH=>(.inBlock ?_))))));obtain ⟨y3,hj3,h⟩:=bs h;obtain ⟨n2,hj3⟩:=ZL.1 hj3;refine .mono (Runs.loopO hj3 (λs2 e G=>ZC e [(2,(vi by')),(3,(.ptr (b1+0) 4 0)),(10,(vi s2))]/\Hs G [.blk (b1+0) 25 (vF f)]) (λy3 x e G=>(∃ a3,y3=(.go a3)/\x = .exit 2/\ZC e []/\Hs G [])\/(∃ r',y3=(.ret r')/\x = .ret/\Ends CX Try.f38.results.toList (.tup [(vi r'.1),(vb r'.2)]) x e G)) ⟨EI V,H⟩ ?_) ?_
 ·intro s2 e G hI z h;obtain ⟨he,H⟩:=hI;obtain ⟨e,rfl⟩:=he.ex;unfold Ze.s1 at h;refine .then (.tR 2 V H λb12 G H=>(.mV V (.cV (Z13 V) V (.na H λH=>?_))));refine .wh h V ?_ ?_<;>intro h
  ·refine .skip (.then (.inBlock (.tR 3 V H λb13 G H=>(.LV (vF f) H 0 V (.mV V ?_)))));obtain ⟨x5,q5,h⟩:=bs h;refine .cV (gran_some_fn q5) V (.na H λH=>?_);refine .wh h V ?_ ?_<;>intro h
   ·refine .tR 3 V H λb14 G H=>(.mV V (.aV V (.aV V (.na H λH=>(.ret ?_)))));obtain rfl:=sj h;exact ⟨nofun,(.inr ⟨_,V,V,(Ends.H (xs:=[(vi s2),(vb true)]) (.inr V) H (.tmp (v:=(vi s2)) V (.tmp (v:=(vb true)) V .nil)) (.two (.cons (.c (.v _)) (.cons (.c (.v _)) .nil))))⟩)⟩
   refine .skip (.Z9 4 V H λb15 G H=>(.mV V (.mV V (.iV V (.aV V (.na H λH=>?_))))));obtain rfl:=sj h;exact ⟨V,EI V,H⟩
  refine .exit ?_;obtain rfl:=sj h;exact ⟨nofun,(.inl ⟨_,V,V,U,(H.erase 0)⟩)⟩
 ·rintro x e G (⟨a4,rfl,rfl,he,H⟩|⟨r',rfl,rfl,hE⟩)
  ·replace h:=jgo h;obtain ⟨e,rfl⟩:=he.ex;refine .tR 2 V H λb16 G H=>(.aV V (.aV V (.na H λH=>(.ret ?_))));obtain rfl:=sj h;exact Ends.eR V
  ·replace h:=jret h;obtain rfl:=sj h;exact hE
theorem Z6M {f:Form} {i:Int} {r:Int×Bool} (h:Z1G f i=some r):Fn CX 15 [(.agg (vs (Form.cs f))),(vi i)] (.tup [(vi r.1),(vb r.2)]):=by
 refine Fn.go Try.func15 V λG H=>?_;unfold Z1G at h;refine .tR 3 V H λb1 G H=>(.bxc (cs:=(vF f)) H V V V λG H=>(.aV V (.aV V (.na H λH=>(.then (.tR 2 V H λb2 G H=>(.mV V (.iV V ?_))))))));refine .na H λH=>?_;refine .wh h V ?_ ?_<;>intro h
 ·refine .tR 2 V H λb3 G H=>(.aV V (.aV V (.na H λH=>(.ret ?_))));obtain rfl:=sj h;exact Ends.eR V
 refine .skip (.tR 9 V H λb4 G H=>(.LV (vF f) H 0 V (.mV V (.iV V (.min2 V V V ?_)))));obtain ⟨x1,q1,h⟩:=bs h;refine .cV (Z5O q1) V (.xV V (.xV V (.aV V (.aV V (.na H λH=>(.ret ?_))))));obtain rfl:=sj h;exact Ends.eR V
theorem Z6q {f:Form} {i:Int} {r:Int×Bool} (h:Z1F f i=some r):Fn CX 14 [(.agg (vs (Form.cs f))),(vi i)] (.tup [(vi r.1),(vb r.2)]):=by
 refine Fn.go Try.func14 V λG H=>?_;unfold Z1F at h;refine .tR 3 V H λb1 G H=>(.bxc (cs:=(vF f)) H V V V λG H=>(.aV V (.aV V (.na H λH=>(.then (.tR 2 V H λb2 G H=>(.mV V (.iV V ?_))))))));refine .na H λH=>?_;refine .wh h V ?_ ?_<;>intro h
 ·refine .tR 2 V H λb3 G H=>(.aV V (.aV V (.na H λH=>(.ret ?_))));obtain rfl:=sj h;exact Ends.eR V
 refine .skip (.tR 9 V H λb4 G H=>(.LV (vF f) H 0 V (.mV V (.iV V (.max2 V V V ?_)))));obtain ⟨x1,q1,h⟩:=bs h;refine .cV (Z5O q1) V (.xV V (.xV V (.aV V (.aV V (.na H λH=>(.ret ?_))))));obtain rfl:=sj h;exact Ends.eR V
theorem Z2G {a:(List Span)} {b:(List Span)} {r:Bool} (h:Z0G a b=some r):Fn CX 19 [(vl Span.cs a),(vl Span.cs b)] (vb r):=by
 refine Fn.go Try.func19 V λG H=>?_;unfold Z0G at h;refine .tR 1 V H λb1 G H=>(.aV V (.na H λH=>(.then (.Z22 23 V (by kernel_rfl) H λb2 G H B2=>(.mV V (.nV V (.iV V (.mV V ?_))))))));refine .md H 4 [(12,(vb (((a.length:Int)==0)||((b.length:Int)==0)))),(0,(vl Span.cs a)),(1,(vl Span.cs b))] [] rfl ?_ λe G H=>?_
 ·refine .split V V ?_ ?_<;>intro hc1
  ·refine .ps 3 V (.kT V (.nil ?_));exact ⟨⟨or_T hc1,V,V,U⟩,H.wk (by omega)⟩
  ·refine .mV V (.nV V (.iV V (.kF V (.nil ?_))));exact ⟨⟨or_F hc1,V,V,U⟩,H.wk (by omega)⟩
 refine .mV V ?_;obtain ⟨y1,hj1,h⟩:=bs h;refine .md H 13 [(26,(vb y1))] [] V ?_ λe G H=>?_
 ·refine .sp hj1 V ?_ ?_<;>intro h
  ·refine .ps 12 V (.kT V (.nil ?_));obtain rfl:=sj h;exact ⟨EI V,H.wk (by omega)⟩
  refine .mV V (.mV V (.nV V (.iV V (.wt V V ?_))));obtain ⟨x1,q1,h⟩:=bs h;refine .jV q1 V (.wt V V (.Z0I V V V V (.pV V (.mV V (.wt V V ?_)))));obtain ⟨x2,q2,h⟩:=bs h;refine .jV q2 V (.wt V V (.Z0I V V V V (.pV V (.iV V (.kF V (.nil ?_))))));obtain rfl:=sj h;exact ⟨EI V,H.wk (by omega)⟩
 refine .aV V (.na H λH=>(.ret ?_));obtain rfl:=sj h;exact Ends.eR V
theorem Z6I {f:Form} {i:Int} {r:Bool} (h:Z0r f i=some r):Fn CX 58 [(.agg (vs (Form.cs f))),(vi i)] (vb r):=by
 refine Fn.go Try.func58 V λG H=>?_;unfold Z0r at h;refine .tR 2 V H λb1 G H=>(.bxc (cs:=(vF f)) H V V V λG H=>(.aV V (.na H λH=>(.tR 8 V H λb2 G H=>(.LV (vF f) H 0 V (.mV V ?_))))));obtain ⟨x1,q1,h⟩:=bs h;refine .cV (Z3j q1) V (.m1 (.tup [(vl Span.cs x1.1),(vi x1.2)]) V V (.xV V (.xV V (.aV V (.aV V (.na H λH=>(.then (.tR 2 V H λb3 G H=>?_))))))));refine .mV V (.iV V (.na H λH=>?_));refine .wh h V ?_ ?_<;>intro h
 ·refine .tR 1 V H λb4 G H=>(.aV V (.na H λH=>(.ret ?_)));obtain rfl:=sj h;exact Ends.eR V
 refine .skip (.tR 8 V H λb5 G H=>(.LV (vF f) H 0 V (.mV V ?_)));obtain ⟨x2,q2,h⟩:=bs h;refine .cV (Z6M q2) V (.m1 (.tup [(vi x2.1),(vb x2.2)]) V V (.xV V (.xV V (.aV V (.aV V (.na H λH=>(.tR 8 V H λb6 G H=>(.LV (vF f) H 0 V ?_))))))));refine .mV V ?_;obtain ⟨x3,q3,h⟩:=bs h;refine .cV (Z6q q3) V (.m1 (.tup [(vi x3.1),(vb x3.2)]) V V (.xV V (.xV V (.aV V (.aV V (.na H λH=>(.tR 2 V H λb7 G H=>(.a1 .nils V V ?_))))))));refine .a1 .nils V V (.na H λH=>(.then ?_));obtain ⟨y1,hj1,h⟩:=bs h;refine .mono (Q:=λx e G=>(∃ a1,∃ (w1:PV),RO w1 (a1.map Span.cs)/\y1=(.go a1)/\x = .normal/\ZC e [(2,(.ptr (b1+0) 4 0)),(5,(vl Span.cs x1.1)),(9,(vi x3.1)),(10,(vb x3.2)),(11,w1),(12,.nils)]/\Hs G [.blk (b1+0) 25 (vF f)])\/(∃ r',y1=(.ret r')/\x = .ret/\Ends CX Try.f58.results.toList (vb r') x e G)) ?_ ?_
 ·replace h:=hj1;refine .tR 1 V H λb8 G H=>(.mV V (.na H λH=>?_));refine .wh h V ?_ ?_<;>intro h
  ·refine .tR 8 V H λb9 G H=>(.LV (vF f) H 0 V (.mV V ?_));obtain ⟨x4,q4,h⟩:=bs h;refine .cV (Z3j q4) V (.m1 (.tup [(vl Span.cs x4.1),(vi x4.2)]) V V (.xV V (.xV V (.aV V (.aV V (.na H λH=>(.tR 2 V H λb10 G H=>(.mV V ?_))))))));refine .iV V (.na H λH=>?_);refine .wh h V ?_ ?_<;>intro h
   ·refine .tR 1 V H λb11 G H=>(.aV V (.na H λH=>(.ret ?_)));obtain rfl:=sj h;exact (.inr ⟨_,V,V,(Ends.H (xs:=[(vb false)]) (.inr V) H (.tmp (v:=(vb false)) V .nil) (.one (.c (.v _))))⟩)
   refine .skip ?_;obtain rfl:=sj h;exact (.inl ⟨_,(vl Span.cs x4.1),.inr V,V,V,EI V,H⟩)
  refine .skip ?_;obtain rfl:=sj h;exact (.inl ⟨_,.nils,.inl ⟨V,V⟩,V,V,EI V,H⟩)
 ·rintro x e G (⟨a2,w2,hw2,rfl,rfl,he,H⟩|⟨r',rfl,rfl,hE⟩)
  ·replace h:=jgo h;obtain ⟨e,rfl⟩:=he.ex;refine .then ?_;obtain ⟨y2,hj2,h⟩:=bs h;refine .mono (Q:=λx e G=>(∃ a3,∃ (w3:PV),RO w3 (a3.map Span.cs)/\y2=(.go a3)/\x = .normal/\ZC e [(5,(vl Span.cs x1.1)),(11,w2),(12,w3)]/\Hs G [])\/(∃ r',y2=(.ret r')/\x = .ret/\Ends CX Try.f58.results.toList (vb r') x e G)) ?_ ?_
   ·replace h:=hj2;refine .tR 1 V H λb12 G H=>(.mV V (.na H λH=>?_));refine .wh h V ?_ ?_<;>intro h
    ·refine .tR 8 V H λb13 G H=>(.LV (vF f) H 0 V (.mV V ?_));obtain ⟨x5,q5,h⟩:=bs h;refine .cV (Z3j q5) V (.m1 (.tup [(vl Span.cs x5.1),(vi x5.2)]) V V (.xV V (.xV V (.aV V (.aV V (.na H λH=>(.tR 2 V H λb14 G H=>(.mV V ?_))))))));refine .iV V (.na H λH=>?_);refine .wh h V ?_ ?_<;>intro h
     ·refine .tR 1 V H λb15 G H=>(.aV V (.na H λH=>(.ret ?_)));obtain rfl:=sj h;exact (.inr ⟨_,V,V,(Ends.H (xs:=[(vb false)]) (.inr V) H (.tmp (v:=(vb false)) V .nil) (.one (.c (.v _))))⟩)
     refine .skip ?_;obtain rfl:=sj h;exact (.inl ⟨_,(vl Span.cs x5.1),.inr V,V,V,EI V,(H.erase 0)⟩)
    refine .skip ?_;obtain rfl:=sj h;exact (.inl ⟨_,.nils,.inl ⟨V,V⟩,V,V,EI V,(H.erase 0)⟩)
   ·rintro x e G (⟨a4,w4,hw4,rfl,rfl,he,H⟩|⟨r',rfl,rfl,hE⟩)
    ·replace h:=jgo h;obtain ⟨e,rfl⟩:=he.ex;refine .tR 14 V H λb16 G H=>(.m1 w2 V V (.mV V ?_));obtain ⟨x6,q6,h⟩:=bs h;refine .callX (xs:=[w2,(vl Span.cs x1.1)]) (ys:=[(vl Span.cs a2),(vl Span.cs x1.1)]) H V (.cons (.c (.ro hw2)) (.cons (.c (.v _)) .nil)) (Z2G q6) V V nofun V λG H=>(.mV V ?_);obtain ⟨y3,hj3,h⟩:=bs h;refine .md H 4 [(58,(vb y3)),(11,w2),(12,w4)] [] V ?_ λe G H=>?_
     ·refine .sp hj3 V ?_ ?_<;>intro h
      ·refine .mV V (.m1 w4 V V (.wt V V ?_));obtain ⟨x7,q7,h⟩:=bs h;refine .callX (xs:=[(vl Span.cs x1.1),w4]) (ys:=[(vl Span.cs x1.1),(vl Span.cs a4)]) H V (.cons (.c (.v _)) (.cons (.c (.ro hw4)) .nil)) (Z2G q7) V V nofun V λG H=>(.kT V (.nil ?_));obtain rfl:=sj h;exact ⟨EI V,H.wk (by omega)⟩
      refine .ps 3 V (.kF V (.nil ?_));obtain rfl:=sj h;exact ⟨EI V,H.wk (by omega)⟩
     refine .mV V ?_;obtain ⟨y4,hj4,h⟩:=bs h;refine .md H 4 [(63,(vb y4))] [] V ?_ λe G H=>?_
     ·refine .sp hj4 V ?_ ?_<;>intro h
      ·refine .m1 w2 V V (.m1 w4 V V (.wt V V ?_));obtain ⟨x8,q8,h⟩:=bs h;refine .callX (xs:=[w2,w4]) (ys:=[(vl Span.cs a2),(vl Span.cs a4)]) H V (.cons (.c (.ro hw2)) (.cons (.c (.ro hw4)) .nil)) (Z2G q8) V V nofun V λG H=>(.kT V (.nil ?_));obtain rfl:=sj h;exact ⟨EI V,H.wk (by omega)⟩
      refine .ps 3 V (.kF V (.nil ?_));obtain rfl:=sj h;exact ⟨EI V,H.wk (by omega)⟩
     refine .aV V (.na H λH=>(.ret ?_));obtain rfl:=sj h;exact Ends.eR V
    ·replace h:=jret h;obtain rfl:=sj h;exact hE
  ·replace h:=jret h;obtain rfl:=sj h;exact hE
theorem gran_Right_fn {f:Form} {r:Int} (h:Z03 f=some r):Fn CX 32 [(.agg (vs (Form.cs f)))] (vi r):=by
 refine Fn.go Try.func32 V λG H=>?_;unfold Z03 at h;refine .tR 2 V H λb1 G H=>(.bxc (cs:=(vF f)) H V V V λG H=>(.aV V (.na H λH=>(.then (.tR 15 V H λb2 G H=>(.fV H 0 V (.lV H 0 V (.nV V ?_))))))));refine .iV V (.mV V ?_);refine .md H 5 [(14,(vb ((decide ((f.Core.length:Int)>6000))||(decide ((f.Odd.length:Int)>6000))))),(1,(.ptr (b1+0) 4 0))] [.blk (b1+0) 25 (vF f)] rfl ?_ λe G H=>?_
 ·refine .split V V ?_ ?_<;>intro hc1
  ·refine .ps 4 V (.kT V (.nil ?_));exact ⟨⟨or_T hc1,V,U⟩,H.wk (by omega)⟩
  ·refine .fV H 0 V (.lV H 0 V (.nV V (.iV V (.kF V (.nil ?_)))));exact ⟨⟨or_F hc1,V,U⟩,H.wk (by omega)⟩
 refine .mV V ?_;obtain ⟨y1,hj1,h⟩:=bs h;refine .md H 4 [(19,(vb y1)),(1,(.ptr (b1+0) 4 0))] [.blk (b1+0) 25 (vF f)] V ?_ λe G H=>?_
 ·refine .sp hj1 V ?_ ?_<;>intro h
  ·refine .ps 3 V (.kT V (.nil ?_));obtain rfl:=sj h;exact ⟨EI V,H.wk (by omega)⟩
  refine .LV (vF f) H 0 V (.wt V V ?_);obtain ⟨x1,q1,h⟩:=bs h;refine .cV (Z52 q1) V (.iV V (.kF V (.nil ?_)));obtain rfl:=sj h;exact ⟨EI V,H.wk (by omega)⟩
 refine .na H λH=>?_;refine .wh h V ?_ ?_<;>intro h
 ·refine .tR 1 V H λb3 G H=>(.aV V (.na H λH=>(.ret ?_)));obtain rfl:=sj h;exact Ends.eR V
 refine .skip (.then (.tR 8 V H λb4 G H=>(.LV (vF f) H 0 V ?_)));obtain ⟨x2,q2,h⟩:=bs h;refine .cV (gran_shape_fn q2) V (.tV V (.mV V ?_));obtain ⟨y2,hj2,h⟩:=bs h;refine .md H 4 [(27,(vb y2)),(1,(.ptr (b1+0) 4 0))] [.blk (b1+0) 25 (vF f)] V ?_ λe G H=>?_
 ·refine .sp hj2 V ?_ ?_<;>intro h
  ·refine .ps 3 V (.kT V (.nil ?_));obtain rfl:=sj h;exact ⟨EI V,H.wk (by omega)⟩
  refine .LV (vF f) H 0 V (.wt V V ?_);obtain ⟨x3,q3,h⟩:=bs h;refine .cV (gran_turns_fn q3) V (.tV V (.kF V (.nil ?_)));obtain rfl:=sj h;exact ⟨EI V,H.wk (by omega)⟩
 refine .na H λH=>?_;refine .wh h V ?_ ?_<;>intro h
 ·refine .tR 1 V H λb5 G H=>(.aV V (.na H λH=>(.ret ?_)));obtain rfl:=sj h;exact Ends.eR V
 refine .skip (.then (.tR 4 V H λb6 G H=>(.fV H 0 V (.lV H 0 V (.nV V (.mV V (.na H λH=>(.inBlock ?_))))))));obtain ⟨y3,hj3,h⟩:=bs h;obtain ⟨n1,hj3⟩:=ZL.1 hj3;refine .mono (Runs.loopO hj3 (λs1 e G=>ZC e [(1,(.ptr (b1+0) 4 0)),(29,(vl Granule.cs f.Odd)),(30,(vi (f.Odd.length:Int))),(31,(vi s1))]/\Hs G [.blk (b1+0) 25 (vF f)]) (λy3 x e G=>(∃ a1,y3=(.go a1)/\x = .exit 0/\ZC e []/\Hs G [])\/(∃ r',y3=(.ret r')/\x = .ret/\Ends CX Try.f32.results.toList (vi r') x e G)) ⟨EI V,H⟩ ?_) ?_
 ·intro s1 e G hI z h;obtain ⟨he,H⟩:=hI;obtain ⟨e,rfl⟩:=he.ex;unfold Z03.s0 at h;refine .tR 1 V H λb7 G H=>(.iV V (.na H λH=>(.then ?_)));refine .wh h V ?_ ?_<;>intro h
  ·refine .skip (.then (.inBlock (.tR 4 V H λb8 G H=>?_)));obtain ⟨x4,q4,h⟩:=bs h;refine .jV q4 V (.qV [(.int .i64 x4.Index),(.sl (x4.Ticks.map Span.cs))] V (.alc (cs:=[(vi 0),.nils]) H V V λG H=>(.sV [(vi x4.Index),(vl Span.cs x4.Ticks)] H 0 V λG H=>(.na H λH=>(.tR 5 V H λb9 G H=>(.LV (vF f) H 1 V (.fV H 0 V (.lV H 0 V ?_))))))));obtain ⟨x5,q5,h⟩:=bs h;refine .cV (Z6I q5) V (.tV V (.na H λH=>?_));refine .wh h V ?_ ?_<;>intro h
   ·refine .tR 1 V H λb10 G H=>(.aV V (.na H λH=>(.ret ?_)));obtain rfl:=sj h;exact ⟨nofun,(.inr ⟨_,V,V,(Ends.H (xs:=[(vi 50)]) (.inr V) H (.tmp (v:=(vi 50)) V .nil) (.one (.c (.v _))))⟩)⟩
   refine .skip (.Z9 2 V H λb11 G H=>(.iV V (.mV V (.na H λH=>?_))));obtain rfl:=sj h;exact ⟨V,EI V,(H.erase 0)⟩
  refine .exit ?_;obtain rfl:=sj h;exact ⟨nofun,(.inl ⟨_,V,V,U,(H.erase 0)⟩)⟩
 ·rintro x e G (⟨a2,rfl,rfl,he,H⟩|⟨r',rfl,rfl,hE⟩)
  ·replace h:=jgo h;obtain ⟨e,rfl⟩:=he.ex;refine .tR 1 V H λb12 G H=>(.aV V (.na H λH=>(.ret ?_)));obtain rfl:=sj h;exact Ends.eR V
  ·replace h:=jret h;obtain rfl:=sj h;exact hE
theorem Z4L {f:Form} {r:Bool} (h:Z0H f=some r):Fn CX 12 [(.agg (vs (Form.cs f)))] (vb r):=by
 refine Fn.go Try.func12 V λG H=>?_;unfold Z0H at h;refine .tR 2 V H λb1 G H=>(.bxc (cs:=(vF f)) H V V V λG H=>(.aV V (.na H λH=>(.tR 8 V H λb2 G H=>(.LV (vF f) H 0 V ?_)))));obtain ⟨x1,q1,h⟩:=bs h;refine .cV (Z4J q1) V (.mV V ?_);obtain ⟨y1,hj1,h⟩:=bs h;refine .md H 4 [(9,(vb y1))] [] V ?_ λe G H=>?_
 ·refine .sp hj1 V ?_ ?_<;>intro h
  ·refine .LV (vF f) H 0 V (.wt V V ?_);obtain ⟨x2,q2,h⟩:=bs h;refine .cV (gran_Right_fn q2) V (.iV V (.kT V (.nil ?_)));obtain rfl:=sj h;exact ⟨EI V,(H.erase 0).wk (by omega)⟩
  refine .ps 3 V (.kF V (.nil ?_));obtain rfl:=sj h;exact ⟨EI V,(H.erase 0).wk (by omega)⟩
 refine .aV V (.na H λH=>(.ret ?_));obtain rfl:=sj h;exact Ends.eR V
theorem Z4M {r:Bool} (h:Z0W=r):Fn CX 13 [] (vb r):=by
 subst h;exact Fn.run 60 (λG=>by kernel_rfl) V V V
theorem Z33 {l:(List Span)} {r:(List Span)} (h:Z0j l=some r):Fn CX 44 [(vl Span.cs l)] (vl Span.cs r):=by
 refine Fn.go Try.func44 V λG H=>?_;unfold Z0j at h;refine .tR 1 V H λb1 G H=>(.a1 .nils V V (.na H λH=>(.tR 4 V H λb2 G H=>(.mV V (.nV V ?_)))));obtain ⟨x1,q1,h⟩:=bs h;refine .makeS (zs:=[(.int .i64 0),(.int .i64 0)]) (cc:=Span.cs) H (by omega) (by omega) V V q1 V V V V V V V λG H=>(.aB V (.na H λH=>(.tR 3 V H λb3 G H=>(.mB V (.mV V (.copyS (c:=Span.cs) (w:=(vl Span.cs l)) (xs:=x1) (ys:=l) H 0 V V V V (.m (λ_=>V)) V V nofun V λG H=>(.na H λH=>(.tR 2 V H λb4 G H=>?_))))))));refine .mB V (.aB V (.na H λH=>(.ret ?_)));obtain rfl:=sj h;exact (Ends.H (xs:=[(.buf (b2+2) ((l.length:Int)).toNat 2)]) (.inr V) H (.tmp (v:=(.buf (b2+2) ((l.length:Int)).toNat 2)) V .nil) (.one (.c (.s 0 V))))
theorem Z3c {f:Form} {r:Form} (h:ZE f=some r):Fn CX 22 [(.agg (vs (Form.cs f)))] (.agg (vs (Form.cs r))):=by
 refine Fn.go Try.func22 V λG H=>?_;unfold ZE at h;refine .tR 2 V H λb1 G H=>(.bxc (cs:=(vF f)) H V V V λG H=>(.alc (cs:=[(vi 0),(vi 0),.nils,.nils]) H V V λG H=>(.na H λH=>(.tR 7 V H λb2 G H=>(.fV H 1 V (.lV H 1 V (.fV H 1 V (.lV H 1 V ?_))))))));refine .bV [(vi f.Period),(vi f.Count),.nils,.nils] V (.alc (cs:=[(vi 0),(vi 0),.nils,.nils]) H V V λG H=>(.sV [(vi f.Period),(vi f.Count),.nils,.nils] H 0 V λG H=>(.na H λH=>(.then (.tR 4 V H λb3 G H=>(.fV H 2 V (.lV H 2 V (.nV V ?_))))))));refine .mV V (.na H λH=>(.inBlock ?_));replace H:=H.pushNil 31 1 true;obtain ⟨y1,hj1,h⟩:=bs h;obtain ⟨n1,hj1⟩:=ZL.1 hj1;refine .mono (Runs.loopO hj1 (λs2 e G=>∃ (w3:PV),ZC e [(1,(.ptr (b1+0) 4 0)),(2,(.ptr (b1+1) 4 0)),(3,(.ptr (b2+5) 4 0)),(14,(vl (cL Span.cs) f.Core)),(15,(vi (f.Core.length:Int))),(16,(vi s2.1))]/\Hs G [.sl w3 31 1 (s2.2.map (cL Span.cs)) true,.blk (b2+5) 25 [(vi f.Period),(vi f.Count),w3,.nils],.blk (b1+1) 25 [(vi 0),(vi 0),.nils,.nils],.blk (b1+0) 25 (vF f)]) (λy1 x e G=>∃ (w4:PV),x = .exit 0/\ZC e [(1,(.ptr (b1+0) 4 0)),(2,(.ptr (b1+1) 4 0)),(3,(.ptr (b2+5) 4 0))]/\Hs G [.sl w4 31 1 (y1.map (cL Span.cs)) true,.blk (b2+5) 25 [(vi f.Period),(vi f.Count),w4,.nils],.blk (b1+1) 25 [(vi 0),(vi 0),.nils,.nils],.blk (b1+0) 25 (vF f)]) ⟨.nils,EI V,H⟩ ?_) ?_
 ·intro s2 e G hI z h;obtain ⟨w3,he,H⟩:=hI;obtain ⟨e,rfl⟩:=he.ex;unfold ZE.s0 at h;refine .tR 1 V H λb4 G H=>(.iV V (.na H λH=>(.then ?_)));refine .wh h V ?_ ?_<;>intro h
  ·refine .skip (.then (.inBlock (.tR 3 V H λb5 G H=>?_)));obtain ⟨x1,q1,h⟩:=bs h;refine .jV q1 V (.pV V (.aV V (.na H λH=>(.Z22 8 V (by kernel_rfl) H λb6 G H B6=>(.ZA H 1 V V V V V (so (B6 1 _ V _ V)) V (.ld w3 H 1 V V V V V (so (B6 1 _ V _ V)) V (.mV V ?_)))))));obtain ⟨x2,q2,h⟩:=bs h;refine .cV (Z33 q2) V (.Z3C (sz:=1) ([x2].map (cL Span.cs)) H (by omega) (by omega) V V V V V V V V V λG H=>?_);obtain ⟨x3,q3,h⟩:=bs h;refine .Z3t (c:=(cL Span.cs)) (v:=w3) (w:=(.buf (b6+4) 1 1)) (xs:=s2.2) (ys:=[x2]) H (by omega) (by omega) 1 V V V (.s 0 V) q3 V V V V V (λh=>⟨(λid ho=>.inl ⟨B6 0 _ V id ho,(λ_=>by kernel_rfl),nofun⟩),(λid ho=>.inr ⟨4,(by cases ho;rfl),(λh=>nomatch h),by kernel_rfl,by decide⟩)⟩) V λw5 G H=>(.ZA H 2 V V V V V (so (B6 1 _ V _ V)) V (.Z3a (v:=w5) (ys:=[w5]) (cells':=[(vi f.Period),(vi f.Count),w5,.nils]) H 2 V V V V (H.slCells (k:=1) V) V V V V (λ_=>.inl ⟨B6 1 _ V _ V,(Z1O (by kernel_rfl))⟩) λG H=>(.na H λH=>(.Z9 2 V H λb7 G H=>(.iV V (.mV V (.na H λH=>?_)))))));obtain rfl:=sj h;exact ⟨V,w5,EI V,(H.erase 0)⟩
  refine .exit ?_;obtain rfl:=sj h;exact ⟨nofun,⟨w3,V,EI V,H⟩⟩
 ·rintro x e G ⟨w6,rfl,he,H⟩;obtain ⟨e,rfl⟩:=he.ex;refine .then (.tR 4 V H λb8 G H=>(.fV H 3 V (.lV H 3 V (.nV V (.mV V (.na H λH=>(.inBlock ?_)))))));replace H:=H.pushNil 45 2 true;obtain ⟨y2,hj2,h⟩:=bs h;obtain ⟨n2,hj2⟩:=ZL.1 hj2;refine .mono (Runs.loopO hj2 (λs4 e G=>∃ (w9:PV),ZC e [(2,(.ptr (b1+1) 4 0)),(3,(.ptr (b2+5) 4 0)),(29,(vl Granule.cs f.Odd)),(30,(vi (f.Odd.length:Int))),(31,(vi s4.1))]/\Hs G [.sl w9 45 2 (s4.2.map Granule.cs) true,.sl w6 31 1 (y1.map (cL Span.cs)) true,.blk (b2+5) 25 [(vi f.Period),(vi f.Count),w6,w9],.blk (b1+1) 25 [(vi 0),(vi 0),.nils,.nils]]) (λy2 x e G=>∃ (w10:PV),x = .exit 2/\ZC e [(2,(.ptr (b1+1) 4 0)),(3,(.ptr (b2+5) 4 0))]/\Hs G [.sl w10 45 2 (y2.map Granule.cs) true,.sl w6 31 1 (y1.map (cL Span.cs)) true,.blk (b2+5) 25 [(vi f.Period),(vi f.Count),w6,w10],.blk (b1+1) 25 [(vi 0),(vi 0),.nils,.nils]]) ⟨.nils,EI V,(H.erase 4)⟩ ?_) ?_
  ·intro s4 e G hI z h;obtain ⟨w9,he,H⟩:=hI;obtain ⟨e,rfl⟩:=he.ex;unfold ZE.s1 at h;refine .tR 1 V H λb9 G H=>(.iV V (.na H λH=>(.then ?_)));refine .wh h V ?_ ?_<;>intro h
   ·refine .skip (.then (.inBlock (.tR 4 V H λb10 G H=>?_)));obtain ⟨x4,q4,h⟩:=bs h;refine .jV q4 V (.qV [(.int .i64 x4.Index),(.sl (x4.Ticks.map Span.cs))] V (.alc (cs:=[(vi 0),.nils]) H V V λG H=>(.sV [(vi x4.Index),(vl Span.cs x4.Ticks)] H 0 V λG H=>(.na H λH=>(.Z22 12 V (by kernel_rfl) H λb11 G H B11=>(.ZA H 3 V V V V V (so (B11 3 _ V _ V)) V (.ld w9 H 3 V V V V V (so (B11 3 _ V _ V)) V (.ZA H 0 V V V V V (so (B11 0 _ V _ V)) V ?_))))))));refine .ld (vi x4.Index) H 0 V V V V V (so (B11 0 _ V _ V)) V (.ZA H 0 V V V V V (so (B11 0 _ V _ V)) V (.ld (vl Span.cs x4.Ticks) H 0 V V V V V (so (B11 0 _ V _ V)) V ?_));obtain ⟨x5,q5,h⟩:=bs h;refine .cV (Z33 q5) V (.bV [(vi x4.Index),(vl Span.cs x5)] V (.Z3C (sz:=2) ([(Granule.mk x4.Index x5)].map Granule.cs) H (by omega) (by omega) V V V V V V V V V λG H=>?_));obtain ⟨x6,q6,h⟩:=bs h;refine .Z3t (c:=Granule.cs) (v:=w9) (w:=(.buf (b11+8) 1 2)) (xs:=s4.2) (ys:=[(Granule.mk x4.Index x5)]) H (by omega) (by omega) 2 V V V (.s 0 V) q6 V V V V V (λh=>⟨(λid ho=>.inl ⟨B11 1 _ V id ho,(λ_=>by kernel_rfl),nofun⟩),(λid ho=>.inr ⟨8,(by cases ho;rfl),(λh=>nomatch h),by kernel_rfl,by decide⟩)⟩) V λw11 G H=>(.ZA H 4 V V V V V (so (B11 3 _ V _ V)) V (.Z3a (v:=w11) (ys:=[w11]) (cells':=[(vi f.Period),(vi f.Count),w6,w11]) H 4 V V V V (H.slCells (k:=2) V) V V V V (λ_=>.inl ⟨B11 3 _ V _ V,(Z1O (by kernel_rfl))⟩) λG H=>(.na H λH=>(.Z9 2 V H λb12 G H=>(.iV V (.mV V (.na H λH=>?_)))))))
    obtain rfl:=sj h;exact ⟨V,w11,EI V,((H.erase 1).erase 0)⟩
   refine .exit ?_;obtain rfl:=sj h;exact ⟨nofun,⟨w9,V,EI V,H⟩⟩
  ·rintro x e G ⟨w12,rfl,he,H⟩;obtain ⟨e,rfl⟩:=he.ex;refine .tR 2 V H λb13 G H=>(.LV [(vi f.Period),(vi f.Count),w6,w12] H 2 V (.sV [(vi f.Period),(vi f.Count),w6,w12] H 3 V λG H=>(.na H λH=>(.ret ?_))));obtain rfl:=sj h;exact (Ends.H (xs:=[(.agg [(vi f.Period),(vi f.Count),w6,w12])]) (.inr V) H (.agg (cs:=[(vi f.Period),(vi f.Count),w6,w12]) 3 V V V V V V V .nil) (.one (.a (.cons (.v _) (.cons (.v _) (.cons (.s 1 V) (.cons (.s 0 V) .nil)))))))
theorem Z2Q {a:(List Span)} {b:(List Span)} {r:Bool} (h:ZU a b=some r):Fn CX 48 [(vl Span.cs a),(vl Span.cs b)] (vb r):=by
 refine Fn.go Try.func48 V λG H=>?_;unfold ZU at h;refine .tR 1 V H λb1 G H=>(.aV V (.na H λH=>(.then (.tR 5 V H λb2 G H=>(.mV V (.nV V (.mV V (.nV V ?_))))))));refine .iV V (.na H λH=>?_);refine .wh h V ?_ ?_<;>intro h
 ·refine .tR 1 V H λb3 G H=>(.aV V (.na H λH=>(.ret ?_)));obtain rfl:=sj h;exact Ends.eR V
 refine .skip (.then (.tR 3 V H λb4 G H=>(.mV V (.nV V (.mV V (.na H λH=>(.inBlock ?_)))))));obtain ⟨y1,hj1,h⟩:=bs h;obtain ⟨n1,hj1⟩:=ZL.1 hj1;refine .mono (Runs.loopO hj1 (λs1 e G=>ZC e [(1,(vl Span.cs b)),(12,(vl Span.cs a)),(13,(vi (a.length:Int))),(14,(vi s1))]/\Hs G []) (λy1 x e G=>(∃ a1,y1=(.go a1)/\x = .exit 0/\ZC e []/\Hs G [])\/(∃ r',y1=(.ret r')/\x = .ret/\Ends CX Try.f48.results.toList (vb r') x e G)) ⟨EI V,H⟩ ?_) ?_
 ·intro s1 e G hI z h;obtain ⟨he,H⟩:=hI;obtain ⟨e,rfl⟩:=he.ex;unfold ZU.s0 at h;refine .tR 1 V H λb5 G H=>(.iV V (.na H λH=>(.then ?_)));refine .wh h V ?_ ?_<;>intro h
  ·refine .skip (.then (.inBlock (.tR 6 V H λb6 G H=>(.mV V ?_))));obtain ⟨x1,q1,h⟩:=bs h;refine .jV q1 V (.qV [(.int .i64 x1.From),(.int .i64 x1.To)] V (.alc (cs:=[(vi 0),(vi 0)]) H V V λG H=>(.aV V (.sV [(vi x1.From),(vi x1.To)] H 0 V λG H=>(.na H λH=>(.then (.Z22 6 V (by kernel_rfl) H λb7 G H B7=>(.mV V ?_))))))));refine .mV V ?_;obtain ⟨x2,q2,h⟩:=bs h;refine .jV q2 V (.qV [(.int .i64 x2.From),(.int .i64 x2.To)] V (.loadHA (cs:=[(vi x1.From),(vi x1.To)]) H 0 V V V V V V V (so (B7 0 _ V _ V)) V (.binA (u:=(.agg [(vi x2.From),(vi x2.To)])) (w:=(.agg [(vi x1.From),(vi x1.To)])) (r:=.bool (!((x2.From==x1.From)&&((x2.To==x1.To)&&true)))) V V (by kernel_rfl) (λ_=>ask_eqA V V V V) V (.na H λH=>?_))));refine .wh h V ?_ ?_<;>intro h
   ·refine .tR 1 V H λb8 G H=>(.aV V (.na H λH=>(.ret ?_)));obtain rfl:=sj h;exact ⟨nofun,(.inr ⟨_,V,V,(Ends.H (xs:=[(vb false)]) (.inr V) H (.tmp (v:=(vb false)) V .nil) (.one (.c (.v _))))⟩)⟩
   refine .skip (.Z9 2 V H λb9 G H=>(.iV V (.mV V (.na H λH=>?_))));obtain rfl:=sj h;exact ⟨V,EI V,(H.erase 0)⟩
  refine .exit ?_;obtain rfl:=sj h;exact ⟨nofun,(.inl ⟨_,V,V,U,H⟩)⟩
 ·rintro x e G (⟨a2,rfl,rfl,he,H⟩|⟨r',rfl,rfl,hE⟩)
  ·replace h:=jgo h;obtain ⟨e,rfl⟩:=he.ex;refine .tR 1 V H λb10 G H=>(.aV V (.na H λH=>(.ret ?_)));obtain rfl:=sj h;exact Ends.eR V
  ·replace h:=jret h;obtain rfl:=sj h;exact hE
theorem Z3B {a:Form} {b:Form} {r:Bool} (h:ZD a b=some r):Fn CX 24 [(.agg (vs (Form.cs a))),(.agg (vs (Form.cs b)))] (vb r):=by
 refine Fn.go Try.func24 V λG H=>?_;unfold ZD at h;refine .tR 3 V H λb1 G H=>(.bxc (cs:=(vF a)) H V V V λG H=>(.bxc (cs:=(vF b)) H V V V λG H=>(.aV V (.na H λH=>(.then (.tR 30 V H λb2 G H=>(.fV H 1 V (.lV H 1 V ?_))))))));refine .fV H 0 V (.lV H 0 V (.iV V (.mV V ?_)));refine .md H 6 [(20,(vb ((a.Period != b.Period)||(a.Count != b.Count)))),(2,(.ptr (b1+0) 4 0)),(3,(.ptr (b1+1) 4 0))] [.blk (b1+1) 25 (vF b),.blk (b1+0) 25 (vF a)] rfl ?_ λe G H=>?_
 ·refine .split V V ?_ ?_<;>intro hc1
  ·refine .ps 5 V (.kT V (.nil ?_));exact ⟨⟨or_T hc1,V,V,U⟩,H.wk (by omega)⟩
  ·refine .fV H 1 V (.lV H 1 V (.fV H 0 V (.lV H 0 V (.iV V (.kF V (.nil ?_))))));exact ⟨⟨or_F hc1,V,V,U⟩,H.wk (by omega)⟩
 refine .mV V ?_;refine .md H 8 [(29,(vb (((a.Period != b.Period)||(a.Count != b.Count))||((a.Core.length:Int) != (b.Core.length:Int))))),(2,(.ptr (b1+0) 4 0)),(3,(.ptr (b1+1) 4 0))] [.blk (b1+1) 25 (vF b),.blk (b1+0) 25 (vF a)] rfl ?_ λe G H=>?_
 ·refine .split V V ?_ ?_<;>intro hc2
  ·refine .ps 7 V (.kT V (.nil ?_));exact ⟨⟨or_T hc2,V,V,U⟩,H.wk (by omega)⟩
  ·refine .fV H 1 V (.lV H 1 V (.nV V (.fV H 0 V (.lV H 0 V (.nV V (.iV V (.kF V (.nil ?_))))))));exact ⟨⟨or_F hc2,V,V,U⟩,H.wk (by omega)⟩
 refine .mV V ?_;refine .md H 8 [(38,(vb ((((a.Period != b.Period)||(a.Count != b.Count))||((a.Core.length:Int) != (b.Core.length:Int)))||((a.Odd.length:Int) != (b.Odd.length:Int))))),(2,(.ptr (b1+0) 4 0)),(3,(.ptr (b1+1) 4 0))] [.blk (b1+1) 25 (vF b),.blk (b1+0) 25 (vF a)] rfl ?_ λe G H=>?_
 ·refine .split V V ?_ ?_<;>intro hc3
  ·refine .ps 7 V (.kT V (.nil ?_));exact ⟨⟨or_T hc3,V,V,U⟩,H.wk (by omega)⟩
  ·refine .fV H 1 V (.lV H 1 V (.nV V (.fV H 0 V (.lV H 0 V (.nV V (.iV V (.kF V (.nil ?_))))))));exact ⟨⟨or_F hc3,V,V,U⟩,H.wk (by omega)⟩
 refine .na H λH=>?_;refine .wh h V ?_ ?_<;>intro h
 ·refine .tR 1 V H λb3 G H=>(.aV V (.na H λH=>(.ret ?_)));obtain rfl:=sj h;exact Ends.eR V
 refine .skip (.then (.tR 4 V H λb4 G H=>(.fV H 1 V (.lV H 1 V (.nV V (.mV V (.na H λH=>(.inBlock ?_))))))));obtain ⟨y1,hj1,h⟩:=bs h;obtain ⟨n1,hj1⟩:=ZL.1 hj1;refine .mono (Runs.loopO hj1 (λs1 e G=>ZC e [(2,(.ptr (b1+0) 4 0)),(3,(.ptr (b1+1) 4 0)),(40,(vl (cL Span.cs) a.Core)),(41,(vi (a.Core.length:Int))),(42,(vi s1))]/\Hs G [.blk (b1+1) 25 (vF b),.blk (b1+0) 25 (vF a)]) (λy1 x e G=>(∃ a1,y1=(.go a1)/\x = .exit 0/\ZC e [(2,(.ptr (b1+0) 4 0)),(3,(.ptr (b1+1) 4 0))]/\Hs G [.blk (b1+1) 25 (vF b),.blk (b1+0) 25 (vF a)])\/(∃ r',y1=(.ret r')/\x = .ret/\Ends CX Try.f24.results.toList (vb r') x e G)) ⟨EI V,H⟩ ?_) ?_
 ·intro s1 e G hI z h;obtain ⟨he,H⟩:=hI;obtain ⟨e,rfl⟩:=he.ex;unfold ZD.s0 at h;refine .tR 1 V H λb5 G H=>(.iV V (.na H λH=>(.then ?_)));refine .wh h V ?_ ?_<;>intro h
  ·refine .skip (.then (.inBlock (.tR 5 V H λb6 G H=>(.mV V ?_))));obtain ⟨x1,q1,h⟩:=bs h;refine .jV q1 V (.pV V (.aV V (.aV V (.na H λH=>(.tR 8 V H λb7 G H=>(.mV V (.fV H 0 V (.lV H 0 V ?_))))))));refine .mV V ?_;obtain ⟨x2,q2,h⟩:=bs h;refine .jV q2 V (.pV V ?_);obtain ⟨x3,q3,h⟩:=bs h;refine .cV (Z2Q q3) V (.tV V (.na H λH=>?_));refine .wh h V ?_ ?_<;>intro h
   ·refine .tR 1 V H λb8 G H=>(.aV V (.na H λH=>(.ret ?_)));obtain rfl:=sj h;exact ⟨nofun,(.inr ⟨_,V,V,(Ends.H (xs:=[(vb false)]) (.inr V) H (.tmp (v:=(vb false)) V .nil) (.one (.c (.v _))))⟩)⟩
   refine .skip (.Z9 2 V H λb9 G H=>(.iV V (.mV V (.na H λH=>?_))));obtain rfl:=sj h;exact ⟨V,EI V,H⟩
  refine .exit ?_;obtain rfl:=sj h;exact ⟨nofun,(.inl ⟨_,V,V,EI V,H⟩)⟩
 ·rintro x e G (⟨a2,rfl,rfl,he,H⟩|⟨r',rfl,rfl,hE⟩)
  ·replace h:=jgo h;obtain ⟨e,rfl⟩:=he.ex;refine .then (.tR 4 V H λb10 G H=>(.fV H 1 V (.lV H 1 V (.nV V (.mV V (.na H λH=>(.inBlock ?_)))))));obtain ⟨y2,hj2,h⟩:=bs h;obtain ⟨n2,hj2⟩:=ZL.1 hj2;refine .mono (Runs.loopO hj2 (λs2 e G=>ZC e [(3,(.ptr (b1+1) 4 0)),(57,(vl Granule.cs a.Odd)),(58,(vi (a.Odd.length:Int))),(59,(vi s2))]/\Hs G [.blk (b1+1) 25 (vF b)]) (λy2 x e G=>(∃ a3,y2=(.go a3)/\x = .exit 2/\ZC e []/\Hs G [])\/(∃ r',y2=(.ret r')/\x = .ret/\Ends CX Try.f24.results.toList (vb r') x e G)) ⟨EI V,(H.erase 1)⟩ ?_) ?_
   ·intro s2 e G hI z h;obtain ⟨he,H⟩:=hI;obtain ⟨e,rfl⟩:=he.ex;unfold ZD.s1 at h;refine .tR 1 V H λb11 G H=>(.iV V (.na H λH=>(.then ?_)));refine .wh h V ?_ ?_<;>intro h
    ·refine .skip (.then (.inBlock (.tR 6 V H λb12 G H=>(.mV V ?_))));obtain ⟨x4,q4,h⟩:=bs h;refine .jV q4 V (.qV [(.int .i64 x4.Index),(.sl (x4.Ticks.map Span.cs))] V (.alc (cs:=[(vi 0),.nils]) H V V λG H=>(.aV V (.sV [(vi x4.Index),(vl Span.cs x4.Ticks)] H 0 V λG H=>(.na H λH=>(.then (.Z22 21 V (by kernel_rfl) H λb13 G H B13=>(.ZA H 0 V V V V V (so (B13 0 _ V _ V)) V ?_))))))));refine .ld (vi x4.Index) H 0 V V V V V (so (B13 0 _ V _ V)) V (.ZA H 1 V V V V V (so (B13 1 _ V _ V)) V (.ld (vl Granule.cs b.Odd) H 1 V V V V V (so (B13 1 _ V _ V)) V (.mV V ?_)));obtain ⟨x5,q5,h⟩:=bs h;refine .jV q5 V (.Z0I V V V V (.pV V (.iV V (.mV V ?_))));obtain ⟨y3,hj3,h⟩:=bs h;refine .md H 11 [(84,(vb y3)),(3,(.ptr (b1+1) 4 0)),(57,(vl Granule.cs a.Odd)),(58,(vi (a.Odd.length:Int))),(59,(vi s2))] [.blk (b1+1) 25 (vF b)] V ?_ λe G H=>?_
     ·refine .sp hj3 V ?_ ?_<;>intro h
      ·refine .ps 10 V (.kT V (.nil ?_));obtain rfl:=sj h;exact ⟨EI V,(H.erase 0).wk (by omega)⟩
      refine .wt V V (.ZA H 0 V V V V V (so (B13 0 _ V _ V)) V (.wt V V (.ld (vl Span.cs x4.Ticks) H 0 V V V V V (so (B13 0 _ V _ V)) V (.wt V V (.ZA H 1 V V V V V (so (B13 1 _ V _ V)) V (.wt V V (.ld (vl Granule.cs b.Odd) H 1 V V V V V (so (B13 1 _ V _ V)) V (.mV V ?_))))))));refine .wt V V ?_;obtain ⟨x6,q6,h⟩:=bs h;refine .jV q6 V (.wt V V (.Z0I V V V V (.pV V (.wt V V ?_))));obtain ⟨x7,q7,h⟩:=bs h;refine .cV (Z2Q q7) V (.tV V (.kF V (.nil ?_)));obtain rfl:=sj h;exact ⟨EI V,(H.erase 0).wk (by omega)⟩
     refine .na H λH=>?_;refine .wh h V ?_ ?_<;>intro h
     ·refine .tR 1 V H λb14 G H=>(.aV V (.na H λH=>(.ret ?_)));obtain rfl:=sj h;exact ⟨nofun,(.inr ⟨_,V,V,(Ends.H (xs:=[(vb false)]) (.inr V) H (.tmp (v:=(vb false)) V .nil) (.one (.c (.v _))))⟩)⟩
     refine .skip (.Z9 2 V H λb15 G H=>(.iV V (.mV V (.na H λH=>?_))));obtain rfl:=sj h;exact ⟨V,EI V,H⟩
    refine .exit ?_;obtain rfl:=sj h;exact ⟨nofun,(.inl ⟨_,V,V,U,(H.erase 0)⟩)⟩
   ·rintro x e G (⟨a4,rfl,rfl,he,H⟩|⟨r',rfl,rfl,hE⟩)
    ·replace h:=jgo h;obtain ⟨e,rfl⟩:=he.ex;refine .tR 1 V H λb16 G H=>(.aV V (.na H λH=>(.ret ?_)));obtain rfl:=sj h;exact Ends.eR V
    ·replace h:=jret h;obtain rfl:=sj h;exact hE
  ·replace h:=jret h;obtain rfl:=sj h;exact hE
theorem Z21 {l:List (List Span)} {r:List (List Span)} (h:clone? 24 l=some r):Fn CX 45 [(vl (cL Span.cs) l)] (vl (cL Span.cs) r):=by
 obtain ⟨h1,rfl⟩:=Z4c h;refine Fn.intr ?_ V V V;rw [cx_intr45];unfold Z23
 dsimp only
 rw [if_pos ⟨by simp [cI,cB,cS,cL],by simpa using h1⟩]
theorem Z1P {l:List Granule} {r:List Granule} (h:clone? 32 l=some r):Fn CX 46 [(vl Granule.cs l)] (vl Granule.cs r):=by
 obtain ⟨h1,rfl⟩:=Z4c h;refine Fn.intr ?_ V V V;rw [cx_intr46];unfold Z23
 dsimp only
 rw [if_pos ⟨by simp [Granule.cs],by simpa using h1⟩]
theorem Z2E {l:List Span} {r:List Span} (h:clone? 16 l=some r):Fn CX 47 [(vl Span.cs l)] (vl Span.cs r):=by
 obtain ⟨h1,rfl⟩:=Z4c h;refine Fn.intr ?_ V V V;rw [cx_intr47];unfold Z23
 dsimp only
 rw [if_pos ⟨by simp [Span.cs],by simpa using h1⟩]
end Go.Dn

namespace Go.Dn
open Go
theorem loopO_ans {S R R':Type} {step:S->Option (S⊕R)} {step':S->Option (S⊕R')} (φ:R->R') (h:∀ s,step' s=(step s).map λz=>match z with | .inl a=>.inl a | .inr r=>.inr (φ r)) (s:S):loopO step' s=(loopO step s).map φ:=by
 have key:∀ k s,Z1y step' k s=(Z1y step k s).map φ:=by
  intro k
  induction k with
  | zero=>intro s;rfl
  | succ k ih=>
   intro s;simp only [Z1y,h s];cases step s with
   | none=>rfl
   | some z=>cases z with
    | inl a=>exact ih a
    | inr r=>rfl
 cases hl:loopO step s with
 | some r=>
  obtain ⟨k,hk⟩:=ZL.1 hl;exact ZL.2 ⟨k,by rw [key,hk];rfl⟩
 | none=>
  cases hl':loopO step' s with
  | none=>rfl
  | some r'=>
   obtain ⟨k,hk⟩:=ZL.1 hl';rw [key,Y0] at hk;obtain ⟨r,hr,_⟩:=hk;rw [ZL.2 ⟨k,hr⟩] at hl;cases hl
theorem Z6D:Z06=ZZ:=by
 funext l b
 unfold Z06 ZZ
 rw [loopO_ans (step:=Z06.s0 l b) (step':=ZZ.s0 l b) (λz=>match z with | .go a=>.go a | .ret _=>.ret ([],20)) ?_]
 ·cases loopO (Z06.s0 l b) (0,[]) with
  | none=>rfl
  | some z=>cases z<;>rfl
 ·intro s;unfold Z06.s0 ZZ.s0;cases decide (s.1<(l.length:Int)) with
  | false=>rfl
  | true=>
   simp only [cond_true];cases at? l s.1 with
   | none=>rfl
   | some x=>
    simp only [Y1];cases ((((((Z4 x.From b).2) != 0)||(((Z4 x.To b).2) != 0))||(!(ZQ ((Z4 x.From b).1))))||(!(ZQ ((Z4 x.To b).1)))) with
    | true=>rfl
    | false=>
     simp only [cond_false];cases app? 16 s.2 [(Span.mk ((Z4 x.From b).1) ((Z4 x.To b).1))]<;>rfl
end Go.Dn

namespace Go.Dn
open Go Go.Proofs
def emptyV:List PV->Option PV
 | [.v (.sl [])]=>some (.v (.sl []))
 | _=>none
def copyZ (f:FuncId):Bool:=f==45||f==46||f==47
def ownZ (f:FuncId):Bool:=f==6||f==16||f==21||f==23||f==45||f==46||f==47
noncomputable def CZ:Ctx:={ P:=Try.prog,glob:=λ_=>none,intr:=λf args=>if copyZ f then emptyV args else if ownZ f then none else liftI CX f args,opn:=λf=>f==16||f==21||f==23||f==45||f==46||f==47,keep:=λf=>false,fresh:=copyZ }
theorem lift {f:FuncId} {args:List PV} {r:PV} (hs:(copyZ f,ownZ f)=(false,false)) (h:Fn CX f args r) (hk:CZ.keep f=false) (ho:CZ.opn f=false):Fn CZ f args r:=by
 obtain ⟨h1,h2⟩:=Prod.mk.inj hs
 refine Fn.intr ?_ h.pure hk ho
 show (if copyZ f then emptyV args else if ownZ f then none else liftI CX f args)=some r
 rw [h1,h2]
 exact liftI_of h
theorem empty_fn {f:FuncId} (h:copyZ f=true):Fn CX f [.v (.sl [])] (.v (.sl [])):=by
 unfold copyZ at h
 simp only [Yj,beq_iff_eq] at h
 rcases h with (rfl|rfl)|rfl
 ·exact Z21 (l:=[]) (r:=[]) rfl
 ·exact Z1P (l:=[]) (r:=[]) rfl
 ·exact Z2E (l:=[]) (r:=[]) rfl
theorem cz_ok:CtxOK CZ:=by
 refine ⟨Z5H,λf args r h s hi hG vs hv hp=>?_,λf p h=>by cases h⟩
 have h:(if copyZ f then emptyV args else if ownZ f then none else liftI CX f args)=some r:=h
 have hF:Fn CX f args r:=by
  split at h
  ·rename_i hc;unfold emptyV at h
   split at h
   ·cases h;exact empty_fn hc
   ·cases h
  ·split at h
   ·cases h
   ·exact liftI_fn h
 obtain ⟨k,hk⟩:=Z0A.1 (hF.call s.G)
 exact Z51 cx_ok k (.fn f) args r s.G s hk hi hG vs hv
end Go.Dn

namespace Go.Dn
open Go Go.Proofs
set_option maxRecDepth 100000
set_option maxHeartbeats 4000000
theorem Z5n {i:Int} {r:Bool} (h:Z0F i=r):Fn CZ 39 [(vi i)] (vb r):=lift rfl (Z13 h) rfl rfl
theorem gran_kept_fnZ {f:Form} {i:Int} {r:(List Span)×Int×Int} (h:Z0x f i=some r):Fn CZ 40 [(.agg (vs (Form.cs f))),(vi i)] (.tup [(vl Span.cs r.1),(vi r.2.1),(vi r.2.2)]):=lift rfl (Z3I h) rfl rfl
theorem Z5P {a:Int} {b:Int} {r:Int×Int} (h:Z4 a b=r):Fn CZ 43 [(vi a),(vi b)] (.tup [(vi r.1),(vi r.2)]):=lift rfl (Z3l h) rfl rfl
theorem Z41 {t:Int} {r:Bool} (h:ZQ t=r):Fn CZ 41 [(vi t)] (vb r):=lift rfl (Z11 h) rfl rfl
theorem Z6F {l:(List Span)} {by':Int} {r:(List Span)×Int} (h:Z06 l by'=some r):FnO CZ 21 [(vl Span.cs l),(vi by')] (λq A=>∃ (w7:PV),q=(.tup [w7,(vi r.2)])/\A=[.sl w7 43 2 (r.1.map Span.cs) true]):=by
 refine FnO.of Try.func21 V V V V V V ?_;intro G T H;unfold Z06 at h;refine .tR 2 V H λb1 G H=>(.a1 .nils V V (.aV V (.na H λH=>(.tR 1 V H λb2 G H=>(.a1 .nils V V (.na H λH=>(.then (.tR 3 V H λb3 G H=>?_))))))));refine .mV V (.nV V (.mV V (.na H λH=>(.inBlock ?_))));replace H:=H.pushNil 43 2 true;obtain ⟨y1,hj1,h⟩:=bs h;obtain ⟨n1,hj1⟩:=ZL.1 hj1;refine .mono (Runs.loopO hj1 (λs2 e G=>∃ (w3:PV),ZC e [(1,(vi by')),(6,w3),(13,(vl Span.cs l)),(14,(vi (l.length:Int))),(15,(vi s2.1))]/\Hs G (.sl w3 43 2 (s2.2.map Span.cs) true::T)) (λy1 x e G=>(∃ a1,∃ (w4:PV),y1=(.go a1)/\x = .exit 0/\ZC e [(6,w4)]/\Hs G (.sl w4 43 2 (a1.map Span.cs) true::T))\/(∃ a2,y1=(.ret a2)/\x = .ret/\ZC e [(4,.nils),(5,(vi 20))]/\Hs G (T))) ⟨.nils,EI V,H⟩ ?_) ?_
 ·intro s2 e G hI z h;obtain ⟨w3,he,H⟩:=hI;obtain ⟨e,rfl⟩:=he.ex;unfold Z06.s0 at h;refine .tR 1 V H λb4 G H=>(.iV V (.na H λH=>(.then ?_)));refine .wh h V ?_ ?_<;>intro h
  ·refine .skip (.then (.inBlock (.tR 4 V H λb5 G H=>?_)));obtain ⟨x1,q1,h⟩:=bs h;refine .jV q1 V (.qV [(.int .i64 x1.From),(.int .i64 x1.To)] V (.alc (cs:=[(vi 0),(vi 0)]) H V V λG H=>(.sV [(vi x1.From),(vi x1.To)] H 0 V λG H=>(.na H λH=>(.tR 9 V H λb6 G H=>(.fV H 0 V (.lV H 0 V (.mV V ?_))))))));refine .cV (Z5P V) V (.m1 (.tup [(vi (Z4 x1.From by').1),(vi (Z4 x1.From by').2)]) V V (.xV V (.xV V (.aV V (.aV V (.na H λH=>(.tR 9 V H λb7 G H=>(.fV H 0 V ?_))))))));refine .lV H 0 V (.mV V (.cV (Z5P V) V (.m1 (.tup [(vi (Z4 x1.To by').1),(vi (Z4 x1.To by').2)]) V V (.xV V (.xV V (.aV V (.aV V (.na H λH=>?_))))))));refine .then (.tR 16 V H λb8 G H=>(.mV V (.iV V (.mV V ?_))));refine .md H 3 [(38,(vb ((((Z4 x1.From by').2) != 0)||(((Z4 x1.To by').2) != 0)))),(1,(vi by')),(6,w3),(9,(vi (Z4 x1.From by').1)),(11,(vi (Z4 x1.To by').1)),(13,(vl Span.cs l)),(14,(vi (l.length:Int))),(15,(vi s2.1))] (.sl w3 43 2 (s2.2.map Span.cs) true::T) rfl ?_ λe G H=>?_
   ·refine .split V V ?_ ?_<;>intro hc2
    ·refine .ps 2 V (.kT V (.nil ?_));exact ⟨⟨or_T hc2,V,V,V,V,V,V,V,U⟩,(H.erase 0).wk (by omega)⟩
    ·refine .mV V (.iV V (.kF V (.nil ?_)));exact ⟨⟨or_F hc2,V,V,V,V,V,V,V,U⟩,(H.erase 0).wk (by omega)⟩
   refine .mV V ?_;refine .md H 4 [(43,(vb (((((Z4 x1.From by').2) != 0)||(((Z4 x1.To by').2) != 0))||(!(ZQ ((Z4 x1.From by').1)))))),(1,(vi by')),(6,w3),(9,(vi (Z4 x1.From by').1)),(11,(vi (Z4 x1.To by').1)),(13,(vl Span.cs l)),(14,(vi (l.length:Int))),(15,(vi s2.1))] (.sl w3 43 2 (s2.2.map Span.cs) true::T) rfl ?_ λe G H=>?_
   ·refine .split V V ?_ ?_<;>intro hc3
    ·refine .ps 3 V (.kT V (.nil ?_));exact ⟨⟨or_T hc3,V,V,V,V,V,V,V,U⟩,H.wk (by omega)⟩
    ·refine .mV V (.cV (Z41 V) V (.tV V (.kF V (.nil ?_))));exact ⟨⟨or_F hc3,V,V,V,V,V,V,V,U⟩,H.wk (by omega)⟩
   refine .mV V ?_;refine .md H 4 [(48,(vb ((((((Z4 x1.From by').2) != 0)||(((Z4 x1.To by').2) != 0))||(!(ZQ ((Z4 x1.From by').1))))||(!(ZQ ((Z4 x1.To by').1)))))),(1,(vi by')),(6,w3),(9,(vi (Z4 x1.From by').1)),(11,(vi (Z4 x1.To by').1)),(13,(vl Span.cs l)),(14,(vi (l.length:Int))),(15,(vi s2.1))] (.sl w3 43 2 (s2.2.map Span.cs) true::T) rfl ?_ λe G H=>?_
   ·refine .split V V ?_ ?_<;>intro hc4
    ·refine .ps 3 V (.kT V (.nil ?_));exact ⟨⟨or_T hc4,V,V,V,V,V,V,V,U⟩,H.wk (by omega)⟩
    ·refine .mV V (.cV (Z41 V) V (.tV V (.kF V (.nil ?_))));exact ⟨⟨or_F hc4,V,V,V,V,V,V,V,U⟩,H.wk (by omega)⟩
   refine .na H λH=>?_;refine .wh h V ?_ ?_<;>intro h
   ·refine .tR 2 V H λb9 G H=>(.a1 .nils V V (.aV V (.na H λH=>(.ret ?_))));obtain rfl:=sj h;exact ⟨nofun,(.inr ⟨_,V,V,EI V,(H.erase 0)⟩)⟩
   refine .skip (.Z9 7 V H λb10 G H=>(.m1 w3 V V (.mV V (.mV V (.bV [(vi (Z4 x1.From by').1),(vi (Z4 x1.To by').1)] V (.Z3C (sz:=2) ([(Span.mk ((Z4 x1.From by').1) ((Z4 x1.To by').1))].map Span.cs) H (by omega) (by omega) V V V V V V V V V λG H=>?_))))));obtain ⟨x2,q2,h⟩:=bs h;refine .Z3t (c:=Span.cs) (v:=w3) (w:=(.buf (b10+4) 1 2)) (xs:=s2.2) (ys:=[(Span.mk ((Z4 x1.From by').1) ((Z4 x1.To by').1))]) H (by omega) (by omega) 1 V V V (.s 0 V) q2 V V V V V nofun V λw5 G H=>(.a1 w5 V V (.na H λH=>(.Z9 2 V H λb11 G H=>(.iV V (.mV V (.na H λH=>?_))))));obtain rfl:=sj h;exact ⟨V,w5,EI V,(H.erase 0)⟩
  refine .exit ?_;obtain rfl:=sj h;exact ⟨nofun,(.inl ⟨_,w3,V,V,EI V,H⟩)⟩
 ·rintro x e G (⟨a3,w6,rfl,rfl,he,H⟩|⟨a4,rfl,rfl,he,H⟩)
  ·replace h:=jgo h;obtain ⟨e,rfl⟩:=he.ex;refine .tR 3 V H λb12 G H=>(.m1 w6 V V (.a1 w6 V V (.aV V (.na H λH=>(.ret ?_)))));obtain rfl:=sj h;exact ⟨.inr V,_,Z15 H (.tmp (v:=w6) V (.tmp (v:=(vi 0)) V .nil)),_,⟨w6,V,V⟩,H⟩
  ·replace h:=jret h;obtain ⟨e,rfl⟩:=he.ex;replace H:=H.pushNil 43 2 true;obtain rfl:=sj h;exact ⟨.inr V,_,Z15 H (.tmp (v:=.nils) V (.tmp (v:=(vi 20)) V .nil)),_,⟨.nils,V,V⟩,H⟩
theorem Z6L {l:(List Span)} {by':Int} {r:(List Span)×Int} (h:ZZ l by'=some r):FnO CZ 21 [(vl Span.cs l),(vi by')] (λq A=>∃ (w7:PV),q=(.tup [w7,(vi r.2)])/\A=[.sl w7 43 2 (r.1.map Span.cs) true]):=Z6F (by rw [Z6D];exact h)
theorem gran_Get_fnZ {f:Form} {i:Int} {r:(List Span)×Int} (h:Z0U f i=some r):FnO CZ 16 [(.agg (vs (Form.cs f))),(vi i)] (λq A=>∃ (w2:PV),q=(.tup [w2,(vi r.2)])/\A=[.sl w2 43 2 (r.1.map Span.cs) true]):=by
 refine FnO.of Try.func16 V V V V V V ?_;intro G T H;unfold Z0U at h;refine .tR 3 V H λb1 G H=>(.bxc (cs:=(vF f)) H V V V λG H=>(.a1 .nils V V (.aV V (.na H λH=>(.then (.tR 3 V H λb2 G H=>(.mV V (.cV (Z5n V) V ?_))))))));refine .tV V (.na H λH=>?_);refine .wh h V ?_ ?_<;>intro h
 ·refine .tR 2 V H λb3 G H=>(.a1 .nils V V (.aV V (.na H λH=>(.ret ?_))));replace H:=H.pushNil 43 2 true;obtain rfl:=sj h;exact ⟨.inr V,_,Z15 H (.tmp (v:=.nils) V (.tmp (v:=(vi 20)) V .nil)),_,⟨.nils,V,V⟩,(H.erase 1)⟩
 refine .skip (.tR 10 V H λb4 G H=>(.LV (vF f) H 0 V (.mV V ?_)));obtain ⟨x1,q1,h⟩:=bs h;refine .cV (gran_kept_fnZ q1) V (.m1 (.tup [(vl Span.cs x1.1),(vi x1.2.1),(vi x1.2.2)]) V V (.xV V (.xV V (.xV V (.aV V (.aV V (.aV V (.na H λH=>?_))))))));refine .then (.tR 3 V H λb5 G H=>(.mV V (.nV V (.iV V (.na H λH=>?_)))));refine .wh h V ?_ ?_<;>intro h
 ·refine .tR 2 V H λb6 G H=>(.a1 .nils V V (.aV V (.na H λH=>(.ret ?_))));replace H:=H.pushNil 43 2 true;obtain rfl:=sj h;exact ⟨.inr V,_,Z15 H (.tmp (v:=.nils) V (.tmp (v:=(vi 0)) V .nil)),_,⟨.nils,V,V⟩,(H.erase 1)⟩
 refine .skip (.then (.tR 2 V H λb7 G H=>(.mV V (.iV V (.na H λH=>?_)))));refine .wh h V ?_ ?_<;>intro h
 ·refine .tR 2 V H λb8 G H=>(.a1 .nils V V (.aV V (.na H λH=>(.ret ?_))));replace H:=H.pushNil 43 2 true;obtain rfl:=sj h;exact ⟨.inr V,_,Z15 H (.tmp (v:=.nils) V (.tmp (v:=(vi 20)) V .nil)),_,⟨.nils,V,V⟩,(H.erase 1)⟩
 refine .skip (.tR 7 V H λb9 G H=>(.mV V (.mV V ?_)));obtain ⟨x2,q2,h⟩:=bs h;refine .callFO (ys:=[(vl Span.cs x1.1),(vi x1.2.1)]) H rfl (Z6L q2) nofun rfl ?_;rintro _ _ G ⟨w1,rfl,rfl⟩ H;refine .xV V (.xV V (.a1 w1 V V (.aV V (.na H λH=>(.ret ?_)))));obtain rfl:=sj h;exact ⟨.inr V,_,Z15 H (.tmp (v:=w1) V (.tmp (v:=(vi x2.2)) V .nil)),_,⟨w1,V,V⟩,(H.erase 1)⟩
theorem Z1x {s:(List (List Span))} {r:(List (List Span))} (h:Zn s=some r):FnO CZ 45 [(vl (cL Span.cs) s)] (λq A=>∃ (w2:PV),w2=q/\A=[.sl w2 31 1 (r.map (cL Span.cs)) true]):=by
 refine FnO.ofFresh Try.func45 rfl (by cases s with|nil=>simp [Zn,some?] at h|cons _ _=>rfl) rfl rfl rfl rfl ?_ (λ_ _ hA=>by first|(obtain ⟨_,rfl,rfl⟩:=hA;rfl)|(obtain ⟨_,_,rfl,rfl⟩:=hA;rfl)|(obtain ⟨rfl,rfl⟩:=hA;rfl));intro G T H;unfold Zn at h;refine .tR 1 V H λb1 G H=>(.a1 .nils V V (.na H λH=>(.then (.tR 2 V H λb2 G H=>(.mV V ?_)))));obtain ⟨u1,q1,h⟩:=bs h;refine .isNilV (c:=(cL Span.cs)) q1 V V V V (.na H λH=>(.no V (.skip (.tR 4 V H λb3 G H=>(.Z3C (sz:=1) ([].map (cL Span.cs)) H (by omega) (by omega) V V V V V V V V V λG H=>(.mV V ?_))))));obtain ⟨x1,q2,h⟩:=bs h;refine .appendBt (c:=(cL Span.cs)) (w:=(vl (cL Span.cs) s)) (xs:=[]) (ys:=s) H (by omega) (by omega) 0 V V V (.m (λ_=>V)) q2 V V V V V nofun V λG H=>(.aB V (.na H λH=>(.ret ?_)));obtain rfl:=sj h;exact ⟨.inr V,_,Z15 H (.tmp (v:=(.buf (b3+0) x1.length 1)) V .nil),_,⟨(.buf (b3+0) x1.length 1),V,V⟩,H⟩
theorem cloneNil45 {l:(List (List Span))} (h:l.isEmpty=true):FnO CZ 45 [(vl (cL Span.cs) l)] (λq A=>q=(vl (cL Span.cs) l)/\A=[]):=by
 cases l with
 | nil=>exact FnO.intr rfl rfl
 | cons a l=>cases h
theorem Z1K {s:(List Granule)} {r:(List Granule)} (h:Zc s=some r):FnO CZ 46 [(vl Granule.cs s)] (λq A=>∃ (w2:PV),w2=q/\A=[.sl w2 45 2 (r.map Granule.cs) true]):=by
 refine FnO.ofFresh Try.func46 rfl (by cases s with|nil=>simp [Zc,some?] at h|cons _ _=>rfl) rfl rfl rfl rfl ?_ (λ_ _ hA=>by first|(obtain ⟨_,rfl,rfl⟩:=hA;rfl)|(obtain ⟨_,_,rfl,rfl⟩:=hA;rfl)|(obtain ⟨rfl,rfl⟩:=hA;rfl));intro G T H;unfold Zc at h;refine .tR 1 V H λb1 G H=>(.a1 .nils V V (.na H λH=>(.then (.tR 2 V H λb2 G H=>(.mV V ?_)))));obtain ⟨u1,q1,h⟩:=bs h;refine .isNilV (c:=Granule.cs) q1 V V V V (.na H λH=>(.no V (.skip (.tR 4 V H λb3 G H=>(.Z3C (sz:=2) ([].map Granule.cs) H (by omega) (by omega) V V V V V V V V V λG H=>(.mV V ?_))))));obtain ⟨x1,q2,h⟩:=bs h;refine .appendBt (c:=Granule.cs) (w:=(vl Granule.cs s)) (xs:=[]) (ys:=s) H (by omega) (by omega) 0 V V V (.m (λ_=>V)) q2 V V V V V nofun V λG H=>(.aB V (.na H λH=>(.ret ?_)));obtain rfl:=sj h;exact ⟨.inr V,_,Z15 H (.tmp (v:=(.buf (b3+0) x1.length 2)) V .nil),_,⟨(.buf (b3+0) x1.length 2),V,V⟩,H⟩
theorem cloneNil46 {l:(List Granule)} (h:l.isEmpty=true):FnO CZ 46 [(vl Granule.cs l)] (λq A=>q=(vl Granule.cs l)/\A=[]):=by
 cases l with
 | nil=>exact FnO.intr rfl rfl
 | cons a l=>cases h
theorem Z26 {s:(List Span)} {r:(List Span)} (h:Zy s=some r):FnO CZ 47 [(vl Span.cs s)] (λq A=>∃ (w2:PV),w2=q/\A=[.sl w2 43 2 (r.map Span.cs) true]):=by
 refine FnO.ofFresh Try.func47 rfl (by cases s with|nil=>simp [Zy,some?] at h|cons _ _=>rfl) rfl rfl rfl rfl ?_ (λ_ _ hA=>by first|(obtain ⟨_,rfl,rfl⟩:=hA;rfl)|(obtain ⟨_,_,rfl,rfl⟩:=hA;rfl)|(obtain ⟨rfl,rfl⟩:=hA;rfl));intro G T H;unfold Zy at h;refine .tR 1 V H λb1 G H=>(.a1 .nils V V (.na H λH=>(.then (.tR 2 V H λb2 G H=>(.mV V ?_)))));obtain ⟨u1,q1,h⟩:=bs h;refine .isNilV (c:=Span.cs) q1 V V V V (.na H λH=>(.no V (.skip (.tR 4 V H λb3 G H=>(.Z3C (sz:=2) ([].map Span.cs) H (by omega) (by omega) V V V V V V V V V λG H=>(.mV V ?_))))));obtain ⟨x1,q2,h⟩:=bs h;refine .appendBt (c:=Span.cs) (w:=(vl Span.cs s)) (xs:=[]) (ys:=s) H (by omega) (by omega) 0 V V V (.m (λ_=>V)) q2 V V V V V nofun V λG H=>(.aB V (.na H λH=>(.ret ?_)));obtain rfl:=sj h;exact ⟨.inr V,_,Z15 H (.tmp (v:=(.buf (b3+0) x1.length 2)) V .nil),_,⟨(.buf (b3+0) x1.length 2),V,V⟩,H⟩
theorem cloneNil47 {l:(List Span)} (h:l.isEmpty=true):FnO CZ 47 [(vl Span.cs l)] (λq A=>q=(vl Span.cs l)/\A=[]):=by
 cases l with
 | nil=>exact FnO.intr rfl rfl
 | cons a l=>cases h
end Go.Dn

namespace Go.Dn
open Go
variable {X:Ctx} {n:Nat} {dr:Bool} {ops:Array Oper} {base i:Nat} {l:List Oper} {e:Env} {G G':Heap} {K:Env->Heap->Prop} {d:Nat} {t t1:TypeId} {p:String} {af:Array Edge} {lo hi:Nat} {L:List Res}
end Go.Dn

namespace Go.Dn
open Go
section
variable {α:Type}
theorem Z5h {sz:Nat}:∀ {xs:List (List α)},(∀ y∈xs,y.length=sz)->xs.flatten.length=xs.length*sz
 | [],_=>by simp
 | x::xs,h=>by
  have:=Z5h (xs:=xs) λy hy=>h y (YH _ hy);simp only [YO,YY,this,h x YN,Yc,Y0S];omega
theorem pf_drop {sz:Nat}:∀ {xs:List (List α)},(∀ y∈xs,y.length=sz)->∀ {i:Nat} {y:List α},xs[i]? = some y->xs.flatten.drop (i*sz)=y++(xs.drop (i+1)).flatten
 | [],_,i,y,h=>by simp at h
 | x::xs,hs,0,y,h=>by
  simp at h;subst h;simp
 | x::xs,hs,i+1,y,h=>by
  have hx:=hs x YN;have:=pf_drop (xs:=xs) (λy hy=>hs y (YH _ hy)) (i:=i) (y:=y) (by simpa using h)
  rw [YO,Y0S,Nat.add_comm (i*sz) sz,<- hx,<- List.drop_drop,List.drop_left,hx,this]
  simp
theorem pf_get {sz:Nat} {xs:List (List α)} (hs:∀ y∈xs,y.length=sz) {i j:Nat} {y:List α} (h:xs[i]? = some y) (hj:j<sz):xs.flatten[i*sz+j]? = y[j]?:=by
 rw [<- YX,pf_drop hs h,YJ (by rw [hs y (Y6 h)];exact hj)]
theorem pf_lt {xs:List (List α)} {i:Nat} {y:List α} (h:xs[i]? = some y):i<xs.length:=(List.getElem?_eq_some_iff.1 h).1
end
theorem pf_splice {sz:Nat} {xs:List (List PV)} (hs:∀ y∈xs,y.length=sz) {i:Nat} {y:List PV} (h:xs[i]? = some y) {off:Nat} {zs:List PV} (hle:off+zs.length<=sz) :
  splice xs.flatten (i*sz+off) zs=(xs.set i (y.take off++zs++y.drop (off+zs.length))).flatten:=by
 have hy:=hs y (Y6 h)
 have hi:=pf_lt h
 have e1:xs.flatten=(xs.take i).flatten++(y++(xs.drop (i+1)).flatten):=by
  conv=>lhs;rw [<- Y08 i xs]
  rw [Yt,List.drop_eq_getElem_cons hi,YO];rw [Y3 hi] at h;cases h;rfl
 have e2:xs.set i (y.take off++zs++y.drop (off+zs.length))=xs.take i++(y.take off++zs++y.drop (off+zs.length))::xs.drop (i+1):=by
  rw [Yp,if_pos hi]
 have hl:(xs.take i).flatten.length=i*sz:=by
  rw [Z5h (sz:=sz) λy hy=>hs y (Yd hy),YR,Nat.min_eq_left (by omega)]
 rw [e2]
 unfold splice
 rw [e1,Yt,YO]
 have t1:List.take (i*sz+off) ((xs.take i).flatten++(y++(xs.drop (i+1)).flatten))=(xs.take i).flatten++y.take off:=by
  rw [List.take_append,hl,Y0I (by omega),Y0H (by omega)]
  congr 2;omega
 have t2:List.drop (i*sz+off+zs.length) ((xs.take i).flatten++(y++(xs.drop (i+1)).flatten))=y.drop (off+zs.length)++(xs.drop (i+1)).flatten:=by
  rw [List.drop_append,hl,Y0J (by omega),List.nil_append,List.drop_append_of_le_length (by omega)]
  congr 2;omega
 rw [t1,t2]
 simp only [Yq]
variable {P:Program} {G:Heap} {t:TypeId} {lo hi:Nat} {L:List Res}
end Go.Dn

namespace Go.Dn
open Go
section
variable {X:Ctx} {n:Nat} {dr:Bool} {ops:Array Oper} {base i:Nat} {l:List Oper} {e:Env} {G:Heap} {K:Env->Heap->Prop} {d:Nat} {t t1:TypeId} {p:String} {af:Array Edge} {x y:Operand} {lo hi:Nat} {L:List Res}
theorem Ops.Z2Z {id m sz ver:Nat} {el te:TypeId} {cells:List PV} {ik:IntKind} {iv:Int} (H:Has G lo hi L) (k:Nat) (hk:L[k]? = some (.blk id te cells)) (hv:cells.length=ver) (hx:Z1 X e x=some (.buf id m sz)) (hm:m*sz=ver)
  (hy:Z1 X e y=some (.v (.int ik iv))) (h0:0<=iv) (hlt:iv.toNat<m) (ht:tslice X.P t1=some el) (hs:tsize X.P el=some sz) (ha:dr=true->Seen ops base i id false) (hd:Nat.blt d n=true)
  (hk':Ops X n dr ops base (i+1) l (set e d (.ptr id ver (iv.toNat*sz))) G K):Ops X n dr ops base i (⟨some d,.indexAddr t1 x y,t,p,af,none⟩::l) e G K:=by
 subst hm
 refine .plain (x:=.ptr id (m*sz) (iv.toNat*sz)) (G1:=G) ?_ (λh=>Z0b (ids:=[id]) rfl ?_ (λj hj=>by simp at hj;subst hj;exact ha h)) hd hk'
 ·have hc:G.cur id (m*sz)=true:=H.cur hk hv;simp only [Z2,hx,hy,Z01,Z2x,if_pos h0,ht,hc,hs,Bool.true_and,beq_self_eq_true,decide_eq_true hlt,Yi,if_true,Y9]
 ·simp only [touched,ZF,YE,YG,hx,vids,YK]
theorem Ops.lenK {id m sz:Nat} {el te:TypeId} {cells:List PV} (H:Has G lo hi L) (k:Nat) (hk:L[k]? = some (.blk id te cells)) (hv:cells.length=m*sz) (hx:Z1 X e x=some (.buf id m sz)) (ht:tslice X.P t1=some el)
  (ha:dr=true->Seen ops base i id false) (hd:Nat.blt d n=true)
  (hk':Ops X n dr ops base (i+1) l (set e d (.v (.int .i64 m))) G K):Ops X n dr ops base i (⟨some d,.call { callee:=.builtin .len,args:=#[x],argTypes:=#[t1] },t,p,af,none⟩::l) e G K:=by
 refine .plain (x:=.v (.int .i64 m)) (G1:=G) ?_ (λh=>Z0b (ids:=[id]) rfl ?_ (λj hj=>by simp at hj;subst hj;exact ha h)) hd hk'
 ·have hc:G.cur id (m*sz)=true:=H.cur hk hv;simp only [Z2,ZM,ZG,hx,Y1,Zg,lenD,ht,hc,if_true,Y9]
 ·simp only [touched,ZF,YE,YG,hx,vids,YK]
end
def Z1u (rt:TypeId) {α:Type} (c:α->List FV) (sz:Nat) (w:PV) (R:List Res):Prop:=w = .v (.sl [])\/∃ (id j:Nat) (ys:List α),w = .buf id ys.length sz/\R[j]? = some (.sl w rt sz (ys.map c) true)/\ys.length<10000000000000
theorem Z1u.push {rt:TypeId} {α:Type} {c:α->List FV} {sz:Nat} {w:PV} {R:List Res} (h:Z1u rt c sz w R) (r:Res):Z1u rt c sz w (r::R):=by
 rcases h with rfl|⟨id,j,ys,h1,h2,hb⟩
 ·exact .inl rfl
 ·exact .inr ⟨id,j+1,ys,h1,h2,hb⟩
theorem Z1u.one {rt:TypeId} {α:Type} {c:α->List FV} {sz:Nat} {w:PV} {O:Res} (h:Z1u rt c sz w [O]) (R:List Res):Z1u rt c sz w (O::R):=by
 rcases h with rfl|⟨id,j,ys,h1,h2,hb⟩
 ·exact .inl rfl
 ·cases j with
  | zero=>exact .inr ⟨id,0,ys,h1,h2,hb⟩
  | succ j=>simp at h2
theorem Z1u.set {rt:TypeId} {α:Type} {c:α->List FV} {sz:Nat} {w w0:PV} {R:List Res} {j0:Nat} {ys0 zs0:List α} (h:Z1u rt c sz w R) (hj:R[j0]? = some (.sl w0 rt sz (ys0.map c) true)) (hl:zs0.length=ys0.length):Z1u rt c sz w (R.set j0 (.sl w0 rt sz (zs0.map c) true)):=by
 rcases h with rfl|⟨id,j,ys,h1,h2,hb⟩
 ·exact .inl rfl
 ·by_cases e:j0=j
  ·subst e;have h3:=hj.symm.trans h2
   injection h3 with h3
   injection h3 with e1 _ _ e4 _
   have e5:ys0.length=ys.length:=by have:=congrArg List.length e4;simpa using this
   subst e1;refine .inr ⟨id,j0,zs0,by rw [h1,hl,e5],?_,by omega⟩
   rw [List.getElem?_set_self (List.getElem?_eq_some_iff.1 h2).1]
  ·refine .inr ⟨id,j,ys,h1,?_,hb⟩;rw [List.getElem?_set_ne e];exact h2
def Z4V (et:TypeId) (sz:Nat) (wc:PV) (O:Res) (N:Nat) (cells:List PV):Prop:=(wc = .v (.sl [])/\N=0/\O = .floor 0)\/∃ id,wc = .buf id N sz/\cells.length=N*sz/\O = .blk id et cells
theorem Ops.lenO {X:Ctx} {n:Nat} {ops:Array Oper} {base i:Nat} {l:List Oper} {e:Env} {G:Heap} {K:Env->Heap->Prop} {d:Nat} {t t1 el et:TypeId} {p:String} {af:Array Edge} {x:Operand} {lo hi:Nat} {L:List Res} {wc:PV} {O:Res} {N sz:Nat} {cells:List PV}
  (H:Has G lo hi L) (k:Nat) (hk:L[k]? = some O) (hO:Z4V et sz wc O N cells) (hx:Z1 X e x=some wc) (ht:tslice X.P t1=some el) (hd:Nat.blt d n=true)
  (hk':Ops X n false ops base (i+1) l (set e d (.v (.int .i64 N))) G K):Ops X n false ops base i (⟨some d,.call { callee:=.builtin .len,args:=#[x],argTypes:=#[t1] },t,p,af,none⟩::l) e G K:=by
 rcases hO with ⟨rfl,rfl,rfl⟩|⟨id,rfl,h1,rfl⟩
 ·exact Ops.lenPt (α:=Unit) (c:=λ_=>[]) (xs:=[]) hx ht hd hk'
 ·exact Ops.lenK H k hk h1 hx ht nofun hd hk'
theorem Has.sink {G:Heap} {lo hi:Nat} {s:Res} {R:List Res} (A:List Res) (H:Has G lo hi (s::(A++R))):Has G lo hi (A++(s::R)):=H.perm List.perm_middle.symm
theorem set3 {a b c s:Res} {R T:List Res} {j:Nat} (hj:j<R.length):(a::b::c::(R++T)).set (3+j) s=a::b::c::(R.set j s++T):=by
 rw [show 3+j=j+1+1+1 by omega]
 simp only [List.set_cons_succ]
 rw [List.set_append_left _ _ hj]
theorem get3 {a b c s:Res} {R T:List Res} {j:Nat} (hj:R[j]? = some s):(a::b::c::(R++T))[3+j]? = some s:=by
 rw [show 3+j=j+1+1+1 by omega]
 simp only [List.getElem?_cons_succ]
 rw [YJ (List.getElem?_eq_some_iff.1 hj).1]
 exact hj
def RowLen (sz:Nat) (w:PV) (m:Nat):Prop:=(w = .v (.sl [])/\m=0)\/∃ id,w = .buf id m sz
theorem Z1u.len {rt:TypeId} {α:Type} {c:α->List FV} {sz:Nat} {w:PV} {R:List Res} (h:Z1u rt c sz w R):∃ m,RowLen sz w m:=by
 rcases h with rfl|⟨id,j,ys,h1,h2,_⟩
 ·exact ⟨0,.inl ⟨rfl,rfl⟩⟩
 ·exact ⟨ys.length,.inr ⟨id,h1⟩⟩
theorem Z1u.at {rt:TypeId} {α:Type} {c:α->List FV} {sz:Nat} {w:PV} {R:List Res} (h:Z1u rt c sz w R) {m n:Nat} (hm:RowLen sz w m) (hn:n<m):∃ (j:Nat) (ys:List α),R[j]? = some (.sl w rt sz (ys.map c) true)/\ys.length=m/\n<ys.length/\m<10000000000000:=by
 rcases hm with ⟨_,h0⟩|⟨id,rfl⟩
 ·omega
 ·rcases h with h|⟨id',j,ys,h1,h2,hb⟩
  ·cases h
  ·injection h1 with _ h3 _
   exact ⟨j,ys,h2,h3.symm,by omega,by omega⟩
theorem Ops.lenRow {X:Ctx} {n:Nat} {ops:Array Oper} {base i:Nat} {l:List Oper} {e:Env} {G:Heap} {K:Env->Heap->Prop} {d:Nat} {t t1 el rt:TypeId} {p:String} {af:Array Edge} {x:Operand} {lo hi:Nat} {α:Type} {c:α->List FV} {sz m:Nat} {w:PV} {R T:List Res} {r1 r2 r3:Res}
  (H:Has G lo hi (r1::r2::r3::(R++T))) (hr:Z1u rt c sz w R) (hm:RowLen sz w m) (hx:Z1 X e x=some w) (ht:tslice X.P t1=some el) (hd:Nat.blt d n=true)
  (hk':Ops X n false ops base (i+1) l (set e d (.v (.int .i64 m))) G K):Ops X n false ops base i (⟨some d,.call { callee:=.builtin .len,args:=#[x],argTypes:=#[t1] },t,p,af,none⟩::l) e G K:=by
 rcases hm with ⟨rfl,rfl⟩|⟨id,rfl⟩
 ·exact Ops.lenPt (α:=Unit) (c:=λ_=>[]) (xs:=[]) hx ht hd hk'
 ·rcases hr with h|⟨id',j,ys,h1,h2,_⟩
  ·cases h
  ·injection h1 with _ h3 _
   subst h3;exact Ops.lenSt (c:=c) (xs:=ys) H (3+j) (get3 h2) hx ht nofun hd hk'
def gcells (gs:List (Int×PV)):List PV:=(gs.map λg=>[.v (.int .i64 g.1),g.2]).flatten
theorem Z44 (gs:List (Int×PV)):∀ y∈gs.map (λg=>[PV.v (.int .i64 g.1),g.2]),y.length=2:=λy hy=>by
 obtain ⟨k,_,rfl⟩:=List.mem_map.1 hy
 rfl
theorem Z4h (gs:List (Int×PV)):(gcells gs).length=gs.length*2:=by
 unfold gcells
 rw [Z5h (Z44 gs),YU]
theorem Z4G {gs:List (Int×PV)} {i:Nat} {g:Int×PV} (h:gs[i]? = some g):(gcells gs)[i*2]? = some (.v (.int .i64 g.1))/\(gcells gs)[i*2+1]? = some g.2:=by
 have hy:(gs.map λg=>[PV.v (.int .i64 g.1),g.2])[i]? = some [.v (.int .i64 g.1),g.2]:=by rw [YI,h];rfl
 exact ⟨pf_get (Z44 gs) hy (j:=0) (by decide),pf_get (Z44 gs) hy (j:=1) (by decide)⟩
theorem Z6U {gs:List (Int×PV)} {i:Nat} {g:Int×PV} (h:gs[i]? = some g) (a:Int) (w:PV) :
  splice (gcells gs) (i*2) [.v (.int .i64 a)]=gcells (gs.set i (a,g.2))/\splice (gcells gs) (i*2+1) [w]=gcells (gs.set i (g.1,w)):=by
 have hy:(gs.map λg=>[PV.v (.int .i64 g.1),g.2])[i]? = some [.v (.int .i64 g.1),g.2]:=by rw [YI,h];rfl
 unfold gcells
 constructor
 ·rw [List.map_set];exact pf_splice (Z44 gs) hy (off:=0) (zs:=[.v (.int .i64 a)]) (Y0X 1)
 ·rw [List.map_set];exact pf_splice (Z44 gs) hy (off:=1) (zs:=[w]) (YA 2)
end Go.Dn

namespace Go.Dn
open Go
theorem Z1b {S R:Type} {step:S->Option (S⊕R)} (I:S->Prop) (m:S->Nat) (post:R->Prop)
  (h:∀ s,I s->(∃ s',step s=some (.inl s')/\I s'/\m s'<m s)\/(∃ r,step s=some (.inr r)/\post r)):∀ s,I s->∃ r,loopO step s=some r/\post r:=by
 have key:∀ n s,m s=n->I s->∃ r,loopO step s=some r/\post r:=by
  intro n
  induction n using Nat.strongRecOn with
  | _ n ih=>
   intro s hm hI;rcases h s hI with ⟨s',h1,h2,h3⟩|⟨r,h1,h2⟩
   ·obtain ⟨r,q1,q2⟩:=ih (m s') (by omega) s' rfl h2
    exact ⟨r,by rw [loopO_eq,h1];exact q1,q2⟩
   ·exact ⟨r,by rw [loopO_eq,h1],h2⟩
 exact λs hI=>key _ s rfl hI
theorem Z0k {S R:Type} {step:S->Option (S⊕R)} (I:S->R->Prop) (m:S->Nat)
  (h:∀ s r,I s r->(∃ s',step s=some (.inl s')/\I s' r/\m s'<m s)\/step s=some (.inr r)) {s:S} {r:R} (hI:I s r):loopO step s=some r:=by
 obtain ⟨r',h1,h2⟩:=Z1b (I:=λs=>I s r) m (λr'=>r'=r) (λs hs=>by
  rcases h s r hs with ⟨s',h1,h2,h3⟩|h1
  ·exact .inl ⟨s',h1,h2,h3⟩
  ·exact .inr ⟨r,h1,rfl⟩) s hI
 rw [h1,h2]
theorem Z2v (a:Int):IntKind.i64.wrap a=(a+9223372036854775808) % 18446744073709551616-9223372036854775808:=by
 simp [IntKind.wrap,IntKind.bits,IntKind.signed]
 split<;>omega
theorem Z45 (a:Int):IntKind.u64.wrap a=a % 18446744073709551616:=by
 simp [IntKind.wrap,IntKind.bits,IntKind.signed]
theorem okI_i64 {x:Int}:okI .i64 x ↔ -9223372036854775808<=x/\x<=9223372036854775807:=Iff.rfl
theorem Zb {x:Int} (h : -9223372036854775808<=x/\x<=9223372036854775807):w64 x=x:=by
 unfold w64;rw [Z2v];omega
theorem Z5Q:maxLen=9223372036854775807:=rfl
theorem Z5J:room=140737488355328:=rfl
theorem at?_lt {α:Type} {l:List α} {i:Int} (h0:0<=i) (h:i<l.length):at? l i=some (l[i.toNat]'(by omega)):=by
 unfold at?;rw [if_pos h0,Y3]
theorem at?_nat {α:Type} {l:List α} {k:Nat} (h:k<l.length):at? l (k:Int)=some l[k]:=by
 rw [at?_lt (by omega) (by omega)];rfl
theorem app?_ok {α:Type} {b:Nat} {l m:List α} (h:(l.length+m.length)*b<=room):app? b l m=some (l++m):=if_pos h
theorem nz?_ok {b:Int} (h:b≠0):nz? b=some ():=if_neg h
theorem beq_t {a b:Int} (h:a=b):(a==b)=true:=by simp [h]
theorem beq_f {a b:Int} (h:a≠b):(a==b)=false:=by simp [h]
theorem bne_t {a b:Int} (h:a≠b):(a != b)=true:=by simp [h]
theorem bne_f {a b:Int} (h:a=b):(a != b)=false:=by simp [h]
theorem ibeq (a b:Int):(a==b)=decide (a=b):=by by_cases h:a=b<;>simp [h]
theorem Zd {p:Prop} [Decidable p] (h:p):decide p=true:=by simp [h]
theorem Zr {p:Prop} [Decidable p] (h:¬ p):decide p=false:=by simp [h]
theorem pickB {α:Type} (c:Bool) (a b:α):(bif c then a else b)=if c=true then a else b:=by cases c<;>rfl
theorem Z5j {α:Type} {l:List α} {good:Nat->α->Prop} (h:¬ ∀ k x,l[k]? = some x->good k x):∃ (k:Nat) (x:α),l[k]? = some x/\¬ good k x/\∀ j y,j<k->l[j]? = some y->good j y:=by
 have hex:∃ k:Nat,∃ x,l[k]? = some x/\¬ good k x:=by
  apply Classical.byContradiction;intro hn;exact h λk x hk=>Classical.byContradiction λhg=>hn ⟨k,x,hk,hg⟩
 obtain ⟨k,hk⟩:=hex
 induction k using Nat.strongRecOn with
 | _ k ih=>
  by_cases h:∃ j,j<k/\∃ x,l[j]? = some x/\¬ good j x
  ·obtain ⟨j,hj,hx⟩:=h;exact ih j hj hx
  ·obtain ⟨x,hx,hb⟩:=hk;exact ⟨k,x,hx,hb,λj y hj hy=>Classical.byContradiction λhg=>h ⟨j,hj,y,hy,hg⟩⟩
theorem Z2s {α R:Type} {l:List α} {step:Int->Option (Int⊕R)} (good:Nat->α->Prop) {no yes:R}
  (hstep:∀ (k:Nat) (x:α),l[k]? = some x->(∀ j y,j<k->l[j]? = some y->good j y)->(step (k:Int)=some (.inl ((k:Int)+1))/\good k x)\/(step (k:Int)=some (.inr no)/\¬ good k x))
  (hend:step (l.length:Int)=some (.inr yes)):(loopO step 0=some yes/\∀ k x,l[k]? = some x->good k x)\/(loopO step 0=some no/\¬ ∀ k x,l[k]? = some x->good k x):=by
 by_cases hall:∀ k x,l[k]? = some x->good k x
 ·refine .inl ⟨?_,hall⟩;refine Z0k (I:=λ(s:Int) r=>r=yes/\∃ k:Nat,s=k/\k<=l.length) (λs=>(l.length-s.toNat)) ?_ ⟨rfl,0,rfl,YW _⟩;rintro s r ⟨rfl,k,rfl,hk⟩
  by_cases hlt:k<l.length
  ·rcases hstep k l[k] (Y3 hlt) (λj y _ hy=>hall j y hy) with ⟨h1,_⟩|⟨_,h2⟩
   ·exact .inl ⟨_,h1,⟨rfl,k+1,by push_cast;rfl,hlt⟩,by simp;omega⟩
   ·exact absurd (hall k _ (Y3 hlt)) h2
  ·have:k=l.length:=by omega
   subst this;exact .inr hend
 ·refine .inr ⟨?_,hall⟩;obtain ⟨k0,x0,hx0,hb0,hgood⟩:=Z5j hall;have hlt0:=(List.getElem?_eq_some_iff.1 hx0).1;refine Z0k (I:=λ(s:Int) r=>r=no/\∃ k:Nat,s=k/\k<=k0) (λs=>(l.length-s.toNat)) ?_ ⟨rfl,0,rfl,YW _⟩;rintro s r ⟨rfl,k,rfl,hk⟩
  by_cases hlt:k<k0
  ·have hkl:k<l.length:=by omega
   rcases hstep k l[k] (Y3 hkl) (λj y hj hy=>hgood j y (by omega) hy) with ⟨h1,_⟩|⟨_,h2⟩
   ·exact .inl ⟨_,h1,⟨rfl,k+1,by push_cast;rfl,hlt⟩,by simp;omega⟩
   ·exact absurd (hgood k _ hlt (Y3 hkl)) h2
  ·have:k=k0:=by omega
   subst this;rcases hstep k x0 hx0 hgood with ⟨_,h2⟩|⟨h1,_⟩
   ·exact absurd h2 hb0
   ·exact .inr h1
theorem fold_loop {α A R:Type} {l:List α} {step:A×Int->Option ((A×Int)⊕R)} (f:A->Nat->α->A) (fin:A->R) (I:Nat->A->Prop) {a0:A} (h0:I 0 a0)
  (hgo:∀ (k:Nat) (x:α) (a:A),l[k]? = some x->I k a->step (a,(k:Int))=some (.inl (f a k x,(k:Int)+1))/\I (k+1) (f a k x))
  (hend:∀ a,I l.length a->step (a,(l.length:Int))=some (.inr (fin a))):∃ a,loopO step (a0,0)=some (fin a)/\I l.length a:=by
 obtain ⟨r,h1,a,rfl,h2⟩:=Z1b (step:=step) (I:=λs=>∃ (k:Nat) (a:A),s=(a,(k:Int))/\k<=l.length/\I k a) (λs=>l.length-s.2.toNat) (λr=>∃ a,r=fin a/\I l.length a) (by
  rintro s ⟨k,a,rfl,hk,hI⟩
  by_cases hlt:k<l.length
  ·obtain ⟨q1,q2⟩:=hgo k l[k] a (Y3 hlt) hI;exact .inl ⟨_,q1,⟨k+1,_,by push_cast;rfl,hlt,q2⟩,by simp;omega⟩
  ·have:k=l.length:=by omega
   subst this;exact .inr ⟨_,hend a hI,a,rfl,hI⟩) (a0,0) ⟨0,a0,rfl,YW _,h0⟩
 exact ⟨a,h1,h2⟩
end Go.Dn
