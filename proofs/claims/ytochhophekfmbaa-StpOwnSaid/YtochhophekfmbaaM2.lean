/- Part 2 of what the row stands on. -/
import Derived.Below
import Derived.ChangeArms
import Derived.ChangeOld
import Derived.SizedLaws
import Derived.KernelRfl
import Derived.Test.YtochhophekfmbaaProg
import Derived.Test.YtochhophekfmbaaM1
set_option linter.unusedVariables false
set_option linter.unusedSimpArgs false
namespace Go.Dn
open Go
section
variable {G:Heap} {lo hi:Nat} {L:List Res} {k:Nat} {r:Res}
theorem Has.sl (H:Has G lo hi L) {v:PV} {e:TypeId} {sz:Nat} {xs:List (List FV)} {live:Bool} (hk:L[k]? = some (.sl v e sz xs live)) :
  (∀ y∈xs,y.length=sz)/\((v = .nils/\xs=[])\/∃ id,v = .buf id xs.length sz/\G.ent id = .blk e (vs xs.flatten) live):=H.holds k _ hk
theorem Has.renew (H:Has G lo hi L) {b:Nat} {en:Ent} {r':Res} (hk:L[k]? = some r) (hlo:lo<=b) (hhi:b<hi) (hr:r'.holds (G.put b en)) (ho:r'.owner=some b):Has (G.put b en) (b+1) hi (L.set k r'):=by
 have hle:=H.le
 have hne:∀ (j:Nat) (s:Res),L[j]? = some s->s.owner≠some b:=λj s h e=>by
  have:=(H.lt j s h b e).1;omega
 have key:∀ (j:Nat) (s:Res),(L.set k r')[j]? = some s->(j=k/\s=r')\/(j≠k/\L[j]? = some s):=by
  intro j s h;rw [Y09] at h
  by_cases hj:k=j
  ·subst hj;rw [if_pos rfl] at h
   split at h
   ·cases h;exact .inl ⟨rfl,rfl⟩
   ·cases h
  ·rw [if_neg hj] at h;exact .inr ⟨λe=>hj e.symm,h⟩
 refine ⟨λj s h=>?_,λj s h id' ho2=>?_,λi j s t hij h1 h2 id' hs=>?_,hle⟩
 ·rcases key j s h with ⟨_,rfl⟩|⟨hj,h⟩
  ·exact hr
  ·exact Z3A (H.holds j s h) (hne j s h)
 ·rcases key j s h with ⟨_,rfl⟩|⟨hj,h⟩
  ·rw [ho] at ho2;cases ho2;exact ⟨.inl (by omega),show _<G.nx by omega⟩
  ·have:=H.lt j s h id' ho2;exact ⟨by omega,this.2⟩
 ·rcases key i s h1 with ⟨hi',rfl⟩|⟨hi',h1'⟩
  ·rw [ho] at hs;cases hs;rcases key j t h2 with ⟨hj,rfl⟩|⟨hj,h2'⟩
   ·omega
   ·exact hne j t h2'
  ·rcases key j t h2 with ⟨hj,rfl⟩|⟨hj,h2'⟩
   ·intro e;rw [ho] at e;cases e;exact hne i s h1' hs
   ·exact H.sep i j s t hij h1' h2' id' hs
theorem Has.say (H:Has G lo hi L) {r':Res} (hk:L[k]? = some r) (hr:r'.holds G) (ho:r'.owner=r.owner):Has G lo hi (L.set k r'):=by
 have key:∀ (j:Nat) (s:Res),(L.set k r')[j]? = some s->(j=k/\s=r')\/(j≠k/\L[j]? = some s):=by
  intro j s h;rw [Y09] at h
  by_cases hj:k=j
  ·subst hj;rw [if_pos rfl] at h
   split at h
   ·cases h;exact .inl ⟨rfl,rfl⟩
   ·cases h
  ·rw [if_neg hj] at h;exact .inr ⟨λe=>hj e.symm,h⟩
 refine ⟨λj s h=>?_,λj s h id' ho2=>?_,λi j s t hij h1 h2 id' hs=>?_,H.le⟩
 ·rcases key j s h with ⟨_,rfl⟩|⟨hj,h⟩
  ·exact hr
  ·exact H.holds j s h
 ·rcases key j s h with ⟨_,rfl⟩|⟨hj,h⟩
  ·rw [ho] at ho2;exact H.lt k r hk id' ho2
  ·exact H.lt j s h id' ho2
 ·rcases key i s h1 with ⟨hi',rfl⟩|⟨hi',h1'⟩
  ·rw [ho] at hs;rcases key j t h2 with ⟨hj,rfl⟩|⟨hj,h2'⟩
   ·omega
   ·exact H.sep k j r t (λe=>hj e.symm) hk h2' id' hs
  ·rcases key j t h2 with ⟨hj,rfl⟩|⟨hj,h2'⟩
   ·rw [ho];exact H.sep i k s r hi' h1' hk id' hs
   ·exact H.sep i j s t hij h1' h2' id' hs
theorem Has.same {G':Heap} (H:Has G lo hi L) (he:∀ id,id<G.nx->G'.ent id=G.ent id) (hn:G.nx<=G'.nx):Has G' lo hi L:=by
 refine ⟨λj s h=>?_,λj s h id ho=>⟨(H.lt j s h id ho).1,YJ (H.lt j s h id ho).2 hn⟩,H.sep,YZ H.le hn⟩
 have h1:=H.holds j s h
 have h2:=H.lt j s h
 cases s with
 | blk id t cells=>exact (he id (h2 id rfl).2).trans h1
 | sl v e sz xs live=>
  refine ⟨h1.1,h1.2.imp (λh=>h) λ⟨id,hv,hb⟩=>⟨id,hv,?_⟩⟩;exact (he id (h2 id (by rw [hv];rfl)).2).trans hb
 | floor m=>exact YZ h1 hn
 | hole id=>trivial
 | loop id fn e n ps as_ bo st pd=>exact (he id (h2 id rfl).2).trans h1
 | mp id kv=>exact (he id (h2 id rfl).2).trans h1
 | fix id en=>exact (he id (h2 id rfl).2).trans h1
theorem Has.floor (H:Has G lo hi L) (m:Nat) (hm:m<=G.nx):Has G lo hi (.floor m::L):=by
 refine ⟨λj s h=>?_,λj s h id' ho2=>?_,λi j s t hij h1 h2 id' hs=>?_,H.le⟩
 ·cases j with
  | zero=>cases h;exact hm
  | succ j=>exact H.holds j s h
 ·cases j with
  | zero=>cases h;cases ho2
  | succ j=>exact H.lt j s h id' ho2
 ·cases i with
  | zero=>cases h1;cases hs
  | succ i=>
   cases j with
   | zero=>cases h2;intro e;cases e
   | succ j=>exact H.sep i j s t (λe=>hij (by rw [e])) h1 h2 id' hs
end
def pick (L:List Res) (ks:List Nat):List Res:=ks.filterMap (L[·]?)
theorem Has.pick {G:Heap} {lo hi:Nat} {L:List Res} (H:Has G lo hi L):∀ (ks:List Nat),ks.Nodup->Has G lo hi (Dn.pick L ks)
 | [],_=>Has.nil H.le
 | k::ks,hn=>by
  have hn:=List.nodup_cons.1 hn;have ih:=Has.pick H ks hn.2
  cases hr:L[k]? with
  | none=>simpa [Dn.pick,hr] using ih
  | some r=>
   have e:Dn.pick L (k::ks)=r::Dn.pick L ks:=by simp [Dn.pick,hr]
   rw [e];have mem:∀ (j:Nat) (s:Res),(Dn.pick L ks)[j]? = some s->∃ k',k'∈ks/\L[k']? = some s:=λj s h=>by
    have:=YB h;unfold Dn.pick at this;exact List.mem_filterMap.1 this
   refine ⟨λj s h=>?_,λj s h=>?_,λi j s t hij h1 h2=>?_,H.le⟩
   ·cases j with
    | zero=>cases h;exact H.holds k r hr
    | succ j=>exact ih.holds j s h
   ·cases j with
    | zero=>cases h;exact H.lt k r hr
    | succ j=>exact ih.lt j s h
   ·cases i with
    | zero=>
     cases h1;cases j with
     | zero=>exact absurd rfl hij
     | succ j=>
      obtain ⟨k',hk',h2'⟩:=mem j t h2;exact H.sep k k' r t (λe=>hn.1 (e▸hk')) hr h2'
    | succ i=>
     cases j with
     | zero=>
      cases h2;obtain ⟨k',hk',h1'⟩:=mem i s h1;exact H.sep k' k s r (λe=>hn.1 (e▸hk')) h1' hr
     | succ j=>exact ih.sep i j s t (λe=>hij (by rw [e])) h1 h2
theorem Z1P (xs ys:List FV):vs (xs++ys)=vs xs++vs ys:=Y08 ..
theorem Z02 (xs:List FV):(vs xs).length=xs.length:=YG ..
theorem Z40 (xs:List FV) (j:Nat):(vs xs).take j=vs (xs.take j):=(Y0E ..).symm
theorem vs_drop (xs:List FV) (j:Nat):(vs xs).drop j=vs (xs.drop j):=(List.map_drop ..).symm
theorem Zn {sz:Nat}:∀ {xs:List (List FV)},(∀ y∈xs,y.length=sz)->xs.flatten.length=xs.length*sz
 | [],_=>by simp
 | x::xs,h=>by
  have:=Zn (xs:=xs) λy hy=>h y (YO _ hy);simp only [YX,YM,this,h x YU,Yi,Nat.succ_mul];omega
theorem flat_drop {sz:Nat}:∀ {xs:List (List FV)},(∀ y∈xs,y.length=sz)->∀ {i:Nat} {y:List FV},xs[i]? = some y->xs.flatten.drop (i*sz)=y++(xs.drop (i+1)).flatten
 | [],_,i,y,h=>by simp at h
 | x::xs,hs,0,y,h=>by
  simp at h;subst h;simp
 | x::xs,hs,i+1,y,h=>by
  have hx:=hs x YU;have:=flat_drop (xs:=xs) (λy hy=>hs y (YO _ hy)) (i:=i) (y:=y) (by simpa using h)
  rw [YX,Nat.succ_mul,Nat.add_comm (i*sz) sz,<- hx,<- List.drop_drop,List.drop_left,hx,this]
  simp
theorem flat_part {sz:Nat} {xs:List (List FV)} (hs:∀ y∈xs,y.length=sz) {i:Nat} {y:List FV} (h:xs[i]? = some y):(xs.flatten.drop (i*sz)).take sz=y:=by
 rw [flat_drop hs h,Yz (by rw [hs y (YB h)];exact Y9 _),Yj (by rw [hs y (YB h)];exact Y9 _)]
theorem flat_le {sz:Nat} {xs:List (List FV)} (hs:∀ y∈xs,y.length=sz) {i:Nat} {y:List FV} (h:xs[i]? = some y):i*sz+sz<=xs.flatten.length:=by
 have hi:i<xs.length:=by
  rcases Ya i xs.length with h1|h1
  ·exact h1
  ·rw [Yl h1] at h;cases h
 rw [Zn hs,<- Nat.succ_mul]
 exact YW _ hi
theorem flat_splice {sz:Nat}:∀ {xs:List (List FV)},(∀ y∈xs,y.length=sz)->∀ {i:Nat} {y:List FV},xs[i]? = some y->∀ {off:Nat} {zs:List FV},off+zs.length<=sz ->
  splice (vs xs.flatten) (i*sz+off) (vs zs)=vs (xs.set i (y.take off++zs++y.drop (off+zs.length))).flatten:=by
 intro xs hs i y h off zs hle
 have hy:=hs y (YB h)
 have hi:i<xs.length:=by
  rcases Ya i xs.length with h1|h1
  ·exact h1
  ·rw [Yl h1] at h;cases h
 have e1:xs.flatten=(xs.take i).flatten++(y++(xs.drop (i+1)).flatten):=by
  conv=>lhs;rw [<- Yw i xs]
  rw [Yr,List.drop_eq_getElem_cons hi,YX];rw [Y7 hi] at h;cases h;rfl
 have e2:xs.set i (y.take off++zs++y.drop (off+zs.length))=xs.take i++(y.take off++zs++y.drop (off+zs.length))::xs.drop (i+1):=by
  rw [Yo,if_pos hi]
 have hl:(xs.take i).flatten.length=i*sz:=by
  rw [Zn (sz:=sz) λy hy=>hs y (YV hy),YN,Nat.min_eq_left (by omega)]
 rw [e2]
 unfold splice
 rw [Z40,vs_drop,<- Z1P,<- Z1P,Z02]
 congr 1
 rw [e1,Yr,YX]
 have t1:List.take (i*sz+off) ((xs.take i).flatten++(y++(xs.drop (i+1)).flatten))=(xs.take i).flatten++y.take off:=by
  rw [List.take_append,hl,Yj (by omega),Yz (by omega)]
  congr 2;omega
 have t2:List.drop (i*sz+off+zs.length) ((xs.take i).flatten++(y++(xs.drop (i+1)).flatten))=y.drop (off+zs.length)++(xs.drop (i+1)).flatten:=by
  rw [List.drop_append,hl,List.drop_eq_nil_of_le (by omega),List.nil_append,List.drop_append_of_le_length (by omega)]
  congr 2;omega
 rw [t1,t2]
 simp only [YR]
theorem at?_map {α β:Type} {f:α->β} {l:List α} {i:Int} {a:α} (h:at? l i=some a):at? (l.map f) i=some (f a):=by
 obtain ⟨h0,h1⟩:=at?_some h
 rw [at?,if_pos h0,YK,h1];rfl
def set? {α:Type} (l:List α) (i:Int) (a:α):Option (List α):=if 0<=i/\i.toNat<l.length then some (l.set i.toNat a) else none
def app? {α:Type} (by_:Nat) (l m:List α):Option (List α):=if (l.length+m.length)*by_<=room then some (l++m) else none
def new? {α:Type} (by_:Nat) (n:Int) (z:α):Option (List α):=if 0<=n/\n.toNat*by_<=room then some (List.replicate n.toNat z) else none
def cut? {α:Type} (l:List α) (i j:Int):Option (List α):=if 0<=i/\i<=j/\j<=l.length then some ((l.take j.toNat).drop i.toNat) else none
section
variable {X:Ctx} {n:Nat} {dr:Bool} {fn:FuncId} {ops:Array Oper} {base i:Nat} {l:List Oper} {e:Env} {G:Heap} {K:Env->Heap->Prop} {Q:Ex->Env->Heap->Prop} {c a b:Code}
variable {d:Nat} {t t1 t2:TypeId} {p:String} {af:Array Edge} {x y z:Operand} {v:PV} {lo hi:Nat} {L:List Res}
theorem noBuf {x:PV} (h:needF x=false):Z2q x=[]:=by
 cases x with
 | agg cs=>
  simp only [needF,Z2q,List.any_eq_false] at h ⊢;rw [List.flatMap_eq_nil_iff];intro x hx;have:=h x hx;cases x<;>first|rfl|(simp [isRef] at this)
 | _=>first|rfl|cases h
theorem ask_build {parts:Array (Nat×Operand)} {len:Nat} {pp:List (Nat×PV)} (hp:Z1l X e parts.toList=some pp) (h:(pp.all λp=>!needF p.2)=true):ZZ X ops base i ⟨some d,.buildSlice t1 len parts,t,p,af,none⟩ e=true:=by
 refine ask0 ?_
 have:frozen X e (.buildSlice t1 len parts)=[]:=by
  simp only [frozen,hp];cases X.hold t1 parts.toList<;>first|rfl|skip;show pp.flatMap _=[];rw [List.flatMap_eq_nil_iff];intro q hq;have:=List.all_eq_true.1 h q hq;simp only [YS] at this;exact noBuf this
 simp only [ZQ,Zc,this]
 rfl
theorem frz_none:∀ {ps:List (Nat×PV)} {G:Heap},(ps.all λp=>!needF p.2)=true->Z0F G ps=some (ps,G)
 | [],G,_=>rfl
 | p::ps,G,h=>by
  simp only [Yf,Y8,YS] at h;simp only [Z0F,h.1,YA,if_false,frz_none h.2,Y1]
theorem frzPs_none {b:Bool} {ps:List (Nat×PV)} {G:Heap} (h:(ps.all λp=>!needF p.2)=true):Z48 b G ps=some (ps,G):=by
 cases b with
 | false=>exact frz_none h
 | true=>rfl
theorem Ops.Z2B {parts:Array (Nat×Operand)} {len sz:Nat} {el:TypeId} {zs:List PV} {pp:List (Nat×PV)} (xs:List (List FV)) (H:Has G lo hi L) (hlo:lo<=base+i) (hhi:base+i<hi)
  (ht:tslice X.P t1=some el) (hp:Z1l X e parts.toList=some pp) (hs:tsize X.P el=some sz) (hz:tzero X.P el=some zs) (hc:(zs.length==sz&&sz != 0&&Nat.ble (len*sz) 1000000)=true)
  (hf:Z3T (λi=>some (i*sz,sz)) (List.replicate len zs).flatten pp=some (vs xs.flatten)) (hl:xs.length=len) (hx:xs.all (λy=>y.length==sz)=true) (hd:Nat.blt d n=true)
  (hk:∀ G',Has G' (base+i+1) hi (.sl (.buf (base+i) len sz) el sz xs true::L)->Ops X n dr ops base (i+1) l (set e d (.buf (base+i) len sz)) G' K) (hfr:(pp.all λp=>!needF p.2)=true:=by rfl) (hlit:(X.lit&&len != 0)=false:=by first|rfl|exact Bool.and_false _) :
  Ops X n dr ops base i (⟨some d,.buildSlice t1 len parts,t,p,af,none⟩::l) e G K:=by
 simp only [Y8,beq_iff_eq,bne_iff_ne,ne_eq,Nat.ble_eq] at hc
 refine .plain (x:=.buf (base+i) len sz) (G1:=G.put (base+i) (.blk el (vs xs.flatten) true)) ?_ (λ_=>ask_build hp hfr) hd (hk _ (H.push hlo hhi (r':=.sl (.buf (base+i) len sz) el sz xs true) ?_ rfl))
 ·simp only [Z2,Z0M,hp,Y1,frzPs_none hfr,Z0k,ht,hs,hz];rw [if_pos ⟨hc.1.1,hc.1.2,hc.2⟩,hf];simp only [litR,hlit];rfl
 ·exact ⟨λy hy=>by have:=List.all_eq_true.1 hx y hy;simpa using this,.inr ⟨base+i,by rw [hl],Z0p⟩⟩
theorem Ops.makeS {el:TypeId} {sz by_:Nat} {m:Int} {zs:List FV} {α:Type} {cc:α->List FV} {za:α} {r:List α} (H:Has G lo hi L) (hlo:lo<=base+i) (hhi:base+i<hi)
  (hx:Z0 X e x=some (.v (.int .i64 m))) (hy:Z0 X e y=some (.v (.int .i64 m))) (hr:new? by_ m za=some r)
  (ht:tslice X.P t1=some el) (hs:tsize X.P el=some sz) (hb:tbytes X.P el=some by_) (hz:tzero X.P el=some (vs zs)) (hza:cc za=zs) (hc:(zs.length==sz&&sz != 0&&by_ != 0)=true) (hd:Nat.blt d n=true)
  (hk:∀ G',Has G' (base+i+1) hi (.sl (.buf (base+i) m.toNat sz) el sz (r.map cc) true::L)->Ops X n dr ops base (i+1) l (set e d (.buf (base+i) m.toNat sz)) G' K) :
  Ops X n dr ops base i (⟨some d,.makeSlice t1 x y,t,p,af,none⟩::l) e G K:=by
 simp only [Y8,beq_iff_eq,bne_iff_ne,ne_eq] at hc
 unfold new? at hr
 split at hr
 ·rename_i hm;cases hr;have e1:(List.map cc (List.replicate m.toNat za))=List.replicate m.toNat zs:=by rw [List.map_replicate,hza]
  have e2:(List.replicate m.toNat (vs zs)).flatten=vs (List.replicate m.toNat zs).flatten:=by
   unfold vs;rw [List.map_flatten,List.map_replicate]
  refine .plain (x:=.buf (base+i) m.toNat sz) (G1:=G.put (base+i) (.blk el (vs (List.replicate m.toNat zs).flatten) true)) ?_ (λ_=>Z01 rfl) hd (hk _ (H.push hlo hhi (r':=.sl (.buf (base+i) m.toNat sz) el sz _ true) ?_ rfl))
  ·simp only [Z2,hx,hy,makeD,ht,hs,hb,hz,Z02];rw [if_pos ⟨trivial,hm.1,hm.2,hc.1.1,hc.1.2,hc.2⟩,e2]
  ·rw [e1];exact ⟨λy hy=>by rw [List.eq_of_mem_replicate hy];exact hc.1.1,.inr ⟨base+i,by simp,Z0p⟩⟩
 ·cases hr
theorem Ops.lenS {el et:TypeId} {sz:Nat} {xs:List (List FV)} {lv:Bool} (H:Has G lo hi L) (k:Nat) (hk:L[k]? = some (.sl v et sz xs lv)) (hx:Z0 X e x=some v) (ht:tslice X.P t1=some el)
  (ha:dr=true->∀ id,v.owner=some id->Seen ops base i id false) (hd:Nat.blt d n=true)
  (hk':Ops X n dr ops base (i+1) l (set e d (.v (.int .i64 xs.length))) G K):Ops X n dr ops base i (⟨some d,.call { callee:=.builtin .len,args:=#[x],argTypes:=#[t1] },t,p,af,none⟩::l) e G K:=by
 obtain ⟨hs,hv⟩:=H.sl hk
 refine .plain (x:=.v (.int .i64 xs.length)) (G1:=G) ?_ (λh=>Z0v rfl rfl ?_) hd hk'
 ·simp only [Z2,ZU,ZG,hx,Y1,Zm,lenD,ht];rcases hv with ⟨rfl,rfl⟩|⟨id,rfl,hb⟩
  ·rfl
  ·have:G.cur id (xs.length*sz)=true:=by simp only [Heap.cur,hb,Z02,Zn hs,beq_self_eq_true]
   simp only [this,if_true,Y6]
 ·intro id hid;simp only [touched,ZL,YD,YF,hx,YE] at hid;rcases hv with ⟨rfl,rfl⟩|⟨id',rfl,hb⟩
  ·simp [vids] at hid
  ·simp [vids] at hid;subst hid;exact ha h _ rfl
theorem Ops.Z0K {el et:TypeId} {sz:Nat} {xs:List (List FV)} {u:List FV} {iv:Int} {ik:IntKind} {lv:Bool} (H:Has G lo hi L) (k:Nat) (hk:L[k]? = some (.sl v et sz xs lv)) (hx:Z0 X e x=some v)
  (hy:Z0 X e y=some (.v (.int ik iv))) (hu:at? xs iv=some u) (ht:tslice X.P t1=some el) (hs:tsize X.P el=some sz)
  (ha:dr=true->∀ id,v.owner=some id->Seen ops base i id false) (hd:Nat.blt d n=true)
  (hk':∀ id,v = .buf id xs.length sz->Ops X n dr ops base (i+1) l (set e d (.ptr id (xs.length*sz) (iv.toNat*sz))) G K):Ops X n dr ops base i (⟨some d,.indexAddr t1 x y,t,p,af,none⟩::l) e G K:=by
 obtain ⟨hsz,hv⟩:=H.sl hk
 obtain ⟨h0,hu⟩:=at?_some hu
 have hlt:iv.toNat<xs.length:=by
  rcases Ya iv.toNat xs.length with h1|h1
  ·exact h1
  ·rw [Yl h1] at hu;cases hu
 rcases hv with ⟨rfl,rfl⟩|⟨id,rfl,hb⟩
 ·simp at hu
 ·have hcur:G.cur id (xs.length*sz)=true:=by simp only [Heap.cur,hb,Z02,Zn hsz,beq_self_eq_true]
  refine .plain (x:=.ptr id (xs.length*sz) (iv.toNat*sz)) (G1:=G) ?_ (λh=>Z0v rfl rfl ?_) hd (hk' id rfl)
  ·simp only [Z2,hx,hy,Z04,Z1a,if_pos h0,ht,hcur,hs,Bool.true_and,beq_self_eq_true,decide_eq_true hlt,if_true,Y6]
  ·intro id' hid;simp only [touched,ZL,YD,YF,hx,YE] at hid;simp [vids] at hid;subst hid;exact ha h _ rfl
theorem Ops.Z1X {id:Nat} {et:TypeId} {sz off ver:Nat} {xs:List (List FV)} {u:List FV} {iv:Int} {lv:Bool} (H:Has G lo hi L) (k:Nat) (hk:L[k]? = some (.sl v et sz xs lv)) (hv:v = .buf id xs.length sz) (hver:ver=xs.length*sz)
  (hu:at? xs iv=some u) (hx:Z0 X e x=some (.ptr id ver off)) (hoff:off=iv.toNat*sz) (hg:tagg X.P t1=some true) (hj:tsize X.P t1=some sz) (ha:dr=true->Seen ops base i id false) (hd:Nat.blt d n=true)
  (hk':Ops X n dr ops base (i+1) l (set e d (.agg (vs u))) G K):Ops X n dr ops base i (⟨some d,.load t1 x,t,p,af,none⟩::l) e G K:=by
 subst hver;subst hoff
 obtain ⟨hsz,hv'⟩:=H.sl hk
 obtain ⟨h0,hu⟩:=at?_some hu
 rcases hv' with ⟨rfl,rfl⟩|⟨id',rfl,hb⟩
 ·cases hv
 ·cases hv;refine .plain (x:=.agg (vs u)) (G1:=G) ?_ (λh=>Z0v (ids:=[id]) rfl ?_ (λj hj=>by simp at hj;subst hj;exact ha h)) hd hk'
  ·have hle:iv.toNat*sz+sz<=xs.length*sz:=by rw [<- Zn hsz];exact flat_le hsz hu
   simp only [Z2,hx,Y1,Z1f,hb,Z02,Zn hsz,if_true,hg,hj,if_pos hle,vs_drop,Z40,flat_part hsz hu,Y6]
  ·simp only [touched,ZL,YD,YF,hx,vids,YE]
theorem Ops.storeS {id:Nat} {et:TypeId} {sz j m off ver:Nat} {xs:List (List FV)} {u zs u':List FV} {iv:Int} {w:PV} (H:Has G lo hi L) (k:Nat) (hk:L[k]? = some (.sl v et sz xs true)) (hv:v = .buf id xs.length sz) (hver:ver=xs.length*sz)
  (hu:at? xs iv=some u) (hx:Z0 X e x=some (.ptr id ver off)) (hoff:off=iv.toNat*sz+j) (hy:Z0 X e y=some w) (hw:w.cells=some (vs zs)) (hm:tsize X.P t1=some m) (hz:zs.length=m) (hj:Nat.ble (j+m) sz=true)
  (hu':u.take j++zs++u.drop (j+zs.length)=u') (ha:dr=true->Seen ops base i id true)
  (hk':∀ G',Has G' lo hi (L.set k (.sl v et sz (xs.set iv.toNat u') true))->Ops X n dr ops base (i+1) l e G' K):Ops X n dr ops base i (⟨none,.store t1 x y,t,p,af,none⟩::l) e G K:=by
 subst hver;subst hoff;subst hu'
 obtain ⟨hsz,hv'⟩:=H.sl hk
 obtain ⟨h0,hu⟩:=at?_some hu
 have hj:j+m<=sz:=Yg hj
 have hul:=hsz u (YB hu)
 rcases hv' with ⟨rfl,rfl⟩|⟨id',rfl,hb⟩
 ·cases hv
 ·cases hv;have hsp:=flat_splice hsz hu (off:=j) (zs:=zs) (by omega)
  have hle:iv.toNat*sz+j+m<=(vs xs.flatten).length:=by
   have:=flat_le hsz hu;rw [Z02];omega
  refine .plain0 (x:=.undef) (G1:=G.put id (.blk et (vs (xs.set iv.toNat (u.take j++zs++u.drop (j+zs.length))).flatten) true)) ?_ (λh=>Z2T (ids:=[id]) rfl ?_ (λj hj=>by simp at hj;subst hj;exact ha h))
   (hk' _ (H.put hk rfl (r':=.sl _ et sz _ true) ⟨?_,.inr ⟨id,?_,Z0p⟩⟩ rfl))
  ·have hl2:(vs xs.flatten).length=xs.length*sz:=by rw [Z02,Zn hsz]
   simp only [Z2,hx,hy,Z2S,hb,hl2,if_true,hm,hw,Z02,hz];rw [if_pos ⟨trivial,by rw [<- hl2];exact hle⟩,hsp,hz]
   rfl
  ·simp only [touched,ZL,YD,YF,hx,vids,YE]
  ·intro y hy;rcases List.mem_or_eq_of_mem_set hy with h|rfl
   ·exact hsz y h
   ·simp only [YM,YN,Yn,hul];omega
  ·rw [YQ]
inductive Bring (L:List Res) (sz:Nat):PV->List (List FV)->Prop
 | p {xs:List (List FV)} (h:xs.all (λy=>y.length==sz)=true):Bring L sz (.v (.sl xs)) xs
 | m {α:Type} {c:α->List FV} {xs:List α} (h:∀ a,(c a).length=sz):Bring L sz (.v (.sl (xs.map c))) (xs.map c)
 | s {v:PV} {et:TypeId} {xs:List (List FV)} {lv:Bool} (k:Nat) (h:L[k]? = some (.sl v et sz xs lv)):Bring L sz v xs
theorem brought {sz:Nat} {w:PV} {ys:List (List FV)} (H:Has G lo hi L) (h:Bring L sz w ys):Z1L G sz w=some (vs ys.flatten,ys.length)/\∀ y∈ys,y.length=sz:=by
 cases h with
 | p h=>
  refine ⟨by simp only [Z1L,h,if_true],λy hy=>by have:=List.all_eq_true.1 h y hy;simpa using this⟩
 | @m α c xs h=>
  have h1:(xs.map c).all (λy=>y.length==sz)=true:=by simp [h]
  refine ⟨by simp only [Z1L,h1,if_true],λy hy=>by have:=List.all_eq_true.1 h1 y hy;simpa using this⟩
 | s k h=>
  obtain ⟨hs,hv⟩:=H.sl h;refine ⟨?_,hs⟩;rcases hv with ⟨rfl,rfl⟩|⟨id,rfl,hb⟩
  ·rfl
  ·simp only [Z1L,hb,Z02,Zn hs,and_self,if_true]
theorem Ops.appendS0 {el:TypeId} {sz by_:Nat} {w:PV} {xs ys:List (List FV)} {zs:List PV} (H:Has G lo hi L) (hlo:lo<=base+i) (hhi:base+i<hi) (k:Nat) (hk:L[k]? = some (.sl v el sz xs true))
  (hx:Z0 X e x=some v) (hy:Z0 X e y=some w) (hb:Bring L sz w ys) (ht:tslice X.P t1=some el) (hs:tsize X.P el=some sz) (hby:tbytes X.P el=some by_) (hz:tzero X.P el=some zs)
  (hc:(sz != 0&&by_ != 0&&zs.length==sz)=true) (hroom:(xs.length+ys.length)*by_<=room)
  (ask:dr=true->ZZ X ops base i ⟨some d,.call { callee:=.builtin .append,args:=#[x,y],argTypes:=#[t1,t1] },t,p,af,none⟩ e=true) (hd:Nat.blt d n=true)
  (hk':∀ v' G',Has G' (base+i+1) hi (L.set k (.sl v' el sz (xs++ys) true))->Ops X n dr ops base (i+1) l (set e d v') G' K) :
  Ops X n dr ops base i (⟨some d,.call { callee:=.builtin .append,args:=#[x,y],argTypes:=#[t1,t1] },t,p,af,none⟩::l) e G K:=by
 simp only [Y8,beq_iff_eq,bne_iff_ne,ne_eq] at hc
 obtain ⟨hb1,hb2⟩:=brought H hb
 obtain ⟨hsz,hv⟩:=H.sl hk
 have hall:∀ y∈xs++ys,y.length=sz:=λy hy=>(List.mem_append.1 hy).elim (hsz y) (hb2 y)
 have hn:¬(sz=0\/by_=0\/(some zs).map List.length≠some sz):=by
  rintro (h|h|h)
  ·exact hc.1.1 h
  ·exact hc.1.2 h
  ·exact h (by rw [Y6,hc.2])
 have start:Z2 X (Zr X) e G (base+i) (.call { callee:=.builtin .append,args:=#[x,y],argTypes:=#[t1,t1] })=Z0T X.P G (base+i) t1 v w:=by
  simp only [Z2,ZU,ZG,hx,hy,Y1,Zm,if_true]
 rcases hv with ⟨rfl,rfl⟩|⟨id,rfl,hbl⟩
 ·by_cases h0:ys=[]
  ·subst h0;refine .plain (x:=.nils) (G1:=G) ?_ ask hd (hk' _ _ ((H.weak (YZ hlo (Nat.le_succ _)) (Y9 _)).say hk (r':=.sl .nils el sz ([]++[]) true) ⟨by simp,.inl ⟨rfl,rfl⟩⟩ rfl))
   rw [start];simp only [Z0T,ht,hs,hby,hb1,hz,if_neg hn,Y00,if_true]
  ·have hl:ys.length≠0:=λh=>h0 (List.length_eq_zero_iff.1 h);refine .plain (x:=.buf (base+i) ys.length sz) (G1:=G.put (base+i) (.blk el (vs ys.flatten) true)) ?_ ask hd
    (hk' _ _ (H.renew hk hlo hhi (r':=.sl (.buf (base+i) ys.length sz) el sz ([]++ys) true) ⟨hall,.inr ⟨base+i,rfl,Z0p⟩⟩ rfl))
   rw [start];simp only [Y00,Y02] at hroom;simp only [Z0T,ht,hs,hby,hb1,hz,if_neg hn,if_neg hl,if_pos hroom]
 ·refine .plain (x:=.buf id (xs.length+ys.length) sz) (G1:=G.put id (.blk el (vs xs.flatten++vs ys.flatten) true)) ?_ ask hd
   (hk' _ _ ((H.put hk rfl (r':=.sl (.buf id (xs.length+ys.length) sz) el sz (xs++ys) true) ⟨hall,.inr ⟨id,by rw [YM],?_⟩⟩ rfl).weak (YZ hlo (Nat.le_succ _)) (Y9 _)))
  ·rw [start];simp only [Z0T,ht,hs,hby,hb1,hz,if_neg hn,hbl];rw [if_pos ⟨trivial,trivial,by rw [Z02,Zn hsz],hroom⟩]
  ·rw [Z0p,Yr,Z1P]
def RO (v:PV) (xs:List (List FV)):Prop:=(v = .nils/\xs=[])\/v = .v (.sl xs)
inductive ExpC:List Res->PV->FV->List Res->Prop
 | v {L:List Res} (y:FV):ExpC L (.v y) y L
 | n {L:List Res}:ExpC L .nils (.sl []) L
 | full {L:List Res} (xs:List (List FV)):ExpC L (.full xs) (.sl xs) L
 | ro {L:List Res} {v:PV} {xs:List (List FV)} (h:RO v xs):ExpC L v (.sl xs) L
 | s {L:List Res} {v:PV} {et:TypeId} {sz:Nat} {xs:List (List FV)} {lv:Bool} (k:Nat) (h:L[k]? = some (.sl v et sz xs lv)):ExpC L v (.sl xs) (L.set k (.sl v et sz xs false))
inductive ExpCs:List Res->List PV->List FV->List Res->Prop
 | nil {L:List Res}:ExpCs L [] [] L
 | cons {L L1 L2:List Res} {x:PV} {y:FV} {xs:List PV} {ys:List FV} (h:ExpC L x y L1) (t:ExpCs L1 xs ys L2):ExpCs L (x::xs) (y::ys) L2
inductive ExpV:List Res->PV->PV->List Res->Prop
 | c {L L':List Res} {x:PV} {y:FV} (h:ExpC L x y L'):ExpV L x (.v y) L'
 | a {L L':List Res} {xs:List PV} {ys:List FV} (h:ExpCs L xs ys L'):ExpV L (.agg xs) (.agg (vs ys)) L'
 | p {L:List Res} {x:PV} (h:x.pure=true):ExpV L x x L
inductive ExpVs:List Res->List PV->List PV->List Res->Prop
 | nil {L:List Res}:ExpVs L [] [] L
 | cons {L L1 L2:List Res} {x y:PV} {xs ys:List PV} (h:ExpV L x y L1) (t:ExpVs L1 xs ys L2):ExpVs L (x::xs) (y::ys) L2
theorem Ops.appendS {el:TypeId} {sz by_:Nat} {w:PV} {xs ys:List (List FV)} {zs:List PV} (H:Has G lo hi L) (hlo:lo<=base+i) (hhi:base+i<hi) (k:Nat) (hk:L[k]? = some (.sl v el sz xs true))
  (hx:Z0 X e x=some v) (hy:Z0 X e y=some w) (hb:Bring L sz w ys) (ht:tslice X.P t1=some el) (hs:tsize X.P el=some sz) (hby:tbytes X.P el=some by_) (hz:tzero X.P el=some zs)
  (hc:(sz != 0&&by_ != 0&&zs.length==sz)=true) (hroom:(xs.length+ys.length)*by_<=room)
  (ha:dr=true->∀ id∈vids v++vids w,Seen ops base i id true) (hd:Nat.blt d n=true)
  (hk':∀ v' G',Has G' (base+i+1) hi (L.set k (.sl v' el sz (xs++ys) true))->Ops X n dr ops base (i+1) l (set e d v') G' K) :
  Ops X n dr ops base i (⟨some d,.call { callee:=.builtin .append,args:=#[x,y],argTypes:=#[t1,t1] },t,p,af,none⟩::l) e G K :=
 .appendS0 H hlo hhi k hk hx hy hb ht hs hby hz hc hroom (λh=>Z2T rfl (by simp only [touched,ZL,YD,YF,hx,hy,YE]) (ha h)) hd hk'
theorem Z4P {sz:Nat}:∀ {xs:List (List FV)},(∀ y∈xs,y.length=sz)->chunk sz xs.length xs.flatten=xs
 | [],_=>rfl
 | x::xs,h=>by
  have hx:=h x YU;have:=Z4P (xs:=xs) λy hy=>h y (YO _ hy);simp only [Yi,chunk,YX];rw [<- hx,List.take_left,List.drop_left,hx,this]
theorem Z5f {d:Nat} {G:Heap} (cs:List FV):Zd (ZT (d+1)) G (vs cs)=some (cs,G):=by
 induction cs with
 | nil=>rfl
 | cons c cs ih=>
  simp only [vs,Y03,Zd,ZT,Y1] at ih ⊢;rw [ih];rfl
theorem Z3B {d:Nat} {G:Heap} {id len sz:Nat} {elem:TypeId} {cells:List PV} {lv:Bool} (h:G.ent id = .blk elem cells lv) (hl:cells.length=len*sz) :
  ZT (d+1) G (.buf id len sz)=(Zd (ZT d) (G.put id (.blk elem cells false)) cells).bind λr=>some (.sl (chunk sz len r.1),r.2):=by
 rw [ZT]
 simp only [h,hl,if_true]
theorem expC_ok {x:PV} {y:FV} {L':List Res} (H:Has G lo hi L) (h:ExpC L x y L'):∃ G',ZT 6 G x=some (y,G')/\Has G' lo hi L'/\G'.nx=G.nx:=by
 cases h with
 | v y=>exact ⟨G,rfl,H,rfl⟩
 | n=>exact ⟨G,rfl,H,rfl⟩
 | full xs=>exact ⟨G,rfl,H,rfl⟩
 | ro h=>rcases h with ⟨rfl,rfl⟩|rfl<;>exact ⟨G,rfl,H,rfl⟩
 | @s _ et sz xs lv k h=>
  obtain ⟨hs,hv⟩:=H.sl h;rcases hv with ⟨rfl,rfl⟩|⟨id,rfl,hb⟩
  ·exact ⟨G,rfl,H.say h ⟨by simp,.inl ⟨rfl,rfl⟩⟩ rfl,rfl⟩
  ·refine ⟨G.put id (.blk et (vs xs.flatten) false),?_,H.put h rfl (r':=.sl (.buf id xs.length sz) et sz xs false) ⟨hs,.inr ⟨id,rfl,Z0p⟩⟩ rfl,rfl⟩;rw [Z3B hb (by rw [Z02,Zn hs]),Z5f (d:=4)]
   simp only [Y1,Z4P hs]
theorem expCs_ok:∀ {xs:List PV} {G:Heap} {L L':List Res} {ys:List FV},Has G lo hi L->ExpCs L xs ys L'->∃ G',Z44 G xs=some (ys,G')/\Has G' lo hi L'/\G'.nx=G.nx
 | [],G,L,L',ys,H,h=>by cases h;exact ⟨G,rfl,H,rfl⟩
 | x::xs,G,L,L',ys,H,h=>by
  cases h with
  | cons h t=>
   obtain ⟨G1,q1,q2,q3⟩:=expC_ok H h;obtain ⟨G2,p1,p2,p3⟩:=expCs_ok q2 t;refine ⟨G2,?_,p2,p3.trans q3⟩;unfold Z44 at p1 ⊢;simp only [Zd,q1,Y1,p1]
theorem expV_ok {x y:PV} {L':List Res} (H:Has G lo hi L) (h:ExpV L x y L'):∃ G',Z0D G x=some (y,G')/\Has G' lo hi L'/\G'.nx=G.nx:=by
 cases h with
 | c h=>
  obtain ⟨G',q1,q2,q3⟩:=expC_ok H h
  refine ⟨G',?_,q2,q3⟩;cases h with
  | v y=>simp only [Z0D,q1,Y1]
  | n=>simp only [Z0D,q1,Y1]
  | full xs=>simp only [Z0D,q1,Y1]
  | ro h=>rcases h with ⟨rfl,rfl⟩|rfl<;>simp only [Z0D,q1,Y1]
  | s k h=>
   obtain ⟨_,⟨rfl,rfl⟩|⟨id,rfl,hb⟩⟩:=H.sl h
   ·simp only [Z0D,q1,Y1]
   ·simp only [Z0D,q1,Y1]
 | a h=>
  obtain ⟨G',q1,q2,q3⟩:=expCs_ok H h;exact ⟨G',by simp only [Z0D,q1,Y1],q2,q3⟩
 | p h=>exact ⟨G,Z22 h,H,rfl⟩
theorem expArg_val {x y:PV} {G':Heap} (h:Z0D G x=some (y,G')) (hp:∀ (id ver off:Nat),x ≠ .ptr id ver off) (hc:∀ (f:FuncId) (a c:List PV),x ≠ .clo f a c) (hy:∀ id,x ≠ .yld id):Z1V G x=some (y,G'):=by
 cases x<;>first|exact h|exact absurd rfl (hp _ _ _)|exact absurd rfl (hc _ _ _)|exact absurd rfl (hy _)
theorem Z6F {x y:PV} {L':List Res} (H:Has G lo hi L) (h:ExpV L x y L'):(∀ (id ver off:Nat),x ≠ .ptr id ver off)/\(∀ (f:FuncId) (a c:List PV),x ≠ .clo f a c)/\(∀ id,x ≠ .yld id)/\(∀ xs,x ≠ .tup xs)/\y.pure=true:=by
 cases h with
 | c h=>
  cases h with
  | v y=>exact ⟨by intros;simp,by intros;simp,by intros;simp,by intros;simp,rfl⟩
  | n=>exact ⟨by intros;simp,by intros;simp,by intros;simp,by intros;simp,rfl⟩
  | full xs=>exact ⟨by intros;simp,by intros;simp,by intros;simp,by intros;simp,rfl⟩
  | ro h=>rcases h with ⟨rfl,rfl⟩|rfl<;>exact ⟨by intros;simp,by intros;simp,by intros;simp,by intros;simp,rfl⟩
  | s k h=>
   obtain ⟨_,⟨rfl,rfl⟩|⟨id,rfl,hb⟩⟩:=H.sl h
   ·exact ⟨by intros;simp,by intros;simp,by intros;simp,by intros;simp,rfl⟩
   ·exact ⟨by intros;simp,by intros;simp,by intros;simp,by intros;simp,rfl⟩
 | a h=>exact ⟨by intros;simp,by intros;simp,by intros;simp,by intros;simp,by simp [PV.pure,vs,PV.isV]⟩
 | p h=>cases x<;>simp [PV.pure] at h ⊢;all_goals simp_all
theorem Z3q:∀ {xs:List PV} {G:Heap} {L L':List Res} {ys:List PV},Has G lo hi L->ExpVs L xs ys L'->∃ G',Z0S G xs=some (ys,G')/\Zu G xs=some (ys,G')/\Has G' lo hi L'/\G'.nx=G.nx/\ys.all PV.pure=true
 | [],G,L,L',ys,H,h=>by cases h;exact ⟨G,rfl,rfl,H,rfl,rfl⟩
 | x::xs,G,L,L',ys,H,h=>by
  cases h with
  | cons h t=>
   obtain ⟨G1,q1,q2,q3⟩:=expV_ok H h;obtain ⟨s1,s2,s3,_,s4⟩:=Z6F H h;obtain ⟨G2,p1,p1',p2,p3,p4⟩:=Z3q q2 t;refine ⟨G2,?_,?_,p2,p3.trans q3,by simp [s4,p4]⟩
   ·simp only [Z0S,q1,Y1,p1]
   ·simp only [Zu,expArg_val q1 s1 s2 s3,Y1,p1']
inductive ExpR (L:List Res):List PV->PV->List Res->Prop
 | one {x y:PV} {L':List Res} (h:ExpV L x y L'):ExpR L [x] y L'
 | two {x x':PV} {xs ys:List PV} {L':List Res} (h:ExpVs L (x::x'::xs) ys L'):ExpR L (x::x'::xs) (.tup ys) L'
 | zero:ExpR L [] (.tup []) L
theorem expR_ok {xs:List PV} {y:PV} {L':List Res} (H:Has G lo hi L) (h:ExpR L xs y L'):∃ G',Z0B G (Z0Q xs)=some (y,G')/\Has G' lo hi L':=by
 cases h with
 | @one x _ _ h=>
  obtain ⟨G',q1,q2,_⟩:=expV_ok H h;obtain ⟨_,_,_,s4,_⟩:=Z6F H h;refine ⟨G',?_,q2⟩;show Z0B G x=_;cases x<;>first|exact q1|exact absurd rfl (s4 _)
 | two h=>
  obtain ⟨G',q1,_,q2,_⟩:=Z3q H h;exact ⟨G',by simp only [Z0Q,Z0B,q1,Y1],q2⟩
 | zero=>exact ⟨G,rfl,H⟩
theorem callL_exp {f:FuncId} {args args':List PV} {r:PV} {G':Heap} (hF:Fn X f args' r) (hi0:X.intr f args=none) (ht:X.thaw f=false\/G'=G) (he:Zu G args=some (args',G')):Zr X (.fn f) args G=some (r,G'):=by
 obtain ⟨k,hk⟩:=Z07.1 (hF.call G')
 refine Z07.2 ⟨k,?_⟩
 cases k with
 | zero=>simp [Zp] at hk
 | succ k=>
  simp only [Zp,hF.keep,YA,if_false,Z0W hF.pure,hF.opn,hF.pure,if_true] at hk;simp only [Zp,hi0,hF.keep,YA,if_false,he,hF.opn,hF.pure,if_true];cases hi1:X.intr f args' with
  | some r'=>simp only [hi1] at hk ⊢;exact hk
  | none=>
   simp only [hi1,ite_self] at hk ⊢;rcases ht with ht|rfl
   ·simp only [ht,Bool.false_and,YA,if_false];exact hk
   ·simp only [ite_self];exact hk
theorem Z6O {f:FuncId} {args args':List PV} {r:PV} {G':Heap} (hF:Fn X f args' r) (hi0:X.intr f args=none) (hi1:X.intr f args'=none) (ht:X.thaw f=true) (hn:r.Z2c=true) (he:Zu G args=some (args',G')):Zr X (.fn f) args G=some (r,G):=by
 obtain ⟨k,hk⟩:=Z07.1 (hF.call G')
 refine Z07.2 ⟨k,?_⟩
 cases k with
 | zero=>simp [Zp] at hk
 | succ k=>
  simp only [Zp,hi1,hF.keep,YA,if_false,Z0W hF.pure,hF.opn,hF.pure,if_true,ite_self,Y3,Y0,Y2] at hk;obtain ⟨q,h1,s,h2,rfl,_⟩:=hk;simp only [Zp,hi0,hi1,hF.keep,YA,if_false,he,hF.opn,hF.pure,if_true,h1,Y1,h2,Y6,ht,hn,Yx]
theorem Ops.callT {f:FuncId} {args:Array Operand} {ts:Array TypeId} {xs ys:List PV} {r:PV} {L':List Res} (H:Has G lo hi L) (ha:ZG X e args.toList=some xs) (hE:ExpVs L xs ys L') (hf:Fn X f ys r) (hi0:X.intr f xs=none) (hi1:X.intr f ys=none) (ht:X.thaw f=true) (hn:r.Z2c=true) (hdr:dr=true->Z18 (Region.before ops) ops i=true) (hd:Nat.blt d n=true)
  (hk:Ops X n dr ops base (i+1) l (set e d r) G K) :
  Ops X n dr ops base i (⟨some d,.call { callee:=.value (.func f),args:=args,argTypes:=ts },t,p,af,none⟩::l) e G K:=by
 obtain ⟨G',q1,q2,q3,_⟩:=Z3q H hE
 exact .plain (x:=r) (G1:=G) (by simp only [Z2,ZU,ha,Z0,Z6O hf hi0 hi1 ht hn q2]) (λh=>Z3D (hdr h)) hd hk
theorem Ops.callX {f:FuncId} {args:Array Operand} {ts:Array TypeId} {xs ys:List PV} {r:PV} {L':List Res} (H:Has G lo hi L) (ha:ZG X e args.toList=some xs) (hE:ExpVs L xs ys L') (hf:Fn X f ys r) (hi0:X.intr f xs=none) (hi1:X.thaw f=false) (hdr:dr=true->Z18 (Region.before ops) ops i=true) (hd:Nat.blt d n=true)
  (hk:∀ G',Has G' lo hi L'->Ops X n dr ops base (i+1) l (set e d r) G' K) :
  Ops X n dr ops base i (⟨some d,.call { callee:=.value (.func f),args:=args,argTypes:=ts },t,p,af,none⟩::l) e G K:=by
 obtain ⟨G',q1,q2,q3,_⟩:=Z3q H hE
 exact .plain (x:=r) (G1:=G') (by simp only [Z2,ZU,ha,Z0,callL_exp hf hi0 (.inl hi1) q2]) (λh=>Z3D (hdr h)) hd (hk G' q3)
abbrev Hs (G:Heap) (L:List Res):Prop:=Has G G.nx G.nx L
def ZA (e:Env):List (Nat×PV)->Prop
 | []=>True
 | (k,v)::l=>e k=v/\ZA e l
def sets (e:Env):List (Nat×PV)->Env
 | []=>e
 | (k,v)::l=>set (sets e l) k v
theorem ZA.eq:∀ {l:List (Nat×PV)} {e:Env},ZA e l->e=sets e l
 | [],e,_=>rfl
 | (k,v)::l,e,⟨h,t⟩=>by
  have ih:=ZA.eq t
  funext j
  simp only [sets,set];cases hj:Nat.beq j k with
  | true=>rw [Yv hj];exact h
  | false=>exact congrFun ih j
theorem ZA.ex {l:List (Nat×PV)} {e:Env} (h:ZA e l):∃ e0,e=sets e0 l:=⟨e,h.eq⟩
theorem holds_ent {r:Res} {G G':Heap} (h:r.holds G) (he:G'.ent=G.ent) (hn:G.nx<=G'.nx):r.holds G':=by
 cases r with
 | blk id t cells=>show G'.ent id=_;rw [he];exact h
 | sl v e sz xs live=>exact ⟨h.1,h.2.imp (λh=>h) λ⟨id,hv,hb⟩=>⟨id,hv,by rw [he];exact hb⟩⟩
 | floor m=>exact YZ h hn
 | hole id=>trivial
 | loop id fn e n ps as_ bo st pd=>show G'.ent id=_;rw [he];exact h
 | mp id kv=>show G'.ent id=_;rw [he];exact h
 | fix id en=>show G'.ent id=_;rw [he];exact h
theorem Has.enter (H:Hs G L) (m:Nat):Has ⟨G.nx+m,G.ent⟩ G.nx (G.nx+m) L :=
 ⟨λk r hk=>holds_ent (H.holds k r hk) rfl (Nat.le_add_right _ _),λk r hk id ho=>⟨.inl (H.lt k r hk id ho).2,YJ (H.lt k r hk id ho).2 (Nat.le_add_right _ _)⟩,H.sep,Y9 _⟩
theorem Runs.ZS {id:Nat} {os:List Oper} (m:Nat) (hm:os.length=m) (H:Hs G L) (h:∀ base G',Has G' base (base+m) L->Ops X n false os.toArray base 0 os e G' (Q .normal)):Runs X n fn (.region id os.toArray false) e G Q:=by
 subst hm
 have h:=h G.nx _ (H.enter os.length)
 exact Runs.region (m':=G.nx+os.length) rfl h
theorem Runs.Z0d {id:Nat} {os:List Oper} (m:Nat) (hm:os.length=m) (hd:Z1i os.toArray=true) (H:Hs G L) (h:∀ base G',Has G' base (base+m) L->(∀ (k:Nat) (r:Res),L[k]? = some r->∀ id,r.owner=some id->id<base)->Ops X n true os.toArray base 0 os e G' (Q .normal)):Runs X n fn (.region id os.toArray true) e G Q:=by
 subst hm
 have h:=h G.nx _ (H.enter os.length) (λk r hk id ho=>(H.lt k r hk id ho).2)
 exact Runs.drawn (m':=G.nx+os.length) hd rfl h
theorem Z4E {call:Zi}:∀ (l1 l2:List Oper) (i:Nat) (e:Env) (G:Heap),Z0m X call n ops base i (l1++l2) e G=(Z0m X call n ops base i l1 e G).bind λr=>Z0m X call n ops base (i+l1.length) l2 r.1 r.2
 | [],l2,i,e,G=>rfl
 | o::l1,l2,i,e,G=>by
  simp only [Y0C,Z0m,Yi];cases Z0A X call n ops base i o e G with
  | none=>rfl
  | some r=>
   simp only [Y1];rw [Z4E l1 l2 (i+1) r.1 r.2,show i+1+l1.length=i+(l1.length+1) by omega]
theorem Z3X {call:Zi}:∀ (l1 l2:List Oper) (i:Nat) (e:Env) (G:Heap),Z0R X call n ops base i (l1++l2) e G=(Z0R X call n ops base i l1 e G).bind λr=>Z0R X call n ops base (i+l1.length) l2 r.1 r.2
 | [],l2,i,e,G=>rfl
 | o::l1,l2,i,e,G=>by
  simp only [Y0C,Z0R,Yi];cases Zx X call n ops base i o e G with
  | none=>rfl
  | some r=>
   simp only [Y1];rw [Z3X l1 l2 (i+1) r.1 r.2,show i+1+l1.length=i+(l1.length+1) by omega]
theorem Ops.mid (k:Nat) {K1:Env->Heap->Prop} (hk:Nat.ble k l.length=true) (h1:Ops X n dr ops base i (l.take k) e G K1) (h2:∀ e G,K1 e G->Ops X n dr ops base (i+k) (l.drop k) e G K):Ops X n dr ops base i l e G K:=by
 obtain ⟨e1,G1,q1,q2⟩:=h1.run
 obtain ⟨e2,G2,p1,p2⟩:=(h2 e1 G1 q2).run
 have hl:(l.take k).length=k:=by rw [YN];have:=Yg hk;omega
 refine ⟨⟨e2,G2,?_,p2⟩⟩
 cases dr with
 | false=>
  simp only [YA,if_false] at q1 p1 ⊢;rw [<- Yw k l,Z4E,q1,Y1,hl];exact p1
 | true=>
  simp only [if_true] at q1 p1 ⊢;rw [<- Yw k l,Z3X,q1,Y1,hl];exact p1
def Z1e {S R:Type} (step:S->Option (S⊕R)):Nat->S->Option R
 | 0,_=>none
 | k+1,s=>match step s with
  | some (.inl s')=>Z1e step k s'
  | some (.inr r)=>some r
  | none=>none
def LoopEnd {S R:Type} (I:S->Env->Heap->Prop) (J:R->Ex->Env->Heap->Prop):S⊕R->Ex->Env->Heap->Prop
 | .inl s,x,e,G=>x = .normal/\I s e G
 | .inr r,x,e,G=>x ≠ .normal/\J r x e G
theorem Runs.loopO {S R:Type} {step:S->Option (S⊕R)} {s:S} {y:R} {k:Nat} (h:Z1e step k s=some y) (I:S->Env->Heap->Prop) (J:R->Ex->Env->Heap->Prop) (h0:I s e G)
  (hs:∀ s e G,I s e G->∀ z,step s=some z->Runs X n fn c e G (LoopEnd I J z)):Runs X n fn (.loop c) e G (J y):=by
 refine Runs.loop (λm e G=>∃ s,Z1e step m s=some y/\I s e G) (m:=k) ⟨s,h,h0⟩ ?_
 rintro m e G ⟨s,h1,h2⟩
 cases m with
 | zero=>cases h1
 | succ m=>
  simp only [Z1e] at h1
  split at h1
  ·rename_i s' hst;refine (hs s e G h2 _ hst).mono ?_;rintro x e' G' ⟨rfl,hI⟩;exact ⟨m,Nat.lt_succ_self m,s',h1,hI⟩
  ·rename_i r hst;cases h1;refine (hs s e G h2 _ hst).mono ?_;rintro x e' G' ⟨hx,hJ⟩;cases x with
   | normal=>exact absurd rfl hx
   | exit id=>exact hJ
   | ret=>exact hJ
  ·cases h1
end
noncomputable def loopO {S R:Type} (step:S->Option (S⊕R)) (s:S):Option R :=
 open Classical in if h:∃ r,∃ k,Z1e step k s=some r then some h.choose else none
theorem Z4O {S R:Type} {step:S->Option (S⊕R)}:∀ {k:Nat} {s:S} {r:R},Z1e step k s=some r->∀ {m:Nat},k<=m->Z1e step m s=some r
 | 0,s,r,h,_,_=>by cases h
 | k+1,s,r,h,m,hm=>by
  obtain ⟨m,rfl⟩ : ∃ j,m=j+1:=⟨m-1,by omega⟩
  simp only [Z1e] at h ⊢
  split at h
  ·rename_i s' hs;exact Z4O h (by omega)
  ·exact h
  ·cases h
theorem ZV {S R:Type} {step:S->Option (S⊕R)} {s:S} {r:R}:loopO step s=some r ↔ ∃ k,Z1e step k s=some r:=by
 unfold loopO
 constructor
 ·intro h
  split at h
  ·rename_i hex;cases h;exact hex.choose_spec
  ·cases h
 ·rintro ⟨k,h⟩;have hex:∃ r,∃ k,Z1e step k s=some r:=⟨r,k,h⟩;rw [dif_pos hex];obtain ⟨k',h'⟩:=hex.choose_spec;have e1:=Z4O h (Nat.le_max_left k k');have e2:=Z4O h' (Nat.le_max_right k k');rw [e1] at e2;exact e2.symm
theorem loopO_eq {S R:Type} (step:S->Option (S⊕R)) (s:S):loopO step s=match step s with|some (.inl s')=>loopO step s'|some (.inr r)=>some r|none=>none:=by
 cases hs:step s with
 | none=>
  cases h:loopO step s with
  | none=>rfl
  | some r=>
   obtain ⟨k,hk⟩:=ZV.1 h
   cases k with
   | zero=>cases hk
   | succ k=>simp [Z1e,hs] at hk
 | some z=>
  cases z with
  | inr r=>exact ZV.2 ⟨1,by simp [Z1e,hs]⟩
  | inl s'=>
   simp only;cases h:loopO step s' with
   | some r=>
    obtain ⟨k,hk⟩:=ZV.1 h;exact ZV.2 ⟨k+1,by simp only [Z1e,hs];exact hk⟩
   | none=>
    cases h2:loopO step s with
    | none=>rfl
    | some r=>
     obtain ⟨k,hk⟩:=ZV.1 h2
     cases k with
     | zero=>cases hk
     | succ k=>
      simp only [Z1e,hs] at hk;rw [ZV.2 ⟨k,hk⟩] at h;cases h
inductive Jx (A R:Type) where
 | go (a:A)
 | ret (r:R)
theorem bind_some {α β:Type} {x:Option α} {f:α->Option β} {b:β} (h:x.bind f=some b):∃ a,x=some a/\f a=some b:=Option.bind_eq_some_iff.1 h
theorem cond_T {α:Type} {c:Bool} {a b r:α} (hc:c=true) (h:(bif c then a else b)=r):a=r:=by rw [hc] at h;exact h
theorem cond_F {α:Type} {c:Bool} {a b r:α} (hc:c=false) (h:(bif c then a else b)=r):b=r:=by rw [hc] at h;exact h
section
variable {X:Ctx} {n:Nat} {fn:FuncId} {e:Env} {G:Heap} {lo hi:Nat} {L:List Res}
inductive ResD (P:Program) (e:Env) (L:List Res):List ResultVar->List PV->Prop
 | nil:ResD P e L [] []
 | tmp {t:Nat} {v:PV} {rs:List ResultVar} {xs:List PV} (h:e t=v) (k:ResD P e L rs xs):ResD P e L (.tmp t::rs) (v::xs)
 | cell {a:Nat} {t:TypeId} {id off ver:Nat} {te:TypeId} {cells:List PV} {v:PV} {rs:List ResultVar} {xs:List PV} (i:Nat) (hi:L[i]? = some (.blk id te cells)) (h:e a = .ptr id ver off) (hv:cells.length=ver) (hg:tagg P t=some false) (hc:cells[off]? = some v) (k:ResD P e L rs xs):ResD P e L (.cell a t::rs) (v::xs)
 | agg {a:Nat} {t:TypeId} {id off ver m:Nat} {te:TypeId} {cells cs:List PV} {rs:List ResultVar} {xs:List PV} (i:Nat) (hi:L[i]? = some (.blk id te cells)) (h:e a = .ptr id ver off) (hv:cells.length=ver) (hg:tagg P t=some true) (hm:tsize P t=some m) (hl:Nat.ble (off+m) cells.length=true) (hc:(cells.drop off).take m=cs) (k:ResD P e L rs xs):ResD P e L (.cell a t::rs) (.agg cs::xs)
theorem Z0C {P:Program} {rs:List ResultVar} {xs:List PV} (H:Has G lo hi L) (h:ResD P e L rs xs):Zl P e G rs=some xs:=by
 induction h with
 | nil=>rfl
 | tmp h k ih=>simp only [Zl,ih,Y6,h]
 | cell i hi h hv hg hc k ih=>simp only [Zl,h,Z1f,H.blk hi,hv,if_true,hg,hc,Y1,ih,Y6]
 | agg i hi h hv hg hm hl hc k ih=>
  have h2:=Yg hl;rw [hv] at h2;simp only [Zl,h,Z1f,H.blk hi,hv,if_true,hg,hm,if_pos h2,hc,Y1,ih,Y6]
theorem Ends.H {rs:List ResultVar} {xs:List PV} {r:PV} {x:Ex} {L':List Res} (hx:x = .normal\/x = .ret) (H:Has G lo hi L) (h:ResD X.P e L rs xs) (hr:ExpR L xs r L'):Ends X rs r x e G:=by
 obtain ⟨G',q,_⟩:=expR_ok H hr
 exact ⟨hx,xs,G',Z0C H h,q⟩
structure EndsH (X:Ctx) (rs:List ResultVar) (r:PV) (L:List Res) (x:Ex) (e:Env) (G:Heap):Prop where
 out:(x = .normal\/x = .ret)/\∃ xs G' lo hi,Zl X.P e G rs=some xs/\Z0B G (Z0Q xs)=some (r,G')/\Has G' lo hi L
theorem Has.drop (H:Has G lo hi L):∀ n:Nat,Has G lo hi (L.drop n)
 | 0=>H
 | n+1=>by
  have h1:=(Has.drop H n).erase 0
  rwa [List.eraseIdx_zero,List.tail_drop] at h1
theorem EndsH.H {rs:List ResultVar} {xs:List PV} {r:PV} {x:Ex} {L' L0:List Res} (hx:x = .normal\/x = .ret) (H:Has G lo hi L) (h:ResD X.P e L rs xs) (hr:ExpR L xs r L') (k:Nat) (hk:L'.drop k=L0):EndsH X rs r L0 x e G:=by
 obtain ⟨G',q,H'⟩:=expR_ok H hr
 exact ⟨hx,xs,G',lo,hi,Z0C H h,q,hk▸H'.drop k⟩
end
end Go.Dn

namespace Go.Dn
open Go
def rangeY {S T:Type} (yb:S->T->Option (S×Nat)):S×Nat->T->Option ((S×Nat)×Bool):=λs t=>if s.2=0 then (yb s.1 t).map λr=>(r,r.2==0) else none
def cI (k:IntKind) (x:Int):List FV:=[.int k x]
def cB (x:Bool):List FV:=[.bool x]
def cS (x:ByteArray):List FV:=[.str x]
def cL {α:Type} (c:α->List FV) (x:List α):List FV:=[.sl (x.map c)]
abbrev w64 (x:Int):Int:=IntKind.i64.wrap x
def nz? (b:Int):Option Unit:=if b=0 then none else some ()
theorem nz_ne {b:Int} {u:Unit} (h:nz? b=some u):b≠0:=by
 unfold nz? at h
 split at h
 ·cases h
 ·assumption
abbrev iAnd (k:IntKind) (x y:Int):Int:=k.wrap (BitVec.ofInt k.bits x &&& BitVec.ofInt k.bits y).toNat
abbrev iOr (k:IntKind) (x y:Int):Int:=k.wrap (BitVec.ofInt k.bits x ||| BitVec.ofInt k.bits y).toNat
abbrev iXor (k:IntKind) (x y:Int):Int:=k.wrap (BitVec.ofInt k.bits x ^^^ BitVec.ofInt k.bits y).toNat
abbrev iAndNot (k:IntKind) (x y:Int):Int:=k.wrap (BitVec.ofInt k.bits x &&& ~~~ BitVec.ofInt k.bits y).toNat
abbrev iMin (x y:Int):Int:=if y<x then y else x
abbrev iMax (x y:Int):Int:=if y>x then y else x
def winA (n:Int) (m:Nat):Option Unit:=if 0<=n/\n.toNat<m then some () else none
def winB (n:Int) (m:Nat):Option Unit:=if 0<n/\n.toNat<=m then some () else none
def dbl {α:Type} (xs:List α) (a:Nat):List α:=xs.take a++(xs.take a).take (xs.length-a)++xs.drop (a+min a (xs.length-a))
def some? {α:Type} (l:List α):Option Unit:=match l with|[]=>none|_::_=>some ()
def back? (l:List Bool) (i:Int):Option Unit:=if at? l i=some false then some () else none
def clone? {α:Type} (by_:Nat) (l:List α):Option (List α):=if l.length*by_<=room then some l else none
def gcd? (a b:Int):Option Int:=if (0<=a/\a<=18446744073709551615)/\0<=b/\b<=18446744073709551615 then some (Int.gcd a b) else none
def Jx.elim {A R B:Type} (j:Jx A R) (g:R->Option B) (f:A->Option B):Option B:=match j with | .go a=>f a | .ret r=>g r
theorem jgo {A R B:Type} {a:A} {g:R->Option B} {f:A->Option B} {b:B} (h:(Jx.go a:Jx A R).elim g f=some b):f a=some b:=h
theorem jret {A R B:Type} {r:R} {g:R->Option B} {f:A->Option B} {b:B} (h:(Jx.ret r:Jx A R).elim g f=some b):g r=some b:=h
theorem or_T {c t:Bool} (h:c=true):PV.v (.bool true) = .v (.bool (c||t)):=by rw [h];rfl
theorem or_F {c t:Bool} (h:c=false):PV.v (.bool t) = .v (.bool (c||t)):=by rw [h];rfl
theorem Z0h {c t:Bool} (h:c=true):PV.v (.bool t) = .v (.bool (c&&t)):=by rw [h];rfl
theorem Z0j {c t:Bool} (h:c=false):PV.v (.bool false) = .v (.bool (c&&t)):=by rw [h];rfl
section
variable {X:Ctx} {n:Nat} {dr:Bool} {fn:FuncId} {ops:Array Oper} {base i:Nat} {l:List Oper} {e:Env} {G:Heap} {K:Env->Heap->Prop} {Q:Ex->Env->Heap->Prop} {c a b:Code}
variable {d:Nat} {t t1 t2:TypeId} {p:String} {af:Array Edge} {x y z:Operand} {v:PV} {lo hi:Nat} {L:List Res}
theorem Ops.lenPt {α:Type} {c:α->List FV} {xs:List α} {el:TypeId} (hx:Z0 X e x=some (.v (.sl (xs.map c)))) (ht:tslice X.P t1=some el) (hd:Nat.blt d n=true)
  (hk':Ops X n dr ops base (i+1) l (set e d (.v (.int .i64 xs.length))) G K):Ops X n dr ops base i (⟨some d,.call { callee:=.builtin .len,args:=#[x],argTypes:=#[t1] },t,p,af,none⟩::l) e G K:=by
 refine Ops.lenP (af2:=#[]) hx ht hd ?_
 rw [YG];exact hk'
theorem Ops.lenSt {α:Type} {c:α->List FV} {xs:List α} {el et:TypeId} {sz:Nat} {lv:Bool} (H:Has G lo hi L) (k:Nat) (hk:L[k]? = some (.sl v et sz (xs.map c) lv)) (hx:Z0 X e x=some v) (ht:tslice X.P t1=some el)
  (ha:dr=true->∀ id,v.owner=some id->Seen ops base i id false) (hd:Nat.blt d n=true)
  (hk':Ops X n dr ops base (i+1) l (set e d (.v (.int .i64 xs.length))) G K):Ops X n dr ops base i (⟨some d,.call { callee:=.builtin .len,args:=#[x],argTypes:=#[t1] },t,p,af,none⟩::l) e G K:=by
 refine Ops.lenS H k hk hx ht ha hd ?_
 rw [YG];exact hk'
theorem Z1o {v:PV} {id:Nat} (h:id∈vids v) (hv:∀ i v' o,v ≠ .ptr i v' o):v.owner=some id:=by
 cases v<;>simp [vids] at h
 ·exact h▸rfl
 ·exact absurd rfl (hv _ _ _)
 ·exact h▸rfl
theorem Z3Y {sz:Nat} {w:PV} {ys:List (List FV)} (H:Has G lo hi L) (h:Bring L sz w ys):∀ i v' o,w ≠ .ptr i v' o:=by
 intro i v' o e
 subst e
 cases h with
 | s k h=>obtain ⟨_,⟨h,_⟩|⟨_,h,_⟩⟩:=H.sl h<;>cases h
theorem Ops.appendSt {α:Type} {c:α->List FV} {xs ys r:List α} {el:TypeId} {sz by_:Nat} {w:PV} {zs:List PV} (H:Has G lo hi L) (hlo:lo<=base+i) (hhi:base+i<hi) (k:Nat) (hk:L[k]? = some (.sl v el sz (xs.map c) true))
  (hx:Z0 X e x=some v) (hy:Z0 X e y=some w) (hb:Bring L sz w (ys.map c)) (hr:app? by_ xs ys=some r) (ht:tslice X.P t1=some el) (hs:tsize X.P el=some sz) (hby:tbytes X.P el=some by_) (hz:tzero X.P el=some zs)
  (hc:(sz != 0&&by_ != 0&&zs.length==sz)=true)
  (ha:dr=true->(∀ id,v.owner=some id->Seen ops base i id true)/\(∀ id,w.owner=some id->Seen ops base i id true)) (hd:Nat.blt d n=true)
  (hk':∀ v' G',Has G' (base+i+1) hi (L.set k (.sl v' el sz (r.map c) true))->Ops X n dr ops base (i+1) l (set e d v') G' K) :
  Ops X n dr ops base i (⟨some d,.call { callee:=.builtin .append,args:=#[x,y],argTypes:=#[t1,t1] },t,p,af,none⟩::l) e G K:=by
 unfold app? at hr
 split at hr
 ·rename_i hroom;cases hr;refine Ops.appendS H hlo hhi k hk hx hy hb ht hs hby hz hc (by simpa using hroom) (λh id hid=>?_) hd ?_
  ·rcases List.mem_append.1 hid with hid|hid
   ·refine (ha h).1 id (Z1o hid ?_);intro i v' o e;subst e;obtain ⟨_,⟨h,_⟩|⟨_,h,_⟩⟩:=H.sl hk<;>cases h
   ·exact (ha h).2 id (Z1o hid (Z3Y H hb))
  ·rw [Y08] at hk';exact hk'
 ·cases hr
theorem Ops.Z5A {α:Type} {c:α->List FV} {xs ys r:List α} {el:TypeId} {sz by_ id m:Nat} {w:PV} {zs:List PV} (H:Has G lo hi L) (hlo:lo<=base+i) (hhi:base+i<hi) (k:Nat) (hk:L[k]? = some (.sl (.buf id m sz) el sz (xs.map c) true))
  (hx:Z0 X e x=some (.buf id m sz)) (hy:Z0 X e y=some w) (hb:Bring L sz w (ys.map c)) (hr:app? by_ xs ys=some r) (ht:tslice X.P t1=some el) (hs:tsize X.P el=some sz) (hby:tbytes X.P el=some by_) (hz:tzero X.P el=some zs)
  (hc:(sz != 0&&by_ != 0&&zs.length==sz)=true)
  (ha:dr=true->(∀ id',(PV.buf id m sz).owner=some id'->Seen ops base i id' true)/\(∀ id,w.owner=some id->Seen ops base i id true)) (hd:Nat.blt d n=true)
  (hk':∀ G',Has G' (base+i+1) hi (L.set k (.sl (.buf id r.length sz) el sz (r.map c) true))->Ops X n dr ops base (i+1) l (set e d (.buf id r.length sz)) G' K) :
  Ops X n dr ops base i (⟨some d,.call { callee:=.builtin .append,args:=#[x,y],argTypes:=#[t1,t1] },t,p,af,none⟩::l) e G K:=by
 unfold app? at hr
 split at hr
 ·rename_i hroom;cases hr;simp only [Y8,beq_iff_eq,bne_iff_ne,ne_eq] at hc;obtain ⟨hb1,hb2⟩:=brought H hb;obtain ⟨hsz,hv⟩:=H.sl hk;rcases hv with ⟨h,_⟩|⟨id',hid,hbl⟩
  ·cases h
  cases hid;have hall:∀ y∈xs.map c++ys.map c,y.length=sz:=λy hy=>(List.mem_append.1 hy).elim (hsz y) (hb2 y);have hn:¬(sz=0\/by_=0\/(some zs).map List.length≠some sz):=by
   rintro (h|h|h)
   ·exact hc.1.1 h
   ·exact hc.1.2 h
   ·exact h (by rw [Y6,hc.2])
  have ask:dr=true->ZZ X ops base i ⟨some d,.call { callee:=.builtin .append,args:=#[x,y],argTypes:=#[t1,t1] },t,p,af,none⟩ e=true:=λh=>
   Z2T (ids:=vids (PV.buf id (xs.map c).length sz)++vids w) rfl (by simp only [touched,ZL,YD,YF,hx,hy,YE]) (λid2 hid2=>by
    rcases List.mem_append.1 hid2 with hid2|hid2
    ·exact (ha h).1 id2 (Z1o hid2 (by intros;simp))
    ·exact (ha h).2 id2 (Z1o hid2 (Z3Y H hb)))
  have start:Z2 X (Zr X) e G (base+i) (.call { callee:=.builtin .append,args:=#[x,y],argTypes:=#[t1,t1] })=Z0T X.P G (base+i) t1 (.buf id (xs.map c).length sz) w:=by
   simp only [Z2,ZU,ZG,hx,hy,Y1,Zm,if_true]
  refine .plain (x:=.buf id (xs++ys).length sz) (G1:=G.put id (.blk el (vs (xs.map c).flatten++vs (ys.map c).flatten) true)) ?_ ask hd
   (hk' _ ((H.put hk rfl (r':=.sl (.buf id (xs++ys).length sz) el sz ((xs++ys).map c) true) ⟨by rw [Y08];exact hall,.inr ⟨id,by rw [YG],?_⟩⟩ rfl).weak (YZ hlo (Nat.le_succ _)) (Y9 _)))
  ·rw [start];simp only [Z0T,ht,hs,hby,hb1,hz,if_neg hn,hbl];rw [if_pos ⟨trivial,trivial,by rw [Z02,Zn hsz],by simpa using hroom⟩]
   simp only [YG,YM]
  ·rw [Z0p,Y08,Yr,Z1P]
 ·cases hr
def cpy {α:Type} (xs ys:List α):List α:=ys.take (min ys.length xs.length)++xs.drop (min ys.length xs.length)
theorem Z37 {sz:Nat}:∀ {ys:List (List FV)},(∀ y∈ys,y.length=sz)->∀ k,ys.flatten.take (k*sz)=(ys.take k).flatten
 | [],_,k=>by simp
 | y::ys,h,0=>by simp
 | y::ys,h,k+1=>by
  have hy:=h y YU;have ih:=Z37 (ys:=ys) (λz hz=>h z (YO _ hz)) k;rw [YX,List.take_succ_cons,YX,Nat.succ_mul,Nat.add_comm (k*sz) sz,<- hy,List.take_length_add_append,hy,ih]
theorem Z4Q {sz:Nat}:∀ {ys:List (List FV)},(∀ y∈ys,y.length=sz)->∀ k,ys.flatten.drop (k*sz)=(ys.drop k).flatten
 | [],_,k=>by simp
 | y::ys,h,0=>by simp
 | y::ys,h,k+1=>by
  have hy:=h y YU;have ih:=Z4Q (ys:=ys) (λz hz=>h z (YO _ hz)) k;rw [YX,List.drop_succ_cons,Nat.succ_mul,Nat.add_comm (k*sz) sz,<- hy,List.drop_length_add_append,hy,ih]
theorem Ops.copyS {α:Type} {c:α->List FV} {xs ys:List α} {el:TypeId} {sz m:Nat} {w:PV} {t9:TypeId} {id:Nat} (H:Has G lo hi L) (k:Nat) (hk:L[k]? = some (.sl v el sz (xs.map c) true)) (hv:v = .buf id m sz)
  (hx:Z0 X e x=some v) (hy:Z0 X e y=some w) (hb:Bring L sz w (ys.map c)) (ht:tslice X.P t1=some el) (hs:tsize X.P el=some sz)
  (ha:dr=true->(∀ id,v.owner=some id->Seen ops base i id true)/\(∀ id,w.owner=some id->Seen ops base i id true)) (hd:Nat.blt d n=true)
  (hk':∀ G',Has G' lo hi (L.set k (.sl v el sz ((cpy xs ys).map c) true))->Ops X n dr ops base (i+1) l (set e d (.v (.int .i64 (min ys.length xs.length:Nat)))) G' K) :
  Ops X n dr ops base i (⟨some d,.call { callee:=.builtin .copy,args:=#[x,y],argTypes:=#[t1,t9] },t,p,af,none⟩::l) e G K:=by
 obtain ⟨hb1,hb2⟩:=brought H hb
 obtain ⟨hsz,hv'⟩:=H.sl hk
 subst hv
 rcases hv' with ⟨h,_⟩|⟨id',hid,hbl⟩
 ·cases h
 cases hid
 have hl2:(vs (xs.map c).flatten).length=(xs.map c).length*sz:=by rw [Z02,Zn hsz]
 have hcp:splice (vs (xs.map c).flatten) 0 ((vs (ys.map c).flatten).take (min (ys.map c).length (xs.map c).length*sz))=vs ((cpy xs ys).map c).flatten:=by
  rw [Z40,Z37 hb2];unfold splice;rw [List.take_zero,List.nil_append,Z02,Y02,vs_drop,Zn (sz:=sz) (λy hy=>hb2 y (YV hy)),Z4Q hsz,<- Z1P,<- Yr]
  congr 1
  unfold cpy;rw [Y08,Y0E,List.map_drop];simp only [YN,YG]
  congr 3
  omega
 refine .plain (x:=.v (.int .i64 (min ys.length xs.length:Nat))) (G1:=G.put id (.blk el (vs ((cpy xs ys).map c).flatten) true)) ?_ (λh=>Z2T rfl rfl ?_) hd
  (hk' _ (H.put hk rfl (r':=.sl (.buf id (xs.map c).length sz) el sz ((cpy xs ys).map c) true) ⟨λy hy=>?_,.inr ⟨id,?_,Z0p⟩⟩ rfl))
 ·simp only [Z2,ZU,ZG,hx,hy,Y1,Zm,Z3S,ht,hs,hb1,hbl];rw [if_pos ⟨trivial,trivial,hl2⟩,hcp];simp only [YG]
 ·intro id' hid;simp only [touched,ZL,YD,YF,hx,hy,YE] at hid;rcases List.mem_append.1 hid with hid|hid
  ·exact (ha h).1 _ (Z1o hid (by intros;simp))
  ·exact (ha h).2 _ (Z1o hid (Z3Y H hb))
 ·obtain ⟨a,ha',rfl⟩:=List.mem_map.1 hy;unfold cpy at ha';rcases List.mem_append.1 ha' with h|h
  ·exact hb2 _ (List.mem_map.2 ⟨a,YV h,rfl⟩)
  ·exact hsz _ (List.mem_map.2 ⟨a,List.mem_of_mem_drop h,rfl⟩)
 ·have:((cpy xs ys).map c).length=(xs.map c).length:=by
   unfold cpy;simp only [YG,YM,YN,Yn];omega
  rw [this]
theorem Ops.Z1s {α:Type} {c:α->List FV} {xs:List α} {u u':α} {id:Nat} {et:TypeId} {sz j m off ver:Nat} {zs:List FV} {iv:Int} {w:PV} (H:Has G lo hi L) (k:Nat) (hk:L[k]? = some (.sl v et sz (xs.map c) true)) (hv:v = .buf id (xs.map c).length sz) (hver:ver=(xs.map c).length*sz)
  (hu:at? xs iv=some u) (hx:Z0 X e x=some (.ptr id ver off)) (hoff:off=iv.toNat*sz+j) (hy:Z0 X e y=some w) (hw:w.cells=some (vs zs)) (hm:tsize X.P t1=some m) (hz:zs.length=m) (hj:Nat.ble (j+m) sz=true)
  (hu':(c u).take j++zs++(c u).drop (j+zs.length)=c u') (ha:dr=true->Seen ops base i id true)
  (hk':∀ G',Has G' lo hi (L.set k (.sl v et sz ((xs.set iv.toNat u').map c) true))->Ops X n dr ops base (i+1) l e G' K):Ops X n dr ops base i (⟨none,.store t1 x y,t,p,af,none⟩::l) e G K:=by
 refine Ops.storeS H k hk hv hver (at?_map hu) hx hoff hy hw hm hz hj hu' ha ?_
 rw [List.map_set] at hk'
 exact hk'
theorem Ops.binA {op:BinOp} {u w:PV} {r:FV} (hx:Z0 X e x=some u) (hy:Z0 X e y=some w) (hr:binD X.P G op t1 u w=some r) (ha:dr=true->ZZ X ops base i ⟨some d,.binOp op t1 x y t2,t,p,af,none⟩ e=true) (hd:Nat.blt d n=true)
  (hk:Ops X n dr ops base (i+1) l (set e d (.v r)) G K):Ops X n dr ops base i (⟨some d,.binOp op t1 x y t2,t,p,af,none⟩::l) e G K :=
 .plain (x:=.v r) (G1:=G) (by simp only [Z2,hx,hy,hr,Y6]) ha hd hk
theorem Z1w {op:BinOp} {us ws:List PV} {o:Oper} (hx:Z0 X e x=some (.agg us)) (hy:Z0 X e y=some (.agg ws)) (hop:Zc (.binOp op t1 x y t2) = .read) (ho:o.op = .binOp op t1 x y t2):ZZ X ops base i o e=true :=
 Z1n (by rw [ho];exact hop) (by rw [ho];simp only [touched,ZL,YD,YF,hx,hy,vids,YE])
theorem Ops.buildA {parts:Array (Nat×Operand)} {cs:List PV} (hb:Z5Y X e t1 parts.toList=some (.agg cs)) (hd:Nat.blt d n=true) (hk:Ops X n dr ops base (i+1) l (set e d (.agg cs)) G K):Ops X n dr ops base i (⟨some d,.build t1 parts,t,p,af,none⟩::l) e G K :=
 .plain (x:=.agg cs) (G1:=G) (by simp only [Z2,hb,Y6]) (λ_=>Z01 rfl) hd hk
theorem Ops.makeClo {f:FuncId} {first caps:Array Operand} {fs cs:List PV} (hf:ZG X e first.toList=some fs) (hc:ZG X e caps.toList=some cs) (hn:(fs.isEmpty&&cs.isEmpty)=false) (hd:Nat.blt d n=true)
  (hk:Ops X n dr ops base (i+1) l (set e d (.clo f fs cs)) G K):Ops X n dr ops base i (⟨some d,.makeFunc (.func f) first caps,t,p,af,none⟩::l) e G K:=by
 refine .plain (x:=.clo f fs cs) (G1:=G) ?_ (λ_=>Z01 rfl) hd hk
 simp only [Z2,hf,hc]
 cases fs<;>cases cs<;>first|rfl|cases hn
theorem Ops.min2 {k:IntKind} {u w:Int} {ts:Array TypeId} (hx:Z0 X e x=some (.v (.int k u))) (hy:Z0 X e y=some (.v (.int k w))) (hd:Nat.blt d n=true) (hk:Ops X n dr ops base (i+1) l (set e d (.v (.int k (iMin u w)))) G K) :
  Ops X n dr ops base i (⟨some d,.call { callee:=.builtin .min,args:=#[x,y],argTypes:=ts },t,p,af,none⟩::l) e G K :=
 .plain (x:=.v (.int k (iMin u w))) (G1:=G) (by simp only [Z2,ZU,ZG,hx,hy,Y1,Zm,Z1U,if_true,Y6]) (λ_=>Z01 rfl) hd hk
theorem Ops.max2 {k:IntKind} {u w:Int} {ts:Array TypeId} (hx:Z0 X e x=some (.v (.int k u))) (hy:Z0 X e y=some (.v (.int k w))) (hd:Nat.blt d n=true) (hk:Ops X n dr ops base (i+1) l (set e d (.v (.int k (iMax u w)))) G K) :
  Ops X n dr ops base i (⟨some d,.call { callee:=.builtin .max,args:=#[x,y],argTypes:=ts },t,p,af,none⟩::l) e G K :=
 .plain (x:=.v (.int k (iMax u w))) (G1:=G) (by simp only [Z2,ZU,ZG,hx,hy,Y1,Zm,Z1U,if_true,Y6]) (λ_=>Z01 rfl) hd hk
theorem cut?_some {α:Type} {xs r:List α} {i j:Int} (h:cut? xs i j=some r):0<=i/\i<=j/\j<=xs.length/\r=(xs.take j.toNat).drop i.toNat:=by
 unfold cut? at h
 split at h
 ·rename_i h1;cases h;exact ⟨h1.1,h1.2.1,h1.2.2,rfl⟩
 ·cases h
theorem sliceP_ok {α:Type} {c:α->List FV} {xs r:List α} {i0 j0:Int} {P:Program} {el:TypeId} {m:Nat} {lo hi:Option PV} (h:cut? xs i0 j0=some r) (ht:tslice P t1=some el) (hs:tsize P el=some m) (hm:∀ u,(c u).length=m)
  (hlo:(match lo with|none=>some 0|some v=>Z1a v)=some i0.toNat) (hhi:(match hi with|none=>some xs.length|some v=>Z1a v)=some j0.toNat):Z5O P t1 (.v (.sl (xs.map c))) lo hi none=some (.v (.sl (r.map c))):=by
 obtain ⟨h1,h2,h3,rfl⟩:=cut?_some h
 have hc:i0.toNat<=j0.toNat/\j0.toNat<=xs.length/\Z3s (xs.map c) i0.toNat m=true:=by
  refine ⟨by omega,by omega,?_⟩
  simp only [Z3s,YK];cases xs[i0.toNat]? with
  | none=>rfl
  | some u=>simp [hm]
 have hc':xs.length=j0.toNat->i0.toNat<=j0.toNat/\j0.toNat<=j0.toNat/\Z3s (xs.map c) i0.toNat m=true:=λ_=>⟨hc.1,Y9 _,hc.2.2⟩
 cases lo<;>cases hi<;>simp only [Y4] at hlo hhi<;>simp only [Z5O,ht,Y1,hs,YG,hlo,hhi,List.map_drop,Y0E]<;>first|rw [if_pos hc]|rw [if_pos (hc' hhi)]
theorem asNat_int {k:IntKind} {m:Int} (h:0<=m):Z1a (.v (.int k m))=some m.toNat:=by simp [Z1a,h]
theorem Ops.sliceP01 {α:Type} {c:α->List FV} {xs r:List α} {el:TypeId} {m:Nat} {k:IntKind} {j0:Int} (h:cut? xs 0 j0=some r) (hx:Z0 X e x=some (.v (.sl (xs.map c)))) (hl:Z0 X e y=some (.v (.int k j0))) (ht:tslice X.P t1=some el) (hs:tsize X.P el=some m) (hm:∀ u,(c u).length=m) (hd:Nat.blt d n=true)
  (hk:Ops X n dr ops base (i+1) l (set e d (.v (.sl (r.map c)))) G K):Ops X n dr ops base i (⟨some d,.slice t1 x none (some y) none,t,p,af,none⟩::l) e G K:=by
 refine .plain (x:=.v (.sl (r.map c))) (G1:=G) ?_ (λ_=>?_) hd hk
 ·have h':=cut?_some h;simp only [Z2,hx,hl,optD,Y6,sliceP_ok h ht hs hm (lo:=none) (hi:=some (.v (.int k j0))) rfl (asNat_int (by omega))]
 ·exact ask0 (by simp only [ZQ,Zc,hx])
end
inductive Sub:List Res->List Res->Prop
 | nil {L:List Res}:Sub [] L
 | cons {c:Res} {C L:List Res} (k:Nat) (h:L[k]? = some c) (t:Sub C L):Sub (c::C) L
theorem Sub.push {C L:List Res} {r:Res} (h:Sub C L):Sub C (r::L):=by
 induction h with
 | nil=>exact .nil
 | cons k h t ih=>exact .cons (k+1) h ih
theorem Sub.inv {c:Res} {C L:List Res} (h:Sub (c::C) L):∃ k:Nat,L[k]? = some c/\Sub C L:=by
 cases h with
 | cons k h t=>exact ⟨k,h,t⟩
noncomputable def callV (X:Ctx) (cv:PV) (args:List PV) (G:Heap):Option (PV×Heap) :=
 match cv with
 | .v (.fn f)=>Zr X (.fn f) args G
 | .clo f first caps=>Zr X (.fn f) (first++args++caps) G
 | _=>none
def FnH (X:Ctx) (f:FuncId) (args:List PV) (r:PV) (C:List Res):Prop :=
 ∀ G lo hi L,Sub C L->Has G lo hi L->∃ G',Zr X (.fn f) args G=some (r,G')/\Has G' lo hi L
def CloH (X:Ctx) (cv:PV) (args:List PV) (r:PV) (C:List Res):Prop :=
 ∀ G lo hi L,Sub C L->Has G lo hi L->∃ G',callV X cv args G=some (r,G')/\Has G' lo hi L
section
variable {X:Ctx} {f:FuncId} {args:List PV} {r:PV} {C:List Res}
theorem Fn.toH (h:Fn X f args r) (C:List Res):FnH X f args r C:=λG lo hi L _ H=>⟨G,h.call G,H⟩
theorem CloH.fn (h:FnH X f args r C):CloH X (.v (.fn f)) args r C:=h
theorem CloH.clo {first caps:List PV} (h:FnH X f (first++args++caps) r C):CloH X (.clo f first caps) args r C:=h
theorem CloH.weak {cv:PV} (h:CloH X cv args r []):CloH X cv args r C:=λG lo hi L _ H=>h G lo hi L .nil H
theorem all_nil {α:Type} {p:α->Bool}:([] : List α).all p=true:=rfl
theorem all_t {α:Type} {p:α->Bool} {x:α} {l:List α} (h:p x=true) (t:l.all p=true):(x::l).all p=true:=by rw [Yf,h,t];rfl
theorem Z4s {α:Type} {p:α->Bool} {x:α} {l:List α} (h:l.all p=true) (i:Nat) (hx:l[i]? = some x):p x=true:=List.all_eq_true.1 h x (YB hx)
def PV.still:PV->Bool
 | .ptr _ _ _=>true
 | .clo _ _ _=>true
 | .yld _=>true
 | x=>x.pure
theorem expArg_still {G:Heap} {x:PV} (h:x.still=true):Z1V G x=some (x,G):=by
 cases x<;>first|rfl|exact Z3b h
theorem Z2p {G:Heap}:∀ {xs:List PV},xs.all PV.still=true->Zu G xs=some (xs,G)
 | [],_=>rfl
 | x::xs,h=>by
  simp only [Yf,Y8] at h;simp only [Zu,expArg_still h.1,Y1,Z2p h.2]
theorem FnH.of {fu:Func} {c:Code} {m:Nat} (hf:X.P.funcs[f]? = some fu) (hb:fu.body=some c) (hi:X.intr f args=none) (hk:X.keep f=false) (ho:X.opn f=false) (hs:args.all PV.still=true) (hm:max fu.ntmps args.length=m)
  (hp:args.all PV.pure=true->C=[])
  (h:∀ G L,Sub C L->Hs G L->Runs X m f c (Z36 args) G (EndsH X fu.results.toList r L)):FnH X f args r C:=by
 subst hm
 intro G lo hi' L hC H
 by_cases hpu:args.all PV.pure=true
 ·have hC0:=hp hpu;subst hC0;obtain ⟨lf,x,e',G1,h1,hE⟩:=(h Heap.empty [] .nil (Has.nil (Y9 _))).run;obtain ⟨hx,xs,G2,_,_,h2,h3,_⟩:=hE.out;refine ⟨G,Z11 (lf:=lf) ?_,H⟩;have hbody:Z0J X (Zr X) lf f args Heap.empty=some (Z0Q xs,G1):=by
   simp only [Z0J,hf,hb,h1];rcases hx with rfl|rfl<;>simp only [h2,Y6]
  simp only [Z2Y,hi,hk,YA,if_false,Z0W hpu,ho,hpu,if_true,hbody,Y1,h3,Y6,ite_self]
 ·obtain ⟨lf,x,e',G1,h1,hE⟩:=(h G (.floor hi'::L) hC.push (H.all.floor hi' H.le)).run;obtain ⟨hx,xs,G2,lo2,hi2,h2,h3,H2⟩:=hE.out;refine ⟨G2,Z11 (lf:=lf) ?_,?_⟩
  ·have hbody:Z0J X (Zr X) lf f args G=some (Z0Q xs,G1):=by
    simp only [Z0J,hf,hb,h1];rcases hx with rfl|rfl<;>simp only [h2,Y6]
   simp only [Z2Y,hi,hk,Bool.false_and,YA,if_false,Z2p hs,ho,if_neg hpu,hbody,Y1,h3]
  ·have hfl:hi'<=G2.nx:=H2.holds 0 _ rfl;have H3:=H2.erase 0;exact ⟨H3.holds,λk r hk id ho=>⟨(H.lt k r hk id ho).1,(H3.lt k r hk id ho).2⟩,H.sep,hfl⟩
end
section
variable {X:Ctx} {n:Nat} {dr:Bool} {fn:FuncId} {ops:Array Oper} {base i:Nat} {l:List Oper} {e:Env} {G:Heap} {K:Env->Heap->Prop}
variable {d:Nat} {t:TypeId} {p:String} {af:Array Edge} {x:Operand} {lo hi:Nat} {L C:List Res}
theorem Ops.callH {f:FuncId} {args:Array Operand} {ts:Array TypeId} {ys:List PV} {r:PV} (H:Has G lo hi L) (ha:ZG X e args.toList=some ys) (hf:FnH X f ys r C) (hs:Sub C L)
  (hdr:dr=true->(ys.all PV.pure && !X.opn f && !X.keep f)=true\/Z18 (Region.before ops) ops i=true) (hd:Nat.blt d n=true)
  (hk:∀ G',Has G' lo hi L->Ops X n dr ops base (i+1) l (set e d r) G' K) :
  Ops X n dr ops base i (⟨some d,.call { callee:=.value (.func f),args:=args,argTypes:=ts },t,p,af,none⟩::l) e G K:=by
 obtain ⟨G',q1,q2⟩:=hf G lo hi L hs H
 refine .plain (x:=r) (G1:=G') (by simp only [Z2,ZU,ha,Z0,q1]) (λh=>?_) hd (hk G' q2)
 rcases hdr h with this|this
 case inr=>exact Z3D this
 simp only [Y8,YS] at this
 exact ask0 (by simp only [ZQ,Zc,ha,Z3Q,Z0,pure_calm this.1.1,this.1.2,this.2,Bool.not_false,Yx])
theorem Ops.callV {cv:PV} {args:Array Operand} {ts:Array TypeId} {ys:List PV} {r:PV} (H:Has G lo hi L) (hx:Z0 X e x=some cv) (ha:ZG X e args.toList=some ys) (hf:CloH X cv ys r C) (hs:Sub C L)
  (hdr:dr=true->Z18 (Region.before ops) ops i=true) (hd:Nat.blt d n=true)
  (hk:∀ G',Has G' lo hi L->Ops X n dr ops base (i+1) l (set e d r) G' K) :
  Ops X n dr ops base i (⟨some d,.call { callee:=.value x,args:=args,argTypes:=ts },t,p,af,none⟩::l) e G K:=by
 obtain ⟨G',q1,q2⟩:=hf G lo hi L hs H
 refine .plain (x:=r) (G1:=G') ?_ (λh=>Z3D (hdr h)) hd (hk G' q2)
 simp only [Z2,ZU,ha,hx]
 unfold Dn.callV at q1
 split at q1
 ·exact q1
 ·exact q1
 ·cases q1
end
end Go.Dn

namespace Go.Dn
open Go Go.ChangeShapes
def consec (P:Program):Nat->List Field->Option Nat
 | o,[]=>some o
 | o,f::fs=>if f.offset=o then consec P (o+P.cellsOf f.type) fs else none
def supp (P:Program):Nat->TypeId->Bool
 | 0,_=>false
 | d+1,t=>
  match P.underlying t with
  | some .bool=>P.cellsOf t==1
  | some (.int _)=>P.cellsOf t==1
  | some .string=>P.cellsOf t==1
  | some (.slice e)=>P.cellsOf t==1&&P.cellsOf e != 0&&supp P d e
  | some (.struct fs)=>fs.toList.all (λf=>supp P d f.type)&&(consec P 0 fs.toList==some (P.cellsOf t))
  | _=>false
def OKC (P:Program):Nat->TypeId->List FV->Prop
 | 0,_,_=>False
 | d+1,t,ys=>
  match P.underlying t with
  | some .bool=>∃ b,ys=[.bool b]
  | some (.int k)=>∃ m,ys=[.int k m]/\(Lit.int k m).wf=true
  | some .string=>∃ s,ys=[.str s]/\s.size<=maxLen
  | some (.slice e)=>∃ xs,ys=[.sl xs]/\xs.length*P.bytesOf e<=reachBytes/\∀ x∈xs,OKC P d e x
  | some (.struct fs)=>ys.length=P.cellsOf t/\∀ f∈fs.toList,OKC P d f.type ((ys.drop f.offset).take (P.cellsOf f.type))
  | _=>False
section
variable {H:Type} {enc:TypeId×Value->H} {P:Program} {w:World} {base:Nat} {spare:Nat->Bool} {held:Bool} {Im:Nat->Prop}
def Cov (w:World) (Im:Nat->Prop) (ys:List FV) (cs:List Value):Prop:=ys.length=cs.length/\∀ (i:Nat) (y:FV) (v:Value),ys[i]? = some y->cs[i]? = some v->FVR w Im y v
theorem Cov.one {y:FV} {v:Value} (h:FVR w Im y v):Cov w Im [y] [v]:=⟨rfl,λi y' v' hy hv=>by
 cases i with
 | zero=>cases hy;cases hv;exact h
 | succ i=>simp at hy⟩
theorem consec_le:∀ {fs:List Field} {o m:Nat},consec P o fs=some m->o<=m
 | [],o,m,h=>by simp [consec] at h;omega
 | f::fs,o,m,h=>by
  simp only [consec] at h
  split at h
  ·have:=consec_le h;omega
  ·cases h
theorem fields_ok {d n:Nat} {cs:List Value} (ih:∀ (t:TypeId) (cs:List Value) (x:DataW H×List MemPlace),supp P d t=true->DataW.trod enc P w base spare held n t cs=some x->(∀ p∈x.2,Im p.block)->(∀ n∈x.1.weights P t,n<=reachBytes)->∃ ys,Cov w Im ys cs/\OKC P d t ys) :
  ∀ (fs:List Field) (o m:Nat),consec P o fs=some m->m<=cs.length->(∀ f∈fs,supp P d f.type=true) ->
   (∀ f∈fs,∃ x,DataW.trod enc P w base spare held n f.type ((cs.drop f.offset).take (P.cellsOf f.type))=some x/\(∀ p∈x.2,Im p.block)/\∀ n∈x.1.weights P f.type,n<=reachBytes) ->
   ∃ ys,Cov w Im ys ((cs.drop o).take (m-o))/\∀ f∈fs,o<=f.offset/\OKC P d f.type ((ys.drop (f.offset-o)).take (P.cellsOf f.type))
 | [],o,m,hc,hm,_,_=>by
  simp [consec] at hc;subst hc;exact ⟨[],⟨by simp,by simp⟩,by simp⟩
 | f::fs,o,m,hc,hm,hs,hx=>by
  simp only [consec] at hc
  split at hc
  ·rename_i ho;subst ho;obtain ⟨x,hx1,hx2,hx3⟩:=hx f YU;obtain ⟨ys,⟨hl,hv⟩,hok⟩:=ih f.type _ x (hs f YU) hx1 hx2 hx3;have hle:=consec_le hc;obtain ⟨zs,⟨hl2,hv2⟩,hok2⟩:=fields_ok ih fs _ m hc hm (λg hg=>hs g (YO _ hg)) (λg hg=>hx g (YO _ hg));simp only [YN,Yn] at hl hl2;have hy:ys.length=P.cellsOf f.type:=by omega
   refine ⟨ys++zs,⟨by simp only [YM,YN,Yn];omega,λi y v h1 h2=>?_⟩,λg hg=>?_⟩
   ·by_cases hi:i<ys.length
    ·rw [YP hi] at h1;refine hv i y v h1 ?_;rw [YH] at h2 ⊢;rw [if_pos (by omega)] at h2 ⊢
     exact h2
    ·rw [YI (by omega)] at h1
     have hi2:i-ys.length<zs.length:=by
      rcases Ya (i-ys.length) zs.length with h|h
      ·exact h
      ·rw [Yl h] at h1;cases h1
     refine hv2 (i-ys.length) y v h1 ?_;rw [YH,YY] at h2 ⊢;rw [if_pos (by omega)] at h2 ⊢
     rw [<- h2]
     congr 1;omega
   ·rcases List.mem_cons.1 hg with rfl|hg
    ·refine ⟨Y9 _,?_⟩;rw [Y0S,List.drop_zero,Yz (by omega),Yj (by omega)]
     exact hok
    ·obtain ⟨h1,h2⟩:=hok2 g hg;refine ⟨by omega,?_⟩
     have:(ys++zs).drop (g.offset-f.offset)=zs.drop (g.offset-(f.offset+P.cellsOf f.type)):=by
      rw [List.drop_append,List.drop_eq_nil_of_le (by omega),List.nil_append]
      congr 1;omega
     rw [this];exact h2
  ·cases hc
theorem Z5s {e:TypeId}:∀ {ds:List (DataW H)} {d:DataW H},d∈ds->∀ n∈d.weights P e,n∈DataW.weightsAll P e ds
 | d0::ds,d,h,n,hn=>by
  simp only [DataW.weightsAll,Ye];rcases List.mem_cons.1 h with rfl|h
  ·exact .inl hn
  ·exact .inr (Z5s h n hn)
def Sized (P:Program) (t:TypeId) (d:DataW H):Prop:=∀ n∈d.weights P t,n<=reachBytes
theorem OKC.length:∀ {d:Nat} {t:TypeId} {ys:List FV},supp P d t=true->OKC P d t ys->ys.length=P.cellsOf t
 | 0,t,ys,h,_=>by simp [supp] at h
 | d+1,t,ys,h,ho=>by
  unfold supp at h;unfold OKC at ho
  split at h
  all_goals (rename_i hu;simp only [hu] at ho)
  ·obtain ⟨b,rfl⟩:=ho;simp at h;simp [h]
  ·obtain ⟨b,rfl,_⟩:=ho;simp at h;simp [h]
  ·obtain ⟨b,rfl,_⟩:=ho;simp at h;simp [h]
  ·obtain ⟨b,rfl,_⟩:=ho;simp at h;simp [h]
  ·exact ho.1
theorem trod_ok:∀ (d n:Nat) (t:TypeId) (cs:List Value) (x:DataW H×List MemPlace),supp P d t=true->DataW.trod enc P w base spare held n t cs=some x->(∀ p∈x.2,Im p.block)->(∀ n∈x.1.weights P t,n<=reachBytes)->∃ ys,Cov w Im ys cs/\OKC P d t ys
 | 0,n,t,cs,x,hs,h,hp,hw=>by simp [supp] at hs
 | d+1,n,t,cs,x,hs,h,hp,hw=>by
  unfold supp at hs
  split at hs
  ·rename_i hu;cases n with
   | zero=>simp [DataW.trod] at h
   | succ n=>
    simp only [DataW.trod,hu] at h
    split at h<;>simp_all
    rename_i b;exact ⟨[.bool b],Cov.one (.bool b),by simp [OKC,hu]⟩
  ·rename_i k hu;cases n with
   | zero=>simp [DataW.trod] at h
   | succ n=>
    simp only [DataW.trod,hu] at h
    split at h<;>try (simp_all;done)
    rename_i k2 m he1 ;simp only [Y4,TypeDesc.int.injEq] at he1;subst he1
    split at h
    ·rename_i k' n' hk;obtain ⟨rfl,hwf⟩:=hk;exact ⟨[.int _ _],Cov.one (.int _ _),by simp [OKC,hu,hwf]⟩
    ·cases h
  ·rename_i hu;cases n with
   | zero=>simp [DataW.trod] at h
   | succ n=>
    simp only [DataW.trod,hu] at h
    split at h<;>try (simp_all;done)
    split at h
    ·rename_i s hk;exact ⟨[.str _],Cov.one (.str _),by simp [OKC,hu,hk]⟩
    ·cases h
  ·rename_i e hu;simp only [Y8,beq_iff_eq,bne_iff_ne,ne_eq] at hs;rcases DataW.trod_slice hu h with ⟨rfl,rfl⟩|⟨a,len,cap,elems,rest,m,rfl,rfl,rfl,hb,hl,hm,hlen,hel,hsp,hns⟩
   ·exact ⟨[.sl []],Cov.one .nil,by simp [OKC,hu]⟩
   ·by_cases h0:len=0
    ·subst h0;exact ⟨[.sl []],Cov.one (.empty a cap),by simp [OKC,hu]⟩
    ·have each:∀ i,i<len->∃ cs' ys,w.cells? base (a.add (i*P.cellsOf e)) (P.cellsOf e)=some cs'/\Cov w Im ys cs'/\OKC P d e ys:=by
      intro i hi;have h1:=hel i hi;obtain ⟨y,hy⟩ : ∃ y,elems[i]? = some y:=⟨_,Y7 (by omega)⟩
      rw [hy,Y3] at h1;obtain ⟨cs',hcs,ht⟩:=h1;obtain ⟨ys,h2,h3⟩:=trod_ok d m e cs' y hs.2 ht (λp hpm=>hp p (by
       refine Yu _ (List.mem_flatMap.2 ⟨y,Yy _ (YB hy),hpm⟩))) (λn hn=>hw n (by
       simp only [DataW.weights,hu,List.mem_cons,Ye];exact .inr (.inl (Z5s (List.mem_map.2 ⟨y,YB hy,rfl⟩) n hn))))
      exact ⟨cs',ys,hcs,h2,h3⟩
     let F:Nat->List FV:=λi=>if hi:i<len then (each i hi).choose_spec.choose else []
     let C:Nat->List Value:=λi=>if hi:i<len then (each i hi).choose else []
     have hF:∀ i,i<len->w.cells? base (a.add (i*P.cellsOf e)) (P.cellsOf e)=some (C i)/\Cov w Im (F i) (C i)/\OKC P d e (F i):=by
      intro i hi;simp only [F,C,dif_pos hi];exact (each i hi).choose_spec.choose_spec
     have hFl:∀ i,i<len->(F i).length=P.cellsOf e:=λi hi=>OKC.length hs.2 (hF i hi).2.2;have hxs:∀ y∈(List.range len).map F,∃ i,i<len/\y=F i:=λy hy=>by
      obtain ⟨i,hi,rfl⟩:=List.mem_map.1 hy;exact ⟨i,List.mem_range.1 hi,rfl⟩
     refine ⟨[.sl ((List.range len).map F)],Cov.one ?_,?_⟩
     ·by_cases hz:P.cellsOf e=0
      ·exact absurd hz hs.1.2
      ·have hsp0:a.spot=none:=by
        have h1:=(World.cells?_some (hF 0 (by omega)).1).2.2 0 (by omega)
        have hl0:=(World.cells?_some (hF 0 (by omega)).1).2.1
        simp only [Nat.zero_mul,Addr.add,if_true] at h1;unfold World.cell? at h1
        split at h1
        ·split at h1
         ·have:(C 0)[0]? = none:=h1.symm;rw [List.getElem?_eq_none_iff] at this;omega
         ·rename_i hq;simpa using hq
        ·have:(C 0)[0]? = none:=h1.symm;rw [List.getElem?_eq_none_iff] at this;omega
       obtain ⟨bl,off,spot⟩:=a;simp only at hsp0;subst hsp0;have hcov:=FVR.sl (w:=w) (Imm:=Im) ((List.range len).map F) bl off cap (P.cellsOf e) (λi j=>(C i).getD j Go.undef) ?_ (by simpa using hl) (λy hy=>by
        obtain ⟨i,hi,rfl⟩:=hxs y hy;exact hFl i hi) (λi j hi hj=>?_) (λi j y x h1 h2=>?_)
       ·simpa using hcov
       ·refine hp (.cell bl (off+0)) (Yy _ ?_);simp only [MemPlace.row,List.mem_map,Y0L];refine ⟨0,?_,rfl⟩;exact Nat.mul_pos (by omega) (by omega)
       ·simp only [YG,List.length_range] at hi;have h1:=(World.cells?_some (hF i hi).1).2.2 j hj;have hl0:=(World.cells?_some (hF i hi).1).2.1;have e1:(Addr.add (Addr.add ⟨bl,off,none⟩ (i*P.cellsOf e)) j)=⟨bl,off+i*P.cellsOf e+j,none⟩:=by
         simp only [Z1b]
        rw [e1] at h1;rw [h1,Y7 (by omega)]
        simp [List.getD,Y7 (show j<(C i).length by omega)]
       ·rw [YK,Y0] at h1;obtain ⟨i',hi',rfl⟩:=h1;have hi2:=List.mem_range.1 (YB hi');have:i'=i:=by
         rw [List.getElem?_eq_some_iff] at hi';obtain ⟨q1,q2⟩:=hi'
         simpa using q2.symm
        subst this;have hj:j<(C i').length:=by
         rw [<- (hF i' hi2).2.1.1];exact (List.getElem?_eq_some_iff.1 h2).1
        refine (hF i' hi2).2.1.2 j x _ h2 ?_;rw [Y7 hj];simp [List.getD,Y7 hj]
     ·simp only [OKC,hu];refine ⟨_,rfl,?_,λy hy=>?_⟩
      ·have h1:=hw ((elems.length+rest.length)*P.bytesOf e) (by simp [DataW.weights,hu])
       refine YZ (YW _ ?_) h1
       simp;omega
      obtain ⟨i,hi,rfl⟩:=hxs y hy;exact (hF i hi).2.2
  ·rename_i fs hu;simp only [Y8,beq_iff_eq,YC] at hs;obtain ⟨xs,m,rfl,rfl,hl,hx,hf⟩:=DataW.trod_struct hu h;obtain ⟨ys,hc,ho⟩:=fields_ok (cs:=cs) (λt cs x h1 h2 h3 h4=>trod_ok d m t cs x h1 h2 h3 h4) fs.toList 0 (P.cellsOf t) hs.2 (by omega) hs.1 (λf hfm=>by
    obtain ⟨i,hi⟩:=Y0M hfm;have hi':fs[i]? = some f:=by simpa using hi
    have h1:=hf i f hi';have hlt:i<xs.length:=by
     have:=(Array.getElem?_eq_some_iff.1 hi').1;omega
    rw [Y7 hlt] at h1;exact ⟨_,h1,λp hpm=>hp p (List.mem_flatMap.2 ⟨_,Y04 hlt,hpm⟩),λn hn=>hw n (by
     simp only [DataW.weights,hu];exact DataW.weights_mem_each (j:=i) (t:=f.type) (d:=(xs[i]).1) (by simp [hi]) (by simp [hlt]) n hn)⟩)
   rw [List.drop_zero,Nat.sub_zero,Yj (by omega)] at hc
   refine ⟨ys,hc,?_⟩;simp only [OKC,hu];exact ⟨hc.1.trans hl,λf hfm=>by simpa using (ho f hfm).2⟩
  ·cases hs
end
def okI (k:IntKind) (x:Int):Prop:=k.min<=x/\x<=k.max
def okB (_:Bool):Prop:=True
def okS (x:ByteArray):Prop:=x.size<=maxLen
def okL {α:Type} (b:Nat) (p:α->Prop) (xs:List α):Prop:=xs.length*b<=reachBytes/\∀ x∈xs,p x
def Dec (P:Program) {α:Type} (t:TypeId) (c:α->List FV) (ok:α->Prop):Prop:=∀ d ys,OKC P d t ys->∃ x,ys=c x/\ok x
section
variable {P:Program} {t e:TypeId}
theorem Dec.int {k:IntKind} (h:P.underlying t=some (.int k)):Dec P t (cI k) (okI k):=λd ys ho=>by
 cases d with
 | zero=>exact ho.elim
 | succ d=>
  simp only [OKC,h] at ho;obtain ⟨m,rfl,hw⟩:=ho;exact ⟨m,rfl,by simpa [Lit.wf,okI] using hw⟩
theorem Dec.bool (h:P.underlying t=some .bool):Dec P t cB okB:=λd ys ho=>by
 cases d with
 | zero=>exact ho.elim
 | succ d=>
  simp only [OKC,h] at ho;obtain ⟨m,rfl⟩:=ho;exact ⟨m,rfl,trivial⟩
theorem Dec.str (h:P.underlying t=some .string):Dec P t cS okS:=λd ys ho=>by
 cases d with
 | zero=>exact ho.elim
 | succ d=>
  simp only [OKC,h] at ho;obtain ⟨m,rfl,hw⟩:=ho;exact ⟨m,rfl,hw⟩
theorem Dec.sl {α:Type} {c:α->List FV} {ok:α->Prop} {b:Nat} (h:P.underlying t=some (.slice e)) (hb:P.bytesOf e=b) (he:Dec P e c ok):Dec P t (cL c) (okL b ok):=λd ys ho=>by
 cases d with
 | zero=>exact ho.elim
 | succ d=>
  simp only [OKC,h] at ho;obtain ⟨xs,rfl,hl,hx⟩:=ho;have:∀ xs:List (List FV),(∀ x∈xs,OKC P d e x)->∃ as_:List α,xs=as_.map c/\∀ a∈as_,ok a:=by
   intro xs
   induction xs with
   | nil=>intro _;exact ⟨[],rfl,by simp⟩
   | cons x xs ih=>
    intro hx;obtain ⟨a,rfl,ha⟩:=he d x (hx x YU);obtain ⟨as_,rfl,has⟩:=ih λy hy=>hx y (YO _ hy);exact ⟨a::as_,rfl,λb hb=>by
     rcases List.mem_cons.1 hb with rfl|hb
     ·exact ha
     ·exact has b hb⟩
  obtain ⟨as_,rfl,has⟩:=this xs hx;exact ⟨as_,rfl,by subst hb;simpa using hl,has⟩
theorem fld (ys:List FV) (o s:Nat):(ys.drop o).take s++ys.drop (o+s)=ys.drop o:=by
 rw [<- List.drop_drop];exact Yw s (ys.drop o)
theorem fld_nil {ys:List FV} {n:Nat} (h:ys.length=n):ys.drop n=[]:=List.drop_eq_nil_of_le (by omega)
end
theorem pvr_one {P:Program} {t:TypeId} {W:World} {base:Nat} {v:Value} {s:St} {y:FV} (hu:(match P.underlying t with|some .bool|some (.int _)|some .string|some (.slice _)=>true|_=>false)=true) (hval:Value.okWide P W .any base t v) (hs:s.w=W) (hc:Cov W s.imm [y] v.cells.toList):PVR s (.v y) v:=by
 subst hs
 have hv:v.cells.toList=[v]:=by
  unfold Value.okWide Cell.okWide Cell.ok at hval
  split at hu
  all_goals (first|(rename_i h1;rw [h1] at hval)|skip)
  ·cases v<;>first|rfl|exact hval.elim
  ·cases v<;>first|rfl|exact hval.elim
  ·cases v<;>first|rfl|exact hval.elim
  ·cases v<;>first|rfl|exact hval.elim
  ·cases hu
 rw [hv] at hc
 exact .v (hc.2 0 y v rfl rfl)
end Go.Dn

namespace Go.Dn
open Go
def cloneA (t b : TypeId) : Code := .region 0 #[{ dst := some 2, op := .assign (.const (.slice none 0 0)), type := t, pos := "slices.go:355", after := #[], guard := none }] false
def Z23 (t b : TypeId) : Array Oper := #[{ dst := some 3, op := .move (.tmp 0), type := t, pos := "slices.go:357", after := #[], guard := none },
 { dst := some 4, op := .binOp .eql t (.tmp 3) (.const (.slice none 0 0)) t, type := b, pos := "slices.go:357", after := #[{ on := 0, ground := .data }], guard := none }]
def cloneC (t : TypeId) : Code := .cond (.tmp 4) ((Code.region 2 #[{ dst := some 2, op := .assign (.const (.slice none 0 0)), type := t, pos := "slices.go:358", after := #[], guard := none }] false).seq .ret) .skip
def cloneD (t:TypeId):Code:=(Code.region 3
 #[{ dst := some 5, op := .buildSlice t 0 #[], type := t, pos := "slices.go:362", after := #[], guard := none },
  { dst := some 6, op := .move (.tmp 0), type := t, pos := "slices.go:362", after := #[], guard := none },
  { dst := some 7, op := .call { callee := .builtin .append, args := #[.tmp 5, .tmp 6], argTypes := #[t, t] }, type := t, pos := "slices.go:362", after := #[{ on := 0, ground := .data }, { on := 1, ground := .data }], guard := none },
  { dst := some 2, op := .assign (.tmp 7), type := t, pos := "slices.go:362", after := #[{ on := 2, ground := .data }, { on := 2, ground := .chain }, { on := 0, ground := .phase }, { on := 1, ground := .phase }, { on := 2, ground := .phase }], guard := none }] false).seq .ret
def cloneBody (t b:TypeId):Code:=(cloneA t b).seq (((Code.region 1 (Z23 t b) false).seq (cloneC t)).seq (cloneD t))
structure CloneT (P:Program) (t el:TypeId) (sz by_:Nat) (zs:List PV):Prop where
 ht:tslice P t=some el
 hs:tsize P el=some sz
 hb:tbytes P el=some by_
 hz:tzero P el=some zs
 hc:(sz != 0&&by_ != 0&&zs.length==sz)=true
variable {X:Ctx} {fn:FuncId} {t b el:TypeId} {sz by_:Nat} {zs:List PV}
theorem cloneD_runs (hT:CloneT X.P t el sz by_ zs) {xs:List (List FV)} (hl:xs.all (λy=>y.length==sz)=true) (hroom:xs.length*by_<=room) {e:Env} {G:Heap} (h0:e 0 = .v (.sl xs)) :
  Runs X 8 fn (cloneD t) e G λx e' G'=>x = .ret/\∃ (lo hi:Nat) (L:List Res) (k:Nat),Has G' lo hi L/\L[k]? = some (.sl (e' 2) el sz xs true):=by
 have hc:=hT.hc
 simp only [Y8,beq_iff_eq,bne_iff_ne,ne_eq] at hc
 have H:Hs G []:=Has.nil (Y9 _)
 obtain ⟨e0,rfl⟩:=(show ZA e [(0,.v (.sl xs))] from ⟨h0,trivial⟩).ex
 show Runs X 8 fn (Code.seq _ _) _ _ _
 apply Runs.then
 refine Runs.ZS 4 rfl H ?_;intro b1 G H
 refine Ops.Z2B (zs:=zs) (sz:=sz) (pp:=[]) [] H (by omega) (by omega) hT.ht rfl hT.hs hT.hz (by simp only [Y8,beq_iff_eq,bne_iff_ne,ne_eq];exact ⟨⟨hc.2,hc.1.1⟩,by simp⟩) rfl rfl rfl rfl ?_;intro G H
 refine Ops.move (v:=.v (.sl xs)) rfl rfl ?_
 refine Ops.appendS (v:=.buf (b1+0) 0 sz) (w:=.v (.sl xs)) (xs:=[]) (ys:=xs) H (by omega) (by omega) 0 rfl rfl rfl (.p hl) hT.ht hT.hs hT.hb hT.hz hT.hc (by simpa using hroom) nofun rfl ?_;intro w G H
 refine Ops.assign (v:=w) rfl rfl ?_
 apply Ops.nil
 apply Runs.ret
 exact ⟨rfl,_,_,_,0,H,rfl⟩
theorem cloneOps_wp {s:St} {e:Env} {a:Act} (hX:CtxOK X) (hG:Zy X s) (hi:Inv s) (he:EnvR s 8 e a) (hT:CloneT X.P t el sz by_ zs) {xs:List (List FV)} (h0:e 0 = .v (.sl xs)) {Q:Exit->Act->World->Prop}
  (hQ:∀ (o:Option Addr) (a':Act) (w':World) (D':Nat->Nat),(o=none->xs=[])->Then s 8 a (putD 8 (putD 8 e (some 3) (.v (.sl xs))) (some 4) (.v (.bool o.isNone))) ⟨s.G.nx+2,s.G.ent⟩ a' w' D'->Q .normal a' w') :
  (Code.region 1 (Z23 t b) false).wp X.P Q a s.w:=by
 refine (wpIn_wide (n:=0)).1 (wpIn_region ?_)
 have hi':=Z3i hi 2
 have he':=he.mono (Z16 (s:=s) 2)
 have hG':=hG.mono (Z16 (s:=s) 2)
 have st : Z0A X (Zr X) 8 (Z23 t b) s.G.nx 0 { dst := some 3, op := .move (.tmp 0), type := t, pos := "slices.go:357", after := #[], guard := none } e (s.more 2).G = some (putD 8 e (some 3) (.v (.sl xs)), (s.more 2).G) := by
  simp only [Z0A,Zf,Z2,Z0,h0,Y6,Y1]
 have first:=stepO_ok (m:=0) (Q:=Q) (rd:=none) (s:=s.more 2) (a:=a) (callL_ok hX) hG' hi' he' (hi.nx _ (by omega)) (by simp only [St.more];omega) st (K:=wpOpsIn (Fw none) 0 X.P (Z23 t b) Q [1]) ?_
 ·have h0' : (Z23 t b)[0]? = some { dst := some 3, op := .move (.tmp 0), type := t, pos := "slices.go:357", after := #[], guard := none } := rfl
  have hr:List.range (Z23 t b).size=[0,1]:=rfl;rw [hr];simp only [wpOpsIn,h0'];exact first
 ·intro a1 w1 D1 ht;have hn := ht.env;have hw : Region.wanted ⟨some 4, .binOp .eql t (.tmp 3) (.const (.slice none 0 0)) t, b, "slices.go:357", #[{ on := 0, ground := .data }], none⟩ (yielded (Z23 t b) a1.tmps) = true := rfl
  have h1' : (Z23 t b)[1]? = some ⟨some 4, .binOp .eql t (.tmp 3) (.const (.slice none 0 0)) t, b, "slices.go:357", #[{ on := 0, ground := .data }], none⟩ := rfl
  simp only [wpOpsIn,h1'];rw [if_pos hw];have hp:PVR ⟨w1,(s.more 2).Y,(s.more 2).G,D1⟩ (.v (.sl xs)) (a1.eval (.tmp 3)):=by
   refine Z3 (X:=X) (hG.mono ((Z16 (s:=s) 2).trans ht.ev)) hn ?_;simp [Z0,putD,upd]
  obtain ⟨o, cap, hv, hcap, hf⟩ := sl_inv hp;have hs : ∀ o4 : Oper, o4 = ⟨some 4, .binOp .eql t (.tmp 3) (.const (.slice none 0 0)) t, b, "slices.go:357", #[{ on := 0, ground := .data }], none⟩ → o4.uponIn (Fw none) 0 X.P a1 (Z3h ⟨w1, (s.more 2).Y, (s.more 2).G, D1⟩ a1 (some 4) (.v (.bool o.isNone)) (s.more 2).G) Q ((o4.semAt (Fw none).round a1.eval).run X.P w1) := by
   intro o4 ho4;have hop:o4.op = .binOp .eql t (.tmp 3) (.const (.slice none 0 0)) t:=by rw [ho4]
   have hd4:o4.dst=some 4:=by rw [ho4]
   rw [Oper.semAt_eq _ _ _ (by intro c hc;rw [hop] at hc;cases hc)]
   simp only [execOp,hop];rw [<- hd4];refine Z0X (s:=⟨w1,(s.more 2).Y,(s.more 2).G,D1⟩) ht.inv ?_;rw [hv];have hg:(eqGuard .eql t (.tmp 3) (.const (.slice none 0 0)) (.slice o xs.length cap) (.slice none 0 0)).run X.P w1 = .ok () w1:=by simp [eqGuard]
   refine ⟨.bool o.isNone,?_,.v (.bool _)⟩;show (do eqGuard .eql t (.tmp 3) (.const (.slice none 0 0)) (.slice o xs.length cap) (.slice none 0 0);binOp .eql t (.slice o xs.length cap) (.slice none 0 0):Sem Value).run X.P w1=_;simp only [Sem.run_bind,hg,Result.andThen_ok];exact (Z2X (eqNil 9999 (Z0H hT.ht) o xs.length cap w1) (.inr (.inr ⟨_,_,_,_,_,_,rfl,rfl⟩))).1
  refine Oper.wpIn_mono (K:=Z3h ⟨w1,(s.more 2).Y,(s.more 2).G,D1⟩ a1 (some 4) (.v (.bool o.isNone)) (s.more 2).G) (λa' w' hh=>?_) ⟨λ_ _=>trivial,hs _ rfl⟩;obtain ⟨v,rfl,D',h2,h3,h4⟩:=hh;refine hQ o _ w' D' (λho=>?_) ⟨h2,((Z16 (s:=s) 2).trans ht.ev).trans h3,(hn.mono h3).put h4,(Z4a _ _ _).trans ht.defers⟩
  subst ho;generalize hz:Value.slice none xs.length cap=z at hf;cases hf with
  | nil=>rfl
  | empty=>rfl
  | sl=>cases hz
theorem clone_calls (hX:CtxOK X) {f:FuncId} {fu:Func} (hf:X.P.funcs[f]? = some fu) (hb:fu.body=some (cloneBody t b)) (hn:fu.ntmps=8) (hr:fu.results = #[.tmp 2]) (hg:∀ g,X.glob g=none)
  (hT:CloneT X.P t el sz by_ zs) {s:St} (hi:Inv s) {xs:List (List FV)} {v:Value} (hl:xs.all (λy=>y.length==sz)=true) (hroom:xs.length*by_<=room) (hv:PVR s (.v (.sl xs)) v) :
  Calls X.P f #[v] s.w λen w'=>∃ v',en = .returned v'/\Post s (.v (.sl xs)) s.G v' w':=by
 have hv1:PVRs s.under [.v (.sl xs)] #[v]:=⟨rfl,λi x hx=>by
  cases i with
  | zero=>cases hx;exact Z5X rfl hv
  | succ i=>simp at hx⟩
 have hiu:=Z5G hi
 have he:=env_of (s:=s.under) (k:=8) hv1
 have hG:∀ s,Zy X s:=λs g cells h=>by rw [hg] at h;cases h
 refine (callsIn_wide (n:=0)).1 (callsIn_of_wp_marks hf hb trivial ?_ rfl)
 rw [hn]
 refine wpIn_wide.2 ?_
 have fin:∀ e G a' w D (G3:Heap),Aft s.under 8 { tmps:=#[v]++Array.replicate (8-(#[v] : Array Value).size) undef,defers:=[] } e G a' w D->Z0B G (e 2)=some (.v (.sl xs),G3) ->
   bodyPostM Fence.wide 0 X.P fu (λen w'=>∃ v',en = .returned v'/\Post s (.v (.sl xs)) s.G v' w') .ret a' w:=by
  intro e G a' w D G3 ht h4;refine leaves_ok (X:=X) (fu:=fu) (xs:=[e 2]) rfl ht (by rw [hr];rfl) λv w' hp=>⟨v,rfl,?_⟩
  exact Z6S hi hp h4
 refine wp_seq ?_
 refine wp_mono (code_wp (X:=X) (s:=s.under) hX (fn:=f) (hG _) hiu he (Q:=λex e' G'=>ex = .normal/\e' 0 = .v (.sl xs)) ?_) ?_
 ·show Runs X 8 f (Code.region 0 (List.toArray [_]) false) _ ⟨0,λ_=>.none⟩ _;refine Runs.region rfl ?_;refine Ops.assign (v:=.nils) rfl rfl ?_;exact Ops.nil ⟨rfl,rfl⟩
 rintro ex a1 w1 ⟨x1,e1,G1,D1,⟨rfl,k0⟩,rfl,ht1⟩
 simp only [Ex.out,Exit.then]
 refine wp_seq (wp_seq ?_)
 refine cloneOps_wp (s:=⟨w1,s.under.Y,G1,D1⟩) hX (hG _) ht1.inv ht1.env hT k0 ?_
 intro o a2 w2 D2 ho ht2
 have ht12:=ht1.trans ht2.aft
 simp only [Exit.then]
 generalize he2:putD 8 (putD 8 e1 (some 3) (.v (.sl xs))) (some 4) (.v (.bool o.isNone))=e2 at ht2 ht12
 have q0:e2 0 = .v (.sl xs):=by rw [<- he2];simpa [putD,upd] using k0
 have q4:e2 4 = .v (.bool o.isNone):=by rw [<- he2];simp [putD,upd]
 refine wp_mono (code_wp (X:=X) (s:=⟨w2,s.under.Y,⟨G1.nx+2,G1.ent⟩,D2⟩) hX (fn:=f) (hG _) ht2.inv ht2.env (Q:=λex e' G'=>(xs=[]/\ex = .ret/\e' 2 = .nils)\/(ex = .normal/\e' 0 = .v (.sl xs))) ?_) ?_
 ·cases o with
  | none=>
   refine Runs.yes (by simp only [Z0,q4];rfl) ?_
   refine Runs.then ?_;refine Runs.region (l:=[_]) rfl ?_;refine Ops.assign (v:=.nils) rfl rfl ?_;refine Ops.nil ?_;refine Runs.ret ?_;exact .inl ⟨ho rfl,rfl,rfl⟩
  | some o=>
   refine Runs.no (by simp only [Z0,q4];rfl) ?_
   exact Runs.skip (.inr ⟨rfl,q0⟩)
 rintro ex a3 w3 ⟨x3,e3,G3,D3,hq,rfl,ht3⟩
 have ht13:=ht12.trans ht3
 rcases hq with ⟨rfl,rfl,k2⟩|⟨rfl,k3⟩
 ·simp only [Ex.out,Exit.then];exact fin e3 G3 a3 w3 D3 G3 ht13 (by rw [k2];rfl)
 ·simp only [Ex.out,Exit.then];refine wp_mono (code_wp (X:=X) (s:=⟨w3,s.under.Y,G3,D3⟩) hX (fn:=f) (hG _) ht3.inv ht3.env (cloneD_runs hT hl hroom k3)) ?_;rintro ex a4 w4 ⟨x4,e4,G4,D4,⟨rfl,lo,hi4,L,k,H4,hk⟩,rfl,ht4⟩;obtain ⟨G5,q,_⟩:=expR_ok H4 (ExpR.one (.c (.s k hk)));exact fin e4 G4 a4 w4 D4 G5 (ht13.trans ht4) q
end Go.Dn

namespace Go.Dn
open Go
theorem Has.perm {G:Heap} {lo hi:Nat} {L L':List Res} (H:Has G lo hi L) (hp:L.Perm L'):Has G lo hi L':=by
 have mem:∀ {A:List Res},(∀ (k:Nat) (r:Res),A[k]? = some r->r.holds G) ↔ ∀ r∈A,r.holds G:=λ{A}=>
  ⟨λh r hr=>by obtain ⟨k,hk⟩:=Y0M hr;exact h k r hk,λh k r hk=>h r (YB hk)⟩
 have pw:L.Pairwise (λr s=>∀ id,r.owner=some id->s.owner≠some id):=by
  rw [Y07];intro i j hi' hj hij;exact H.sep i j _ _ (by omega) (Y7 hi') (Y7 hj)
 have pw':L'.Pairwise (λr s=>∀ id,r.owner=some id->s.owner≠some id):=(hp.pairwise_iff (λ{a b} h id h1 h2=>h id h2 h1)).1 pw
 refine ⟨mem.2 λr hr=>mem.1 H.holds r (hp.mem_iff.2 hr),λk r hk=>?_,λi j r s hij h1 h2=>?_,H.le⟩
 ·obtain ⟨k',hk'⟩:=Y0M (hp.mem_iff.2 (YB hk));exact H.lt k' r hk'
 ·obtain ⟨hi',rfl⟩:=List.getElem?_eq_some_iff.1 h1;obtain ⟨hj',rfl⟩:=List.getElem?_eq_some_iff.1 h2;rw [Y07] at pw';rcases Ya i j with h|h
  ·exact pw' i j hi' hj' h
  ·intro id h3 h4;exact pw' j i hj' hi' (by omega) id h4 h3
def pdOf:Ex->Option Code
 | .normal=>none
 | .exit t=>some (.exit t)
 | .ret=>some .ret
theorem Has.slCells {G:Heap} {lo hi:Nat} {L:List Res} {k:Nat} {v:PV} {et:TypeId} {sz:Nat} {xs:List (List FV)} {lv:Bool} (H:Has G lo hi L) (h:L[k]? = some (.sl v et sz xs lv)):v.cells=some [v]:=by
 rcases (H.holds k _ h).2 with ⟨rfl,_⟩|⟨id,rfl,_⟩<;>rfl
theorem Runs.env {X:Ctx} {n:Nat} {fn:FuncId} {c:Code} {e:Env} {G:Heap} {Q:Ex->Env->Heap->Prop} (l:List (Nat×PV)) (he:ZA e l) (h:∀ e0,Runs X n fn c (sets e0 l) G Q):Runs X n fn c e G Q:=by
 obtain ⟨e0,rfl⟩:=he.ex
 exact h e0
section
variable {X:Ctx}
def YldH (X:Ctx) (id:Nat) {S T:Type} (C:S->List Res->Prop) (pvT:T->List PV) (y:S->T->Option (S×Bool)):Prop :=
 ∀ s t s' b,y s t=some (s',b)->∀ G lo hi O L,C s L->Has G lo hi (O++L)->∃ G' L',Zr X (.yld id) (pvT t) G=some (.v (.bool b),G')/\C s' L'/\Hs G' (O++L')
def ItF (X:Ctx) (f:FuncId) (args:List PV) {S:Type} (C:S->List Res->Prop) (s s':S):Prop :=
 ∀ G L,C s L->Hs G L->∃ G' L',Zr X (.fn f) args G=some (.tup [],G')/\C s' L'/\Hs G' L'
structure EndsI {S:Type} (C:S->List Res->Prop) (s:S) (x:Ex) (e:Env) (G:Heap):Prop where
 out:(x = .normal\/x = .ret)/\∃ L,C s L/\Hs G L
theorem EndsI.H {S:Type} {C:S->List Res->Prop} {s:S} {x:Ex} {e:Env} {G:Heap} {lo hi:Nat} {L L0:List Res} (hx:x = .normal\/x = .ret) (H:Has G lo hi L) (k:Nat) (hk:L.drop k=L0) (hC:C s L0):EndsI C s x e G :=
 ⟨hx,L0,hC,(hk▸H.drop k:Has G lo hi L0).all⟩
theorem ItF.of {f:FuncId} {args:List PV} {S:Type} {C:S->List Res->Prop} {s s':S} {fu:Func} {c:Code} {m:Nat} (hf:X.P.funcs[f]? = some fu) (hb:fu.body=some c) (hr:fu.results = #[]) (hi:X.intr f args=none) (hk:X.keep f=false) (ho:X.opn f=false) (hs:args.all PV.still=true)
  (hp:args.all PV.pure=false) (hm:max fu.ntmps args.length=m) (h:∀ G L,C s L->Hs G L->Runs X m f c (Z36 args) G (EndsI C s')):ItF X f args C s s':=by
 subst hm
 intro G L hC H
 obtain ⟨lf,x,e',G1,h1,hE⟩:=(h G L hC H).run
 obtain ⟨hx,L',hC',H'⟩:=hE.out
 refine ⟨G1,L',Z11 (lf:=lf) ?_,hC',H'⟩
 have hbody:Z0J X (Zr X) lf f args G=some (.tup [],G1):=by
  simp only [Z0J,hf,hb,h1];rcases hx with rfl|rfl<;>simp [hr,Zl,Z0Q]
 simp only [Z2Y,hi,hk,Bool.false_and,YA,if_false,Z2p hs,ho,hp,hbody,Y1]
 rfl
section
variable {n:Nat} {dr:Bool} {fn:FuncId} {ops:Array Oper} {base i:Nat} {l:List Oper} {e:Env} {G:Heap} {K:Env->Heap->Prop} {Q:Ex->Env->Heap->Prop}
variable {d:Nat} {t:TypeId} {p:String} {af:Array Edge} {x:Operand} {lo hi:Nat} {L:List Res}
end
def RangeC (id:Nat) (fn:FuncId) (e:Env) (n:Nat) (ps:List Nat) (as_ bo:Code) {S:Type} (Co:S->List Res->Prop) (pd:Nat->Option Code):S×Nat->List Res->Prop :=
 λs L=>∃ M,Co s.1 M/\L = .loop id fn e n ps as_ bo (if s.2=0 then .ready else .done) (pd s.2)::M
variable {n:Nat} {fn:FuncId} {e:Env} {G:Heap} {Q:Ex->Env->Heap->Prop}
def BodyOK (X:Ctx) (n:Nat) (fn:FuncId) (e:Env) (ps:List Nat) (as_ bo:Code) {S T:Type} (Co:S->List Res->Prop) (pvT:T->List PV) (yb:S->T->Option (S×Nat)) (pd:Nat->Option Code):Prop :=
 ∀ (R0 R1:Res) s t s' p,yb s t=some (s',p)->∀ G M O,Co s M->Hs G (R0::(M++O)) ->
  Runs X n fn as_ (Z1v e n ps (pvT t)) G λx e1 G1=>x = .normal/\∃ M1,Hs G1 (R0::(M1++O)) /\
   ∀ G2,Hs G2 (R1::(M1++O))->Runs X n fn bo e1 G2 λx e2 G3=>(pdOf x=pd p/\(x = .normal↔p=0))/\∃ M2,Co s' M2/\Hs G3 (R1::(M2++O))
theorem callO_of {f:FuncId} {args:List PV} {fu:Func} {c:Code} {m:Nat} {G:Heap} {Post:PV->Heap->Prop} (hf:X.P.funcs[f]? = some fu) (hb:fu.body=some c) (hi:X.intr f args=none) (hk:X.keep f=false) (ho:X.opn f=true) (hp:args.all PV.pure=true) (hm:max fu.ntmps args.length=m)
  (h:Runs X m f c (Z36 args) G λx e G'=>(x = .normal\/x = .ret)/\∃ xs,Zl X.P e G' fu.results.toList=some xs/\Post (Z0Q xs) G'):∃ r G',Zr X (.fn f) args G=some (r,G')/\Post r G':=by
 subst hm
 obtain ⟨lf,x,e',G1,h1,hx,xs,h2,h3⟩:=h.run
 refine ⟨Z0Q xs,G1,Z11 (lf:=lf) ?_,h3⟩
 have hbody:Z0J X (Zr X) lf f args G=some (Z0Q xs,G1):=by
  simp only [Z0J,hf,hb,h1];rcases hx with rfl|rfl<;>simp only [h2,Y6]
 simp only [Z2Y,hi,hk,YA,if_false,Z0W hp,ho,if_true,hbody]
end
end Go.Dn

namespace Go.Dn
open Go
theorem Has.pickT {G:Heap} {lo hi:Nat} {T:List Res} (A:List Res) (ks:List Nat) (hn:ks.Nodup) (hk:ks.all (Nat.blt · A.length)=true) (H:Has G lo hi (A++T)):Has G lo hi (Dn.pick A ks++T):=by
 have hk':∀ k∈ks,k<A.length:=λk h=>by
  have:=List.all_eq_true.1 hk k h;exact Yg this
 have h:=H.pick (ks++(List.range T.length).map (A.length+·)) (by
  refine List.nodup_append.2 ⟨hn,?_,?_⟩
  ·exact List.Pairwise.map _ (λa b hab=>by omega) List.nodup_range
  ·intro a ha b hb;obtain ⟨j,_,rfl⟩:=List.mem_map.1 hb;have:=hk' a ha;omega)
 have fc:∀ (f g:Nat->Option Res) (l:List Nat),(∀ k∈l,f k=g k)->l.filterMap f=l.filterMap g:=by
  intro f g l
  induction l with
  | nil=>intro _;rfl
  | cons k l ih=>
   intro h;rw [List.filterMap_cons,List.filterMap_cons,h k YU,ih λk hk=>h k (YO _ hk)]
 have fr:∀ (T:List Res),List.filterMap (λj=>T[j]?) (List.range T.length)=T:=by
  intro T
  induction T with
  | nil=>rfl
  | cons r T ih=>
   rw [Yi,List.range_succ_eq_map,List.filterMap_cons,List.filterMap_map];simp only [List.getElem?_cons_zero]
   congr 1
 have e:Dn.pick (A++T) (ks++(List.range T.length).map (A.length+·))=Dn.pick A ks++T:=by
  unfold Dn.pick;rw [List.filterMap_append]
  congr 1
  ·exact fc _ _ _ λk hm=>YP (hk' k hm)
  ·rw [List.filterMap_map];refine Eq.trans (fc _ _ _ λj _=>?_) (fr T);simp [Function.comp,YI]
 rw [<- e];exact h
theorem Has.mem {G:Heap} {lo hi:Nat} {L:List Res} (H:Has G lo hi L):∀ r∈L,r.holds G/\∀ id,r.owner=some id->(id<lo\/hi<=id)/\id<G.nx:=λr hr=>by
 obtain ⟨k,hk⟩:=Y0M hr
 exact ⟨H.holds k r hk,H.lt k r hk⟩
abbrev Apart (r s:Res):Prop:=∀ id,r.owner=some id->s.owner≠some id
theorem Has.pw {G:Heap} {lo hi:Nat} {L:List Res} (H:Has G lo hi L):L.Pairwise Apart:=by
 rw [Y07]
 intro i j hi' hj hij
 exact H.sep i j _ _ (by omega) (Y7 hi') (Y7 hj)
theorem Has.mk' {G:Heap} {lo hi:Nat} {L:List Res} (hm:∀ r∈L,r.holds G/\∀ id,r.owner=some id->(id<lo\/hi<=id)/\id<G.nx) (hp:L.Pairwise Apart) (hle:hi<=G.nx):Has G lo hi L:=by
 refine ⟨λk r hk=>(hm r (YB hk)).1,λk r hk=>(hm r (YB hk)).2,λi j r s hij h1 h2=>?_,hle⟩
 obtain ⟨hi',rfl⟩:=List.getElem?_eq_some_iff.1 h1
 obtain ⟨hj',rfl⟩:=List.getElem?_eq_some_iff.1 h2
 rw [Y07] at hp
 rcases Ya i j with h|h
 ·exact hp i j hi' hj' h
 ·intro id h3 h4;exact hp j i hj' hi' (by omega) id h4 h3
def holes (lo hi:Nat):List Res:=.floor hi::(List.range (hi-lo)).map λj=>.hole (lo+j)
theorem mem_holes {lo hi:Nat} {r:Res} (h:r∈holes lo hi):r = .floor hi\/∃ id,r = .hole id/\lo<=id/\id<hi:=by
 rcases List.mem_cons.1 h with h|h
 ·exact .inl h
 ·obtain ⟨j,hj,rfl⟩:=List.mem_map.1 h;have:=List.mem_range.1 hj;exact .inr ⟨_,rfl,by omega,by omega⟩
theorem Has.holesIn {G:Heap} {lo hi:Nat} {L:List Res} (H:Has G lo hi L):Hs G (L++holes lo hi):=by
 refine Has.mk' (λr hr=>?_) ?_ (Y9 _)
 ·rcases List.mem_append.1 hr with h|h
  ·exact ⟨(H.mem r h).1,λid ho=>⟨.inl ((H.mem r h).2 id ho).2,((H.mem r h).2 id ho).2⟩⟩
  ·rcases mem_holes h with rfl|⟨id,rfl,h1,h2⟩
   ·exact ⟨H.le,λid ho=>by cases ho⟩
   ·refine ⟨trivial,λid' ho=>?_⟩;cases ho;have:=H.le;exact ⟨.inl (by omega),by omega⟩
 ·refine List.pairwise_append.2 ⟨H.pw,?_,?_⟩
  ·refine List.pairwise_cons.2 ⟨λr _ id ho=>(by cases ho),?_⟩
   refine List.Pairwise.map _ ?_ List.nodup_range;intro a b hab id h1 h2;have h1:lo+a=id:=Option.some.inj h1;have h2:lo+b=id:=Option.some.inj h2;omega
  ·intro r hr s hs id h1 h2;have:=((H.mem r hr).2 id h1).1;rcases mem_holes hs with rfl|⟨id',rfl,h3,h4⟩
   ·cases h2
   ·cases h2;omega
theorem Has.holesOut {G:Heap} {lo hi:Nat} {A L:List Res} (H:Hs G (A++(L++holes lo hi))):Has G lo hi (A++L):=by
 rw [<- YR] at H
 have hp:=List.pairwise_append.1 H.pw
 refine Has.mk' (λr hr=>?_) hp.1 ?_
 ·have h1:=H.mem r (Yy _ hr);refine ⟨h1.1,λid ho=>⟨?_,(h1.2 id ho).2⟩⟩;rcases Ya id lo with h|h
  ·exact .inl h
  ·rcases Ya id hi with h'|h'
   ·exact absurd rfl (hp.2.2 r hr (.hole id) (YO _ (List.mem_map.2 ⟨id-lo,List.mem_range.2 (by omega),by congr 1;omega⟩)) id ho)
   ·exact .inr h'
 ·exact (H.mem (.floor hi) (Yu _ YU)).1
section
variable {X:Ctx} {f:FuncId} {fu:Func} {c:Code} {m:Nat} {G:Heap} {cv:PV} {ys args:List PV} {L:List Res} {PostA:PV->List Res->Prop}
def CallI (X:Ctx) (cv:PV) (ys:List PV) (G:Heap) (T:List Res) (PostA:PV->List Res->Prop):Prop:=∃ r G' A,callV X cv ys G=some (r,G')/\PostA r A/\Hs G' (A++T)
theorem callI_of (hf:X.P.funcs[f]? = some fu) (hb:fu.body=some c) (hcv:∀ G,callV X cv ys G=Zr X (.fn f) args G) (hi:X.intr f args=none) (hk:X.keep f=true) (ho:X.opn f=true) (hm:max fu.ntmps args.length=m) {T:List Res}
  (h:Runs X m f c (Z36 args) G λx e G'=>(x = .normal\/x = .ret)/\∃ xs,Zl X.P e G' fu.results.toList=some xs/\∃ A,PostA (Z0Q xs) A/\Hs G' (A++T)):CallI X cv ys G T PostA:=by
 subst hm
 obtain ⟨lf,x,e',G1,h1,hx,xs,h2,A,h3,h4⟩:=h.run
 refine ⟨Z0Q xs,G1,A,?_,h3,h4⟩
 rw [hcv]
 refine Z11 (lf:=lf) ?_
 have hbody:Z0J X (Zr X) lf f args G=some (Z0Q xs,G1):=by
  simp only [Z0J,hf,hb,h1];rcases hx with rfl|rfl<;>simp only [h2,Y6]
 simp only [Z2Y,hi,hk,if_true,ho,hbody]
theorem callIO_of (hf:X.P.funcs[f]? = some fu) (hb:fu.body=some c) (hcv:∀ G,callV X cv ys G=Zr X (.fn f) args G) (hi:X.intr f args=none) (hk:X.keep f=false) (ho:X.opn f=true) (hp:args.all PV.pure=true) (hm:max fu.ntmps args.length=m) {T:List Res}
  (h:Runs X m f c (Z36 args) G λx e G'=>(x = .normal\/x = .ret)/\∃ xs,Zl X.P e G' fu.results.toList=some xs/\∃ A,PostA (Z0Q xs) A/\Hs G' (A++T)):CallI X cv ys G T PostA:=by
 obtain ⟨r,G',h1,A,h2,h3⟩:=callO_of (Post:=λr G'=>∃ A,PostA r A/\Hs G' (A++T)) hf hb hi hk ho hp hm h
 exact ⟨r,G',A,by rw [hcv];exact h1,h2,h3⟩
end
section
variable {X:Ctx} {n:Nat} {dr:Bool} {fn:FuncId} {ops:Array Oper} {base i:Nat} {l:List Oper} {e:Env} {G:Heap} {K:Env->Heap->Prop}
variable {d:Nat} {t t1:TypeId} {p:String} {af:Array Edge} {x:Operand} {lo hi:Nat} {L:List Res}
theorem callV_step {cv:PV} {args:List PV} {r:PV} {G':Heap} {c:Call} {id0:Nat} (hc:c.callee = .value x) (hx:Z0 X e x=some cv) (ha:ZG X e c.args.toList=some args) (h:Dn.callV X cv args G=some (r,G')):ZU X (Zr X) e G id0 c=some (r,G'):=by
 simp only [ZU,ha,hc,hx]
 unfold Dn.callV at h
 split at h
 ·exact h
 ·exact h
 ·cases h
theorem Sub.more {C L M:List Res} (h:Sub C L):Sub C (L++M):=by
 induction h with
 | nil=>exact .nil
 | cons k h t ih=>
  refine .cons k ?_ ih;rw [YP (List.getElem?_eq_some_iff.1 h).1,h]
theorem Z6G {cv:PV} {ys:List PV} {PostA:PV->List Res->Prop} (A:List Res) (H:Has G lo hi (A++L)) (hf:∀ T,(∀ C,Sub C L->Sub C T)->Hs G (A++T)->CallI X cv ys G T PostA) :
  ∃ r G' A',Dn.callV X cv ys G=some (r,G')/\PostA r A'/\Has G' lo hi (A'++L):=by
 have hsub:∀ C,Sub C L->Sub C (L++holes lo hi):=λC h=>h.more
 have H1:=H.holesIn
 rw [YR] at H1
 obtain ⟨r,G',A',h1,h2,h3⟩:=hf (L++holes lo hi) hsub H1
 exact ⟨r,G',A',h1,h2,h3.holesOut⟩
theorem Ops.callI {cv:PV} {args:Array Operand} {ts:Array TypeId} {ys:List PV} {PostA:PV->List Res->Prop} (A:List Res) (H:Has G lo hi (A++L)) (hx:Z0 X e x=some cv) (ha:ZG X e args.toList=some ys) (hf:∀ T,(∀ C,Sub C L->Sub C T)->Hs G (A++T)->CallI X cv ys G T PostA) (hdr:dr=true->Z18 (Region.before ops) ops i=true) (hd:Nat.blt d n=true)
  (hk:∀ r A' G',PostA r A'->Has G' lo hi (A'++L)->Ops X n dr ops base (i+1) l (set e d r) G' K) :
  Ops X n dr ops base i (⟨some d,.call { callee:=.value x,args:=args,argTypes:=ts },t,p,af,none⟩::l) e G K:=by
 obtain ⟨r,G',A',q1,q2,q3⟩:=Z6G A H hf
 exact .plain (x:=r) (G1:=G') (by simp only [Z2];exact callV_step rfl hx ha q1) (λh=>Z3D (hdr h)) hd (hk r A' G' q2 q3)
def FnO (X:Ctx) (f:FuncId) (args:List PV) (PostA:PV->List Res->Prop):Prop:=∀ G T,Hs G T->CallI X (.v (.fn f)) args G T PostA
theorem FnO.of {f:FuncId} {fu:Func} {c:Code} {m:Nat} {args:List PV} {PostA:PV->List Res->Prop} (hf:X.P.funcs[f]? = some fu) (hb:fu.body=some c) (hi:X.intr f args=none) (hk:X.keep f=false) (ho:X.opn f=true) (hp:args.all PV.pure=true) (hm:max fu.ntmps args.length=m)
  (h:∀ G T,Hs G T->Runs X m f c (Z36 args) G λx e G'=>(x = .normal\/x = .ret)/\∃ xs,Zl X.P e G' fu.results.toList=some xs/\∃ A,PostA (Z0Q xs) A/\Hs G' (A++T)):FnO X f args PostA :=
 λG T H=>callIO_of hf hb (λ_=>rfl) hi hk ho hp hm (h G T H)
theorem Ops.Z2A {f:FuncId} {args:Array Operand} {ts:Array TypeId} {ys:List PV} {PostA:PV->List Res->Prop} (H:Has G lo hi L) (ha:ZG X e args.toList=some ys) (hf:FnO X f ys PostA) (hdr:dr=true->Z18 (Region.before ops) ops i=true) (hd:Nat.blt d n=true)
  (hk:∀ r A' G',PostA r A'->Has G' lo hi (A'++L)->Ops X n dr ops base (i+1) l (set e d r) G' K) :
  Ops X n dr ops base i (⟨some d,.call { callee:=.value (.func f),args:=args,argTypes:=ts },t,p,af,none⟩::l) e G K :=
 Ops.callI [] H rfl ha (λT _ H=>hf G T H) hdr hd hk
inductive ExpP:List Res->List (Nat×PV)->List (Nat×PV)->List Res->Prop
 | nil {L:List Res}:ExpP L [] [] L
 | keep {L L':List Res} {j:Nat} {x:PV} {ps qs:List (Nat×PV)} (h:needF x=false) (t:ExpP L ps qs L'):ExpP L ((j,x)::ps) ((j,x)::qs) L'
 | exp {L L1 L2:List Res} {j:Nat} {x y:PV} {ps qs:List (Nat×PV)} (h:ExpV L x y L1) (t:ExpP L1 ps qs L2):ExpP L ((j,x)::ps) ((j,y)::qs) L2
def FrzOK (ops:Array Oper) (base i:Nat) (pp:List (Nat×PV)):Prop :=
 Z18 (Region.before ops) ops i=true\/∃ ms:List Nat,(pp.flatMap λp=>Z2q p.2)=ms.map (base+·) /\
  (ms.all λm=>Nat.blt m ops.size&&((Region.before ops).getD i 0).testBit m&&(List.range ops.size).all λj=>!(unord (Region.before ops) i j&&((Region.before ops).getD j 0).testBit m))=true
end
theorem loopD_up (step step':Env->Heap->Option Out) (hst:∀ e G r,step e G=some r->step' e G=some r) (j j':Nat) (hj:j<=j') (e:Env) (G:Heap) (r:Out) (h:Z0Z step j e G=some r):Z0Z step' j' e G=some r:=by
 induction j generalizing j' e G r with
 | zero=>simp [Z0Z] at h
 | succ j ihj=>
  obtain ⟨j',rfl⟩ : ∃ i,j'=i+1:=⟨j'-1,by omega⟩
  simp only [Z0Z] at h ⊢
  split at h
  ·rename_i h1;rw [hst _ _ _ h1];exact ihj j' (by omega) _ _ _ h
  ·rename_i hn;rw [hst _ _ _ h]
   split
   ·rename_i heq;rw [h] at hn;cases heq;exact absurd rfl (hn _ _)
   ·rfl
theorem Runs.again {X:Ctx} {n:Nat} {fn:FuncId} {c:Code} {e:Env} {G:Heap} {Q:Ex->Env->Heap->Prop} (h:Runs X n fn c e G (Then' (λe G=>Runs X n fn (.loop c) e G Q) Q)):Runs X n fn (.loop c) e G Q:=by
 obtain ⟨l1,x,e1,G1,h1,h2⟩:=h.run
 cases x with
 | normal=>
  obtain ⟨l2,y,e2,G2,h3,h4⟩:=Runs.run h2;refine ⟨max l1 l2+1,y,e2,G2,?_,h4⟩;simp only [Z5] at h3 ⊢;simp only [Z0Z,Z0c (show l1<=max l1 l2+1 by omega) h1]
  exact loopD_up _ _ (λe G r h=>Z0c (show l2<=max l1 l2+1 by omega) h) l2 _ (by omega) _ _ _ h3
 | exit id=>
  refine ⟨l1+1,_,e1,G1,?_,h2⟩;simp only [Z5,Z0Z,Z0c (show l1<=l1+1 by omega) h1]
 | ret=>
  refine ⟨l1+1,_,e1,G1,?_,h2⟩;simp only [Z5,Z0Z,Z0c (show l1<=l1+1 by omega) h1]
end Go.Dn

namespace Go.Dn
open Go
section
variable {X:Ctx} {n:Nat} {fn:FuncId} {ops:Array Oper} {base i:Nat} {l:List Oper} {e:Env} {G:Heap} {K:Env->Heap->Prop}
variable {d:Nat} {t t1:TypeId} {p:String} {af:Array Edge} {x y z:Operand} {lo hi k:Nat} {L:List Res}
end
theorem Ops.na {X:Ctx} {n:Nat} {dr:Bool} {ops:Array Oper} {base i:Nat} {e:Env} {G:Heap} {K:Env->Heap->Prop} {lo hi:Nat} {L:List Res} (H:Has G lo hi L) (h:Hs G L->K e G):Ops X n dr ops base i [] e G K:=.nil (h H.all)
theorem callO_exp {X:Ctx} {f:FuncId} {args ys:List PV} {r:PV} {G G' G2:Heap} (hk:X.keep f=false) (ho:X.opn f=true) (hi0:X.intr f args=none) (hi1:X.intr f ys=none) (he:Zu G args=some (ys,G')) (hp:ys.all PV.pure=true) (h:Zr X (.fn f) ys G'=some (r,G2)):Zr X (.fn f) args G=some (r,G2):=by
 obtain ⟨k,hk'⟩:=Z07.1 h
 refine Z07.2 ⟨k,?_⟩
 cases k with
 | zero=>simp [Zp] at hk'
 | succ k=>
  simp only [Zp,hi1,hk,YA,if_false,Z0W hp,ho,if_true] at hk';simp only [Zp,hi0,hi1,hk,YA,if_false,he,ho,if_true];exact hk'
theorem Ops.callFOX {X:Ctx} {n:Nat} {dr:Bool} {ops:Array Oper} {base i:Nat} {l:List Oper} {e:Env} {G:Heap} {K:Env->Heap->Prop} {d:Nat} {t:TypeId} {p:String} {af:Array Edge} {lo hi:Nat} {L:List Res}
  {f:FuncId} {args:Array Operand} {ts:Array TypeId} {xs ys:List PV} {PostA:PV->List Res->Prop} {L':List Res} (H:Has G lo hi L) (ha:ZG X e args.toList=some xs) (hE:ExpVs L xs ys L') (hf:FnO X f ys PostA) (hk0:X.keep f=false) (ho:X.opn f=true) (hi0:X.intr f xs=none) (hi1:X.intr f ys=none) (hdr:dr=true->Z18 (Region.before ops) ops i=true) (hd:Nat.blt d n=true)
  (hk:∀ r A' G',PostA r A'->Has G' lo hi (A'++L')->Ops X n dr ops base (i+1) l (set e d r) G' K) :
  Ops X n dr ops base i (⟨some d,.call { callee:=.value (.func f),args:=args,argTypes:=ts },t,p,af,none⟩::l) e G K:=by
 obtain ⟨G',_,q1,q2,_,q3⟩:=Z3q H hE
 obtain ⟨r,G2,A',p1,p2,p3⟩:=Z6G (X:=X) (cv:=.v (.fn f)) (ys:=ys) (PostA:=PostA) [] q2 (λT _ H=>hf G' T H)
 refine .plain (x:=r) (G1:=G2) ?_ (λh=>Z3D (hdr h)) hd (hk r A' G2 p2 p3)
 simp only [Z2,ZU,ha,Z0]
 exact callO_exp hk0 ho hi0 hi1 q1 q3 p1
section
variable {X:Ctx} {n:Nat} {dr:Bool} {ops:Array Oper} {base i:Nat} {l:List Oper} {e:Env} {G:Heap} {K:Env->Heap->Prop}
variable {d:Nat} {t t1:TypeId} {p:String} {af:Array Edge} {x y z:Operand} {lo hi k:Nat} {L:List Res}
end
end Go.Dn

namespace Go.Dn
open Go
def Res.solid:Res->Bool
 | .hole _=>false
 | _=>true
def star (G:Heap):Res->Res
 | .hole id=>.fix id (G.ent id)
 | r=>r
theorem Z6C {G:Heap} {r:Res}:(star G r).owner=r.owner:=by cases r<;>rfl
theorem star_holds {G:Heap} {r:Res} (h:r.holds G):(star G r).holds G:=by cases r<;>first|exact h|exact rfl
theorem solid_star {G:Heap} {r:Res} (h:r.solid=true):star G r=r:=by cases r<;>first|rfl|cases h
section
variable {G:Heap} {lo hi:Nat} {L C:List Res}
theorem Has.star (H:Has G lo hi L):Has G G.nx G.nx (L.map (star G)):=by
 refine ⟨λk r h=>?_,λk r h id ho=>?_,λj k r s hjk h1 h2 id ho=>?_,Y9 _⟩
 ·rw [YK,Y0] at h;obtain ⟨q,hq,rfl⟩:=h;exact star_holds (H.holds k q hq)
 ·rw [YK,Y0] at h;obtain ⟨q,hq,rfl⟩:=h;rw [Z6C] at ho;have:=(H.lt k q hq id ho).2;exact ⟨.inl this,this⟩
 ·rw [YK,Y0] at h1 h2;obtain ⟨q,hq,rfl⟩:=h1;obtain ⟨q',hq',rfl⟩:=h2;rw [Z6C] at ho ⊢;exact H.sep j k q q' hjk hq hq' id ho
theorem Has.add (H:Has G G.nx G.nx L) {id:Nat} (hl:id<G.nx) (hn:∀ r∈L,r.owner≠some id):Has G G.nx G.nx (.fix id (G.ent id)::L):=by
 refine ⟨λj s h=>?_,λj s h id' ho2=>?_,λi j s t hij h1 h2 id' hs=>?_,H.le⟩
 ·cases j with
  | zero=>cases h;exact rfl
  | succ j=>exact H.holds j s h
 ·cases j with
  | zero=>cases h;cases ho2;exact ⟨.inl hl,hl⟩
  | succ j=>exact H.lt j s h id' ho2
 ·cases i with
  | zero=>
   cases h1;cases hs;cases j with
   | zero=>exact absurd rfl hij
   | succ j=>exact hn t (YB h2)
  | succ i=>
   cases j with
   | zero=>
    cases h2;intro e;cases e;exact hn s (YB h1) hs
   | succ j=>exact H.sep i j s t (λe=>hij (by rw [e])) h1 h2 id' hs
def fixL (G:Heap) (L:List Res):Nat->List Res
 | 0=>L.map (star G)
 | k+1=>if (fixL G L k).any (λr=>r.owner==some k) then fixL G L k else .fix k (G.ent k)::fixL G L k
theorem Sub.star {C L:List Res} (h:Sub C L):C.all Res.solid=true->Sub C (L.map (star G)):=by
 induction h with
 | nil=>intro _;exact .nil
 | cons k h t ih=>
  intro hs;simp only [Yf,Y8] at hs;exact .cons k (by rw [YK,h,Y6,solid_star hs.1]) (ih hs.2)
end
section
variable {X:Ctx} {n:Nat} {dr:Bool} {fn:FuncId} {ops:Array Oper} {base i:Nat} {l:List Oper} {e:Env} {G:Heap} {K:Env->Heap->Prop}
variable {d:Nat} {t:TypeId} {p:String} {af:Array Edge} {x:Operand} {lo hi:Nat} {L C:List Res}
end
inductive FzC (L:List Res):PV->FV->Prop
 | v (y:FV):FzC L (.v y) y
 | n:FzC L .nils (.sl [])
 | ro {v:PV} {xs:List (List FV)} (h:RO v xs):FzC L v (.sl xs)
 | s {v:PV} {et:TypeId} {sz:Nat} {xs:List (List FV)} (k:Nat) (h:L[k]? = some (.sl v et sz xs false)):FzC L v (.sl xs)
inductive FzCs (L:List Res):List PV->List FV->Prop
 | nil:FzCs L [] []
 | cons {x:PV} {y:FV} {xs:List PV} {ys:List FV} (h:FzC L x y) (t:FzCs L xs ys):FzCs L (x::xs) (y::ys)
inductive FzV (L:List Res):PV->PV->Prop
 | c {x:PV} {y:FV} (h:FzC L x y):FzV L x (.v y)
 | a {xs:List PV} {ys:List FV} (h:FzCs L xs ys):FzV L (.agg xs) (.agg (vs ys))
 | p {x:PV} (h:x.pure=true):FzV L x x
inductive FzVs (L:List Res):List PV->List PV->Prop
 | nil:FzVs L [] []
 | cons {x y:PV} {xs ys:List PV} (h:FzV L x y) (t:FzVs L xs ys):FzVs L (x::xs) (y::ys)
section
variable {G:Heap} {lo hi:Nat} {L:List Res}
end
def PV.one:PV->Bool
 | .v _=>true
 | .fptr _=>true
 | .ptr _ _ _=>true
 | .clo _ _ _=>true
 | .yld _=>true
 | _=>false
theorem Z3y {x:PV} (h:x.one=true):x.still=true:=by cases x<;>first|rfl|cases h
end Go.Dn

namespace Go.Dn
open Go
def cF (n:Nat):List FV:=[.fn n]
def tailsOK (ops:Array Oper):Nat->List Oper->Bool
 | _,[]=>true
 | k,o::l=>(o.after.all λe=>!Region.binds .any e||decide (e.on<k))&&(l.all λoj=>oj.after.any (λe=>Region.binds .any e&&e.on==k)||o.apart ops oj)&&tailsOK ops (k+1) l
section
variable {X:Ctx} {n:Nat} {dr:Bool} {ops:Array Oper} {base i:Nat} {l:List Oper} {e:Env} {G:Heap} {K:Env->Heap->Prop}
variable {d:Nat} {t t1:TypeId} {p:String} {af:Array Edge} {x y:Operand} {lo hi:Nat} {L:List Res}
end
end Go.Dn

namespace Go.Dn
open Go
theorem p2 {A B:Type} {a a':A} {b b':B} (h:(a,b)=(a',b')):a=a'/\b=b':=by cases h;exact ⟨rfl,rfl⟩
theorem p3 {A B C:Type} {a a':A} {b b':B} {c c':C} (h:(a,b,c)=(a',b',c')):a=a'/\b=b'/\c=c':=by cases h;exact ⟨rfl,rfl,rfl⟩
theorem p4 {A B C Dd:Type} {a a':A} {b b':B} {c c':C} {d d':Dd} (h:(a,b,c,d)=(a',b',c',d')):a=a'/\b=b'/\c=c'/\d=d':=by cases h;exact ⟨rfl,rfl,rfl,rfl⟩
theorem p5 {A B C Dd E:Type} {a a':A} {b b':B} {c c':C} {d d':Dd} {e e':E} (h:(a,b,c,d,e)=(a',b',c',d',e')):a=a'/\b=b'/\c=c'/\d=d'/\e=e':=by cases h;exact ⟨rfl,rfl,rfl,rfl,rfl⟩
def gOK (ops:Array Oper) (e:Env):Option (Nat×Bool)->Bool
 | none=>true
 | some (j,w)=>match (ops[j]?).bind (·.dst) with
  | some d=>match e d with
   | .v (.bool b)=>b==w
   | _=>false
  | none=>false
def skipN (ops:Array Oper) (n:Nat):Nat->List Oper->Env->Option (List Oper×Env)
 | 0,l,e=>some (l,e)
 | k+1,[],e=>none
 | k+1,o::l,e=>match o.guard with
  | some (j,w)=>match (ops[j]?).bind (·.dst) with
   | some g=>match e g with
    | .v (.bool b)=>bif b==w then none else match o.dst with
     | some d=>bif Nat.blt d n then skipN ops n k l (set e d .undef) else none
     | none=>skipN ops n k l e
    | .undef=>match o.dst with
     | some d=>bif Nat.blt d n then skipN ops n k l (set e d .undef) else none
     | none=>skipN ops n k l e
    | _=>none
   | none=>none
  | none=>none
theorem EI {e:Env}:∀ {L:List (Nat×PV)},(L.map λp=>e p.1)=L.map (·.2)->ZA e L
 | [],_=>trivial
 | (k,v)::L,h=>by
  have h1:=List.cons.inj h;exact ⟨h1.1,EI h1.2⟩
section
variable {X:Ctx} {n:Nat} {dr:Bool} {fn:FuncId} {ops:Array Oper} {base i:Nat} {l:List Oper} {e:Env} {G:Heap} {K:Env->Heap->Prop} {Q:Ex->Env->Heap->Prop} {c a b:Code}
variable {d:Nat} {t t1 t2:TypeId} {p:String} {af:Array Edge} {x y:Operand} {v:PV} {lo hi:Nat} {L:List Res} {g:Option (Nat×Bool)} {dst:Option Tmp} {op:Op}
theorem Ops.gd (hg:gOK ops e g=true) (hk:Ops X n dr ops base i (⟨dst,op,t,p,af,none⟩::l) e G K):Ops X n dr ops base i (⟨dst,op,t,p,af,g⟩::l) e G K:=by
 cases g with
 | none=>exact hk
 | some q=>
  obtain ⟨j,w⟩:=q;simp only [gOK] at hg
  split at hg
  ·rename_i d hd
   split at hg
   ·rename_i b hb;have:b=w:=by simpa using hg
    subst this;exact .wanted hd hb hk
   ·cases hg
  ·cases hg
theorem Ops.ps {l':List Oper} {e':Env}:∀ (k:Nat) {i:Nat} {l:List Oper} {e:Env},skipN ops n k l e=some (l',e')->Ops X n dr ops base (i+k) l' e' G K->Ops X n dr ops base i l e G K
 | 0,i,l,e,h,hk=>by cases h;exact hk
 | k+1,i,[],e,h,hk=>by cases h
 | k+1,i,⟨dst,op,t,p,af,none⟩::l,e,h,hk=>by cases h
 | k+1,i,⟨dst,op,t,p,af,some (j,w)⟩::l,e,h,hk=>by
  rw [show i+(k+1)=i+1+k by omega] at hk
  simp only [skipN] at h
  split at h
  ·rename_i g hg
   split at h
   ·rename_i b hb;cases hw:b==w with
    | true=>rw [hw] at h;cases h
    | false=>
     rw [hw] at h;have hb':e g = .v (.bool (!w)):=by rw [hb];cases b<;>cases w<;>first|rfl|cases hw
     simp only [cond_false] at h;cases dst with
     | some d=>
      cases hd:Nat.blt d n with
      | false=>simp [hd] at h
      | true=>simp only [hd,cond_true] at h;exact .pass hg hb' hd (Ops.ps k h hk)
     | none=>exact .pass0 hg hb' (Ops.ps k h hk)
   ·rename_i hb;cases dst with
    | some d=>
     cases hd:Nat.blt d n with
     | false=>simp [hd] at h
     | true=>simp only [hd,cond_true] at h;exact .passU hg hb hd (Ops.ps k h hk)
    | none=>exact .pass0U hg hb (Ops.ps k h hk)
   ·cases h
  ·cases h
theorem Ops.m1 (v:PV) (h1:Z0 X e x=some v) (h:(Nat.blt d n,gOK ops e g)=(true,true)) (hk:Ops X n dr ops base (i+1) l (set e d v) G K):Ops X n dr ops base i (⟨some d,.move x,t,p,af,g⟩::l) e G K :=
 .gd (p2 h).2 (.move h1 (p2 h).1 hk)
theorem Ops.a1 (v:PV) (h1:Z0 X e x=some v) (h:(Nat.blt d n,gOK ops e g)=(true,true)) (hk:Ops X n dr ops base (i+1) l (set e d v) G K):Ops X n dr ops base i (⟨some d,.assign x,t,p,af,g⟩::l) e G K :=
 .gd (p2 h).2 (.assign h1 (p2 h).1 hk)
theorem Ops.mV {u:FV} (h:(Z0 X e x,Nat.blt d n,gOK ops e g)=(some (.v u),true,true)) (hk:Ops X n dr ops base (i+1) l (set e d (.v u)) G K):Ops X n dr ops base i (⟨some d,.move x,t,p,af,g⟩::l) e G K:=.gd (p3 h).2.2 (.move (p3 h).1 (p3 h).2.1 hk)
theorem Ops.mB {u q r:Nat} (h:(Z0 X e x,Nat.blt d n,gOK ops e g)=(some (.buf u q r),true,true)) (hk:Ops X n dr ops base (i+1) l (set e d (.buf u q r)) G K):Ops X n dr ops base i (⟨some d,.move x,t,p,af,g⟩::l) e G K:=.gd (p3 h).2.2 (.move (p3 h).1 (p3 h).2.1 hk)
theorem Ops.aV {u:FV} (h:(Z0 X e x,Nat.blt d n,gOK ops e g)=(some (.v u),true,true)) (hk:Ops X n dr ops base (i+1) l (set e d (.v u)) G K):Ops X n dr ops base i (⟨some d,.assign x,t,p,af,g⟩::l) e G K:=.gd (p3 h).2.2 (.assign (p3 h).1 (p3 h).2.1 hk)
theorem Ops.aB {u q r:Nat} (h:(Z0 X e x,Nat.blt d n,gOK ops e g)=(some (.buf u q r),true,true)) (hk:Ops X n dr ops base (i+1) l (set e d (.buf u q r)) G K):Ops X n dr ops base i (⟨some d,.assign x,t,p,af,g⟩::l) e G K:=.gd (p3 h).2.2 (.assign (p3 h).1 (p3 h).2.1 hk)
theorem Ops.tV {b:Bool} (h:(Z0 X e x,Nat.blt d n,gOK ops e g)=(some (.v (.bool b)),true,true)) (hk:Ops X n dr ops base (i+1) l (set e d (.v (.bool (!b)))) G K):Ops X n dr ops base i (⟨some d,.unOp .not t1 x,t,p,af,g⟩::l) e G K:=.gd (p3 h).2.2 (.not (p3 h).1 (p3 h).2.1 hk)
theorem Ops.iV {op:BinOp} {k:IntKind} {m m':Int} {r:FV} (h:(Z0 X e x,Z0 X e y,Z3n op k m m',Nat.blt d n,(op != .shl&&op != .shr)&&gOK ops e g)=(some (.v (.int k m)),some (.v (.int k m')),some r,true,true)) (hk:Ops X n dr ops base (i+1) l (set e d (.v r)) G K) :
  Ops X n dr ops base i (⟨some d,.binOp op t1 x y t2,t,p,af,g⟩::l) e G K:=by
 obtain ⟨h1,h2,h3,h4,h5⟩:=p5 h
 rw [Y8] at h5
 exact .gd h5.2 (.int h1 h2 h5.1 h3 h4 hk)
theorem Ops.xV {vs:List PV} {j:Nat} (h:(Z0 X e x,vs[j]?,Nat.blt d n,gOK ops e g)=(some (.tup vs),some v,true,true)) (hk:Ops X n dr ops base (i+1) l (set e d v) G K):Ops X n dr ops base i (⟨some d,.extract x j,t,p,af,g⟩::l) e G K:=by
 obtain ⟨h1,h2,h3,h4⟩:=p4 h
 exact .gd h4 (.extract h1 h2 h3 hk)
theorem Ops.kT {c:Operand} {u:FV} (h:(Z0 X e c,Z0 X e x,Nat.blt d n,gOK ops e g)=(some (.v (.bool true)),some (.v u),true,true)) (hk:Ops X n dr ops base (i+1) l (set e d (.v u)) G K):Ops X n dr ops base i (⟨some d,.pick c x y,t,p,af,g⟩::l) e G K:=by
 obtain ⟨h1,h2,h3,h4⟩:=p4 h
 exact .gd h4 (.pickT h1 h2 h3 hk)
theorem Ops.kF {c:Operand} {u:FV} (h:(Z0 X e c,Z0 X e y,Nat.blt d n,gOK ops e g)=(some (.v (.bool false)),some (.v u),true,true)) (hk:Ops X n dr ops base (i+1) l (set e d (.v u)) G K):Ops X n dr ops base i (⟨some d,.pick c x y,t,p,af,g⟩::l) e G K:=by
 obtain ⟨h1,h2,h3,h4⟩:=p4 h
 exact .gd h4 (.pickF h1 h2 h3 hk)
theorem Ops.bV {parts:Array (Nat×Operand)} (cs:List PV) (h:(Z5Y X e t1 parts.toList,Nat.blt d n,gOK ops e g)=(some (.agg cs),true,true)) (hk:Ops X n dr ops base (i+1) l (set e d (.agg cs)) G K):Ops X n dr ops base i (⟨some d,.build t1 parts,t,p,af,g⟩::l) e G K :=
 .gd (p3 h).2.2 (.buildA (p3 h).1 (p3 h).2.1 hk)
theorem Ops.cV {f:FuncId} {args:Array Operand} {ts:Array TypeId} {ys:List PV} {r:PV} (hf:Fn X f ys r) (h:(ZG X e args.toList,Nat.blt d n,gOK ops e g)=(some ys,true,true)) (hk:Ops X n dr ops base (i+1) l (set e d r) G K) :
  Ops X n dr ops base i (⟨some d,.call { callee:=.value (.func f),args:=args,argTypes:=ts },t,p,af,g⟩::l) e G K:=.gd (p3 h).2.2 (.call (p3 h).1 hf (p3 h).2.1 hk)
theorem Ops.nV {α:Type} {c:α->List FV} {xs:List α} {el:TypeId} (h:(Z0 X e x,tslice X.P t1,Nat.blt d n,gOK ops e g)=(some (.v (.sl (xs.map c))),some el,true,true))
  (hk':Ops X n dr ops base (i+1) l (set e d (.v (.int .i64 xs.length))) G K):Ops X n dr ops base i (⟨some d,.call { callee:=.builtin .len,args:=#[x],argTypes:=#[t1] },t,p,af,g⟩::l) e G K:=by
 obtain ⟨h1,h2,h3,h4⟩:=p4 h
 exact .gd h4 (.lenPt h1 h2 h3 hk')
theorem Ops.jV {α:Type} {c:α->List FV} {xs:List α} {iv:Int} {ik:IntKind} {u:α} {m:Nat} (hu:at? xs iv=some u) (h:(Z0 X e x,Z0 X e y,(tslice X.P t1).bind (tsize X.P),(c u).length,(tslice X.P t1).isSome&&Nat.blt d n&&gOK ops e g)=(some (.v (.sl (xs.map c))),some (.v (.int ik iv)),some m,m,true))
  (hk':Ops X n dr ops base (i+1) l (set e d (.fptr (c u))) G K):Ops X n dr ops base i (⟨some d,.indexAddr t1 x y,t,p,af,g⟩::l) e G K:=by
 obtain ⟨h1,h2,h3,h4,h5⟩:=p5 h
 simp only [Y8,Option.isSome_iff_exists] at h5
 obtain ⟨⟨⟨el,he⟩,h6⟩,h7⟩:=h5
 rw [he,Y1] at h3
 exact .gd h7 (.indexP h1 h2 hu he h3 h4 h6 hk')
theorem Ops.pV {u:FV} {cells:List FV} (h:(Z0 X e x,tagg X.P t1,cells[0]?,Nat.blt d n,gOK ops e g)=(some (.fptr cells),some false,some u,true,true))
  (hk':Ops X n dr ops base (i+1) l (set e d (.v u)) G K):Ops X n dr ops base i (⟨some d,.load t1 x,t,p,af,g⟩::l) e G K:=by
 obtain ⟨h1,h2,h3,h4,h5⟩:=p5 h
 exact .gd h5 (.loadP h1 h2 h3 h4 hk')
theorem Ops.qV {m:Nat} {cells:List FV} (cs:List FV) (h:(Z0 X e x,tsize X.P t1,cells.take m,(tagg X.P t1==some true)&&Nat.ble m cells.length&&Nat.blt d n,gOK ops e g)=(some (.fptr cells),some m,cs,true,true))
  (hk':Ops X n dr ops base (i+1) l (set e d (.agg (vs cs))) G K):Ops X n dr ops base i (⟨some d,.load t1 x,t,p,af,g⟩::l) e G K:=by
 obtain ⟨h1,h2,h3,h4,h5⟩:=p5 h
 simp only [Y8,beq_iff_eq] at h4
 exact .gd h5 (.loadPA h1 h4.1.1 h2 h4.1.2 h3 h4.2 hk')
theorem Ops.fV {id ver off f fo:Nat} {ft:TypeId} {m:Nat} {te:TypeId} {cells:List PV} (H:Has G lo hi L) (k:Nat) (h:(Z0 X e x,L[k]?,tfield X.P t1 f,tsize X.P ft,Nat.beq cells.length ver&&Nat.blt d n&&gOK ops e g)=(some (.ptr id ver off),some (.blk id te cells),some (fo,ft),some (m+1),true))
  (hk':Ops X n false ops base (i+1) l (set e d (.ptr id ver (off+fo))) G K):Ops X n false ops base i (⟨some d,.fieldAddr t1 x f,t,p,af,g⟩::l) e G K:=by
 obtain ⟨h1,h2,h3,h4,h5⟩:=p5 h
 simp only [Y8] at h5
 exact .gd h5.2 (.Z4T H k h2 (Yv h5.1.1) h1 h3 h4 nofun h5.1.2 hk')
theorem Ops.lV {id ver off:Nat} {te:TypeId} {cells:List PV} (H:Has G lo hi L) (k:Nat) (h:(Z0 X e x,L[k]?,tagg X.P t1,cells[off]?,Nat.beq cells.length ver&&Nat.blt d n&&gOK ops e g)=(some (.ptr id ver off),some (.blk id te cells),some false,some v,true))
  (hk':Ops X n false ops base (i+1) l (set e d v) G K):Ops X n false ops base i (⟨some d,.load t1 x,t,p,af,g⟩::l) e G K:=by
 obtain ⟨h1,h2,h3,h4,h5⟩:=p5 h
 simp only [Y8] at h5
 exact .gd h5.2 (.loadH H k h2 (Yv h5.1.1) h1 h3 h4 nofun h5.1.2 hk')
theorem Ops.LV {id ver off m:Nat} {te:TypeId} {cells:List PV} (cs:List PV) (H:Has G lo hi L) (k:Nat) (h:(Z0 X e x,L[k]?,tsize X.P t1,(cells.drop off).take m,(tagg X.P t1==some true)&&Nat.ble (off+m) cells.length&&Nat.beq cells.length ver&&Nat.blt d n&&gOK ops e g)=(some (.ptr id ver off),some (.blk id te cells),some m,cs,true))
  (hk':Ops X n false ops base (i+1) l (set e d (.agg cs)) G K):Ops X n false ops base i (⟨some d,.load t1 x,t,p,af,g⟩::l) e G K:=by
 obtain ⟨h1,h2,h3,h4,h5⟩:=p5 h
 simp only [Y8,beq_iff_eq] at h5
 exact .gd h5.2 (.Z1q H k h2 (Yv h5.1.1.2) h1 h5.1.1.1.1 h3 h5.1.1.1.2 h4 nofun h5.1.2 hk')
theorem Ops.sV {id ver off:Nat} {te:TypeId} {cells ys:List PV} (cells':List PV) (H:Has G lo hi L) (k:Nat) (h:(Z0 X e x,L[k]?,(Z0 X e y).bind PV.cells,splice cells off ys,(tsize X.P t1==some ys.length)&&Nat.ble (off+ys.length) cells.length&&Nat.beq cells.length ver&&gOK ops e g)=(some (.ptr id ver off),some (.blk id te cells),some ys,cells',true))
  (hk':∀ G',Has G' lo hi (L.set k (.blk id te cells'))->Ops X n false ops base (i+1) l e G' K):Ops X n false ops base i (⟨none,.store t1 x y,t,p,af,g⟩::l) e G K:=by
 obtain ⟨h1,h2,h3,h4,h5⟩:=p5 h
 simp only [Y8,beq_iff_eq] at h5
 rw [Y3] at h3
 obtain ⟨v,h6,h7⟩:=h3
 exact .gd h5.2 (.Z4L H k h2 (Yv h5.1.2) h1 h6 h7 h5.1.1.1 rfl h5.1.1.2 h4 nofun hk')
theorem Ops.md {L0:List Res} (H:Has G lo hi L0) (k:Nat) (E:List (Nat×PV)) (L:List Res) (hk:Nat.ble k l.length=true) (h1:Ops X n dr ops base i (l.take k) e G λe G=>ZA e E/\Has G (base+(i+k)) hi L) (h2:∀ e G,Has G (base+(i+k)) hi L->Ops X n dr ops base (i+k) (l.drop k) (sets e E) G K):Ops X n dr ops base i l e G K :=
 .mid k hk h1 λe G ⟨he,H⟩=>by rw [he.eq];exact h2 e G H
theorem Runs.wh {α:Type} {c:Bool} {A B z:α} {t:Operand} (h:(bif c then A else B)=z) (ht:Z0 X e t=some (.v (.bool c))) (h1:A=z->Runs X n fn a e G Q) (h2:B=z->Runs X n fn b e G Q):Runs X n fn (.cond t a b) e G Q :=
 .whether ht (λhc=>h1 (cond_T hc h)) λhc=>h2 (cond_F hc h)
theorem Ops.sp {α:Type} {j gt:Nat} {w v:Bool} {A B z:α} (hb:(bif v then A else B)=z) (h:((ops[j]?).bind (·.dst),e gt)=(some gt,.v (.bool v))) (ht:A=z->Ops X n dr ops base i (⟨dst,op,t,p,af,some (j,w)⟩::l) (set e gt (.v (.bool true))) G K)
  (hf:B=z->Ops X n dr ops base i (⟨dst,op,t,p,af,some (j,w)⟩::l) (set e gt (.v (.bool false))) G K):Ops X n dr ops base i (⟨dst,op,t,p,af,some (j,w)⟩::l) e G K :=
 .split (p2 h).1 (p2 h).2 (λhc=>ht (cond_T hc hb)) λhc=>hf (cond_F hc hb)
theorem Runs.lp {S R β:Type} {step:S->Option (S⊕R)} {s:S} {Gg:R->Option β} {z:β} (h:(Dn.loopO step s).bind Gg=some z) (E:S->List (Nat×PV)) (L:S->List Res) (ex:Ex) (E':R->List (Nat×PV)) (L':R->List Res) (h0:ZA e (E s)) (H:Hs G (L s))
  (hs:∀ s e G,Hs G (L s)->∀ z,step s=some z->Runs X n fn c (sets e (E s)) G (LoopEnd (λs e G=>ZA e (E s)/\Hs G (L s)) (λy x e G=>x=ex/\ZA e (E' y)/\Hs G (L' y)) z))
  (hq:∀ y e G,Hs G (L' y)->Gg y=some z->Q ex (sets e (E' y)) G):Runs X n fn (.loop c) e G Q:=by
 obtain ⟨y,h1,h2⟩:=bind_some h
 obtain ⟨k,h1⟩:=ZV.1 h1
 refine (Runs.loopO h1 (λs e G=>ZA e (E s)/\Hs G (L s)) (λy x e G=>x=ex/\ZA e (E' y)/\Hs G (L' y)) ⟨h0,H⟩ ?_).mono ?_
 ·rintro s e G ⟨he,H⟩ z hz;rw [he.eq];exact hs s e G H z hz
 ·rintro x e G ⟨rfl,he,H⟩;rw [he.eq];exact hq y e G H h2
theorem Runs.jn {A B:Type} {o:Option A} {Gg:A->Option B} {z:B} (h:o.bind Gg=some z) (ex:Ex) (E:A->List (Nat×PV)) (L:A->List Res)
  (h1:∀ y,o=some y->Runs X n fn c e G λx e G=>x=ex/\ZA e (E y)/\Hs G (L y)) (h2:∀ y e G,Hs G (L y)->Gg y=some z->Q ex (sets e (E y)) G):Runs X n fn c e G Q:=by
 obtain ⟨y,h3,h4⟩:=bind_some h
 refine (h1 y h3).mono ?_
 rintro x e G ⟨rfl,he,H⟩
 rw [he.eq]
 exact h2 y e G H h4
theorem Runs.tR {id:Nat} {os:List Oper} (m:Nat) (hm:os.length=m) (H:Hs G L) (h:∀ base G',Has G' base (base+m) L->Ops X n false os.toArray base 0 os e G' λe G=>Runs X n fn b e G Q):Runs X n fn (.seq (.region id os.toArray false) b) e G Q :=
 .then (.ZS m hm H h)
theorem bs {α β:Type} {x:Option α} {f:α->Option β} {b:β} (h:x.bind f=some b):∃ a,x=some a/\f a=some b:=Option.bind_eq_some_iff.1 h
theorem Ops.alc {cs:List PV} (H:Has G lo hi L) (hz:tzero X.P t1=some cs) (hd:Nat.blt d n=true)
  (hk:∀ G',Has G' (base+i+1) hi (.blk (base+i) t1 cs::L)->Ops X n dr ops base (i+1) l (set e d (.ptr (base+i) cs.length 0)) G' K) (hlo:lo<=base+i:=by omega) (hhi:base+i<hi:=by omega) :
  Ops X n dr ops base i (⟨some d,.alloc t1,t,p,af,none⟩::l) e G K:=.allocH H hlo hhi hz hd hk
theorem Ops.bxc {cs:List PV} (H:Has G lo hi L) (hx:Z0 X e x=some v) (hc:v.cells=some cs) (hd:Nat.blt d n=true)
  (hk:∀ G',Has G' (base+i+1) hi (.blk (base+i) t1 cs::L)->Ops X n dr ops base (i+1) l (set e d (.ptr (base+i) cs.length 0)) G' K) (hlo:lo<=base+i:=by omega) (hhi:base+i<hi:=by omega) :
  Ops X n dr ops base i (⟨some d,.box t1 x,t,p,af,none⟩::l) e G K:=.boxH H hlo hhi hx hc hd hk
theorem so {ops:Array Oper} {base i id:Nat} {dr:Bool} (h:id<base) (h2:Z2y (Region.before ops) ops i=true:=by kernel_rfl):dr=true->Seen ops base i id false:=λ_=>.inl ⟨h,nofun,λ_=>h2⟩
theorem Ends.eR {rs:List ResultVar} {xs:List PV} {r:PV} (h:(Zl X.P e G rs,Z31 (Z0Q xs),Z0Q xs)=(some xs,true,r)):Ends X rs r .ret e G:=.ret (p3 h).1 (p3 h).2.1 (p3 h).2.2
theorem Fn.go {f:FuncId} {args:List PV} {r:PV} {fu:Func} {c:Code} (hf:X.P.funcs[f]? = some fu) (h:(fu.body,X.intr f args,X.keep f,X.opn f,args.all PV.pure)=(some c,none,false,false,true))
  (hr:∀ G,Hs G []->Runs X (max fu.ntmps args.length) f c (Z36 args) G (Ends X fu.results.toList r)):Fn X f args r:=by
 obtain ⟨h1,h2,h3,h4,h5⟩:=p5 h
 exact .ends hf h1 h2 h3 h4 h5 rfl (hr _ (Has.nil (Y9 _)))
end
end Go.Dn

namespace Go.Dn
open Go
def famL {α:Type} (rt:TypeId) (sz:Nat) (c:α->List FV):List PV->List (List α)->List Res
 | v::ids,r::x=>.sl v rt sz (r.map c) true::famL rt sz c ids x
 | _,_=>[]
section
variable {α:Type} {rt:TypeId} {sz:Nat} {c:α->List FV}
theorem famL_len:∀ {ids:List PV} {x:List (List α)},ids.length=x.length->(famL rt sz c ids x).length=x.length
 | [],[],_=>rfl
 | v::ids,r::x,h=>by simp only [famL,Yi];rw [famL_len (by simpa using h)]
 | [],_::_,h=>by simp at h
 | _::_,[],h=>by simp at h
theorem famL_get:∀ {ids:List PV} {x:List (List α)},ids.length=x.length->∀ {m:Nat} {r:List α},x[m]? = some r->∃ v,ids[m]? = some v/\(famL rt sz c ids x)[m]? = some (.sl v rt sz (r.map c) true)
 | [],[],_,m,r,h=>by simp at h
 | v::ids,r0::x,hl,0,r,h=>by simp at h;subst h;exact ⟨v,rfl,rfl⟩
 | v::ids,r0::x,hl,m+1,r,h=>famL_get (ids:=ids) (x:=x) (by simpa using hl) (m:=m) (r:=r) (by simpa using h)
 | [],_::_,h,_,_,_=>by simp at h
 | _::_,[],h,_,_,_=>by simp at h
theorem famL_set:∀ {ids:List PV} {x:List (List α)} {m:Nat} {v:PV} {r:List α},ids[m]? = some v->(famL rt sz c ids x).set m (.sl v rt sz (r.map c) true)=famL rt sz c ids (x.set m r)
 | [],x,m,v,r,h=>by simp at h
 | v0::ids,[],m,v,r,h=>by simp [famL]
 | v0::ids,r0::x,0,v,r,h=>by simp at h;subst h;rfl
 | v0::ids,r0::x,m+1,v,r,h=>by simp only [famL,List.set_cons_succ];rw [famL_set (by simpa using h)]
theorem famL_put:∀ {ids:List PV} {x:List (List α)},ids.length=x.length->∀ {m:Nat} {v:PV} {r:List α},(famL rt sz c ids x).set m (.sl v rt sz (r.map c) true)=famL rt sz c (ids.set m v) (x.set m r)
 | [],[],_,m,v,r=>by simp [famL]
 | v0::ids,r0::x,hl,0,v,r=>rfl
 | v0::ids,r0::x,hl,m+1,v,r=>by simp only [famL,List.set_cons_succ];rw [famL_put (by simpa using hl)]
 | [],_::_,h,_,_,_=>by simp at h
 | _::_,[],h,_,_,_=>by simp at h
theorem famL_snoc:∀ {ids:List PV} {x:List (List α)},ids.length=x.length->∀ {v:PV} {r:List α},famL rt sz c (ids++[v]) (x++[r])=famL rt sz c ids x++[.sl v rt sz (r.map c) true]
 | [],[],_,v,r=>rfl
 | v0::ids,r0::x,hl,v,r=>by simp only [Y0C,famL];rw [famL_snoc (by simpa using hl)]
 | [],_::_,h,_,_=>by simp at h
 | _::_,[],h,_,_=>by simp at h
theorem Z0I {ids:List PV} {x:List (List α)} (hM:ids.length=x.length) {iv:Int} {r:List α} (h:at? x iv=some r):∃ v,ids[iv.toNat]? = some v/\(famL rt sz c ids x)[iv.toNat]? = some (.sl v rt sz (r.map c) true):=famL_get hM (at?_some h).2
theorem at?_nn {x:List α} {iv:Int} {r:α} (h:at? x iv=some r):0<=iv:=(at?_some h).1
theorem Z03 {β:Type} {l:List β} {m:Nat} {a:β} (h:l[m]? = some a):m<l.length:=(List.getElem?_eq_some_iff.1 h).1
end
theorem ZO {L F T:List Res} (k:Nat) (hL:L.drop k=F++T) {m:Nat} {r:Res} (h:F[m]? = some r):L[k+m]? = some r:=by
 have e:(L.drop k)[m]? = some r:=by rw [hL,YP (Z03 h),h]
 rw [YY] at e
 exact e
section
variable {G:Heap} {lo hi:Nat} {L T:List Res}
theorem Has.famSet {α:Type} {rt:TypeId} {sz:Nat} {c:α->List FV} {ids:List PV} {x:List (List α)} {v:PV} {r:List α} {k m:Nat} (hL:L.drop k=famL rt sz c ids x++T) (hM:ids.length=x.length) (hv:ids[m]? = some v)
  (H:Has G lo hi (L.set (k+m) (.sl v rt sz (r.map c) true))):Has G lo hi (L.take k++(famL rt sz c ids (x.set m r)++T)):=by
 have hlt:m<(famL rt sz c ids x).length:=by rw [famL_len hM,<- hM];exact Z03 hv
 have e:L.set (k+m) (.sl v rt sz (r.map c) true)=L.take k++(famL rt sz c ids (x.set m r)++T):=by
  rw [<- famL_set hv]
  conv=>lhs;rw [<- Yw k L]
  have hk:(L.take k).length=k:=by
   rw [YN];have:(L.drop k).length≠0:=by rw [hL];simp only [YM];omega
   simp only [Yn] at this;omega
  rw [Y0G _ _ (by omega),hk,Yb,hL,List.set_append_left _ _ hlt]
 rw [<- e];exact H
theorem Has.nilFam {α:Type} {rt:TypeId} {sz:Nat} {c:α->List FV} (A:List Res) (H:Has G lo hi (A++T)):∀ k:Nat,Has G lo hi (A++(famL rt sz c (List.replicate k PV.nils) (List.replicate k [])++T))
 | 0=>H
 | k+1=>by
  have h:=(Has.nilFam (c:=c) (rt:=rt) (sz:=sz) A H k).pushNil rt sz true;exact h.perm List.perm_middle.symm
theorem Has.moveIn {r:Res} (H:Has G lo hi (r::L)) {p:Nat} (hp:p<L.length):Has G lo hi (L.set p r):=by
 have h1:=H.erase (p+1)
 rw [List.eraseIdx_cons_succ] at h1
 refine h1.perm ?_
 rw [Yo,if_pos hp,List.eraseIdx_eq_take_drop_succ]
 exact List.perm_middle.symm
end
theorem Has.rowPut {G:Heap} {lo hi:Nat} {L T:List Res} {α:Type} {rt:TypeId} {sz:Nat} {c:α->List FV} {ids:List PV} {x:List (List α)} {w:PV} {r:List α} {k m:Nat} (hL:L.drop k=famL rt sz c ids x++T) (hM:ids.length=x.length) (hm:m<ids.length)
  (H:Has G lo hi (.sl w rt sz (r.map c) true::L)):Has G lo hi (L.take k++(famL rt sz c (ids.set m w) (x.set m r)++T)):=by
 have hlt:m<(famL rt sz c ids x).length:=by rw [famL_len hM,<- hM];exact hm
 have hkl:k+m<L.length:=by
  have:m<(L.drop k).length:=by rw [hL,YM];omega
  rw [Yn] at this;omega
 have e:L.set (k+m) (.sl w rt sz (r.map c) true)=L.take k++(famL rt sz c (ids.set m w) (x.set m r)++T):=by
  rw [<- famL_put hM]
  conv=>lhs;rw [<- Yw k L]
  have hk:(L.take k).length=k:=by rw [YN];omega
  rw [Y0G _ _ (by omega),hk,Yb,hL,List.set_append_left _ _ hlt]
 rw [<- e];exact H.moveIn hkl
theorem Z4c {cells:List PV} {j:Nat} {w:PV} (h:j<cells.length):splice cells j [w]=cells.set j w:=by
 unfold splice
 rw [Yo,if_pos h];simp
theorem new?_some {α:Type} {b:Nat} {n:Int} {z:α} {r:List α} (h:new? b n z=some r):0<=n/\n.toNat*b<=room/\r=List.replicate n.toNat z:=by
 unfold new? at h
 split at h
 ·rename_i hn;cases h;exact ⟨hn.1,hn.2,rfl⟩
 ·cases h
theorem Has.toMat {G:Heap} {lo hi:Nat} {T:List Res} {α:Type} {c:α->List FV} {d:List (List α)} {et:TypeId} {w:PV} {u:Unit} (hd:some? d=some u) (H:Has G lo hi (.sl w et 1 (d.map (cL c)) true::T)):∃ id,w = .buf id d.length 1/\Has G lo hi (.blk id et (d.map λr=>PV.v (.sl (r.map c)))::T):=by
 obtain ⟨hs,hv⟩:=H.sl (k:=0) rfl
 rcases hv with ⟨_,h⟩|⟨id,rfl,hb⟩
 ·cases d with
  | nil=>cases hd
  | cons a d=>simp at h
 ·refine ⟨id,by rw [YG],H.say (k:=0) (r':=.blk id et _) rfl ?_ rfl⟩
  show G.ent id=_;rw [hb]
  congr 1
  clear hb hs H hd
  induction d with
  | nil=>rfl
  | cons a d ih=>simp only [Y03,YX,Z1P,ih];rfl
theorem Has.ownRow {G:Heap} {lo hi:Nat} {T:List Res} {α:Type} {c:α->List FV} {r:List (List α)} {et rt:TypeId} {sz id k:Nat} {ids:List PV} {w:PV} (hk:ids.length=k) (hlt:k<r.length)
  (H:Has G lo hi (.sl w rt sz (r[k].map c) true :: .blk id et ((ids++(r.drop k).map λq=>PV.v (.sl (q.map c))).set ((k:Int)).toNat w)::(famL rt sz c ids (r.take k)++T))) :
  Has G lo hi (.blk id et ((ids++[w])++(r.drop (k+1)).map λq=>PV.v (.sl (q.map c)))::(famL rt sz c (ids++[w]) (r.take (k+1))++T)):=by
 have hl:ids.length=(r.take k).length:=by rw [YN];omega
 have e1:(ids++(r.drop k).map λq=>PV.v (.sl (q.map c))).set ((k:Int)).toNat w=(ids++[w])++(r.drop (k+1)).map λq=>PV.v (.sl (q.map c)):=by
  rw [YL,Y0G _ _ (by omega),hk,Y0S,List.drop_eq_getElem_cons hlt,Y03,List.set_cons_zero,YR];rfl
 have e2:famL rt sz c (ids++[w]) (r.take (k+1))=famL rt sz c ids (r.take k)++[.sl w rt sz (r[k].map c) true]:=by
  rw [<- famL_snoc hl,List.take_append_getElem hlt]
 have e3:famL rt sz c ids (r.take k)++[Res.sl w rt sz (r[k].map c) true]++T=famL rt sz c ids (r.take k)++(Res.sl w rt sz (r[k].map c) true::T):=by simp
 rw [e1] at H
 rw [e2,e3]
 refine H.perm ?_
 refine (List.Perm.swap _ _ _).trans (List.Perm.cons _ ?_)
 exact List.perm_middle.symm
theorem Has.matLast {G:Heap} {lo hi:Nat} {M:List Res} (A:List Res) (H:Has G lo hi (M++A)):Has G lo hi (A++(M++[])):=by
 rw [YE];exact H.perm Y0H
theorem Z6D {x:Int} (h1 : -9223372036854775808<=x) (h2:x<=9223372036854775807):IntKind.i64.wrap x=x:=by
 simp [IntKind.wrap,IntKind.bits,IntKind.signed]
 split<;>omega
section
variable {X:Ctx} {n:Nat} {dr:Bool} {fn:FuncId} {ops:Array Oper} {base i:Nat} {l:List Oper} {e:Env} {G:Heap} {K:Env->Heap->Prop} {Q:Ex->Env->Heap->Prop}
variable {d:Nat} {t t1 t2:TypeId} {p:String} {af:Array Edge} {x y z:Operand} {v:PV} {lo hi:Nat} {L:List Res}
theorem Ops.Zt {id m:Nat} {el te:TypeId} {cells:List PV} {ik:IntKind} {iv:Int} (H:Has G lo hi L) (k:Nat) (hk:L[k]? = some (.blk id te cells)) (hv:cells.length=m) (hx:Z0 X e x=some (.buf id m 1))
  (hy:Z0 X e y=some (.v (.int ik iv))) (h0:0<=iv) (hlt:iv.toNat<m) (ht:tslice X.P t1=some el) (hs:tsize X.P el=some 1) (ha:dr=true->Seen ops base i id false) (hd:Nat.blt d n=true)
  (hk':Ops X n dr ops base (i+1) l (set e d (.ptr id m iv.toNat)) G K):Ops X n dr ops base i (⟨some d,.indexAddr t1 x y,t,p,af,none⟩::l) e G K:=by
 refine .plain (x:=.ptr id m iv.toNat) (G1:=G) ?_ (λh=>Z0v (ids:=[id]) rfl ?_ (λj hj=>by simp at hj;subst hj;exact ha h)) hd hk'
 ·have hc:G.cur id m=true:=H.cur hk hv;simp only [Z2,hx,hy,Z04,Z1a,if_pos h0,ht,Nat.mul_one,hc,hs,Bool.true_and,beq_self_eq_true,decide_eq_true hlt,Yx,if_true,Y6]
 ·simp only [touched,ZL,YD,YF,hx,vids,YE]
theorem Ops.lenM {id m:Nat} {el te:TypeId} {cells:List PV} (H:Has G lo hi L) (k:Nat) (hk:L[k]? = some (.blk id te cells)) (hv:cells.length=m) (hx:Z0 X e x=some (.buf id m 1)) (ht:tslice X.P t1=some el)
  (ha:dr=true->Seen ops base i id false) (hd:Nat.blt d n=true)
  (hk':Ops X n dr ops base (i+1) l (set e d (.v (.int .i64 m))) G K):Ops X n dr ops base i (⟨some d,.call { callee:=.builtin .len,args:=#[x],argTypes:=#[t1] },t,p,af,none⟩::l) e G K:=by
 refine .plain (x:=.v (.int .i64 m)) (G1:=G) ?_ (λh=>Z0v (ids:=[id]) rfl ?_ (λj hj=>by simp at hj;subst hj;exact ha h)) hd hk'
 ·have hc:G.cur id (m*1)=true:=H.cur hk (by omega)
  simp only [Z2,ZU,ZG,hx,Y1,Zm,lenD,ht,hc,if_true,Y6]
 ·simp only [touched,ZL,YD,YF,hx,vids,YE]
theorem Ops.makeM {el:TypeId} {by_:Nat} {m:Int} (H:Has G lo hi L) (hlo:lo<=base+i) (hhi:base+i<hi)
  (hx:Z0 X e x=some (.v (.int .i64 m))) (hy:Z0 X e y=some (.v (.int .i64 m))) (h0:0<=m) (hroom:m.toNat*by_<=room)
  (ht:tslice X.P t1=some el) (hs:tsize X.P el=some 1) (hb:tbytes X.P el=some by_) (hz:tzero X.P el=some [.nils]) (hby:(by_ != 0)=true) (hd:Nat.blt d n=true)
  (hk:∀ G',Has G' (base+i+1) hi (.blk (base+i) el (List.replicate m.toNat .nils)::L)->Ops X n dr ops base (i+1) l (set e d (.buf (base+i) m.toNat 1)) G' K) :
  Ops X n dr ops base i (⟨some d,.makeSlice t1 x y,t,p,af,none⟩::l) e G K:=by
 have hby:by_≠0:=by simpa using hby
 have e2:(List.replicate m.toNat [PV.nils]).flatten=List.replicate m.toNat .nils:=by
  induction m.toNat with
  | zero=>rfl
  | succ k ih=>rw [List.replicate_succ,YX,ih,List.replicate_succ];rfl
 refine .plain (x:=.buf (base+i) m.toNat 1) (G1:=G.put (base+i) (.blk el (List.replicate m.toNat .nils) true)) ?_ (λ_=>Z01 rfl) hd (hk _ (H.push hlo hhi (r':=.blk (base+i) el _) Z0p rfl))
 simp only [Z2,hx,hy,makeD,ht,hs,hb,hz]
 rw [if_pos ⟨trivial,h0,hroom,rfl,by decide,hby⟩,e2]
theorem Ops.isNilV {α:Type} {c:α->List FV} {xs:List α} {u:Unit} {el:TypeId} (h:some? xs=some u) (hx:Z0 X e x=some (.v (.sl (xs.map c)))) (hy:Z0 X e y=some .nils) (ht:tslice X.P t1=some el) (hd:Nat.blt d n=true)
  (hk':Ops X n dr ops base (i+1) l (set e d (.v (.bool false))) G K):Ops X n dr ops base i (⟨some d,.binOp .eql t1 x y t2,t,p,af,none⟩::l) e G K:=by
 cases xs with
 | nil=>cases h
 | cons a xs=>
  refine .plain (x:=.v (.bool false)) (G1:=G) ?_ (λ_=>Z1n rfl ?_) hd hk'
  ·simp only [Z2,hx,hy,Y03,binD,ht,Z3l,Y6]
  ·simp only [touched,ZL,YD,YF,hx,hy,vids,YE]
theorem cutA {n:Int} {m:Nat} {u:Unit} (h:winA n m=some u):0<=n/\n.toNat<m:=by
 unfold winA at h
 split at h
 ·assumption
 ·cases h
theorem cutB {n:Int} {m:Nat} {u:Unit} (h:winB n m=some u):0<n/\n.toNat<=m:=by
 unfold winB at h
 split at h
 ·assumption
 ·cases h
theorem win_le {n:Int} {m:Nat} {u:Unit} (h:winB n m=some u):n.toNat<=m:=(cutB h).2
theorem Ops.viewA {id m sz:Nat} {el:TypeId} {k1:IntKind} {j:Int} (hx:Z0 X e x=some (.buf id m sz)) (hl:Z0 X e y=some (.v (.int k1 j))) (h0:0<=j) (hlt:j.toNat<m) (ht:tslice X.P t1=some el) (hs:tsize X.P el=some sz)
  (hv:X.view (.slice t1 x (some y) none none)=true) (hd:Nat.blt d n=true)
  (hk':Ops X n dr ops base (i+1) l (set e d (.view id m j.toNat (m-j.toNat) sz)) G K):Ops X n dr ops base i (⟨some d,.slice t1 x (some y) none none,t,p,af,none⟩::l) e G K:=by
 refine .plain (x:=.view id m j.toNat (m-j.toNat) sz) (G1:=G) ?_ (λh=>?_) hd hk'
 ·simp only [Z2,hx,hl,optD,Y6,hv,if_true,viewD,ht,Y1,hs,Z1a,if_pos h0];rw [if_pos ⟨trivial,hlt,Y9 _⟩];rfl
 ·exact ask0 (by simp only [ZQ,Zc,hx,hv])
theorem Ops.viewB {id m sz:Nat} {el:TypeId} {k1:IntKind} {j:Int} (hx:Z0 X e x=some (.buf id m sz)) (hl:Z0 X e y=some (.v (.int k1 j))) (h0:0<j) (hlt:j.toNat<=m) (ht:tslice X.P t1=some el) (hs:tsize X.P el=some sz)
  (hv:X.view (.slice t1 x none (some y) none)=true) (hd:Nat.blt d n=true)
  (hk':Ops X n dr ops base (i+1) l (set e d (.view id m 0 j.toNat sz)) G K):Ops X n dr ops base i (⟨some d,.slice t1 x none (some y) none,t,p,af,none⟩::l) e G K:=by
 refine .plain (x:=.view id m 0 j.toNat sz) (G1:=G) ?_ (λh=>?_) hd hk'
 ·simp only [Z2,hx,hl,optD,Y6,hv,if_true,viewD,ht,Y1,hs,Z1a,if_pos (show (0:Int)<=j by omega)]
  rw [if_pos ⟨trivial,by omega,hlt⟩];rfl
 ·exact ask0 (by simp only [ZQ,Zc,hx,hv])
theorem Ops.copyW {α:Type} {c:α->List FV} {xs:List α} {el t9:TypeId} {sz id a m:Nat} (H:Has G lo hi L) (k:Nat) (hk:L[k]? = some (.sl (.buf id m sz) el sz (xs.map c) true))
  (hx:Z0 X e x=some (.view id m a (m-a) sz)) (hy:Z0 X e y=some (.view id m 0 a sz)) (ha1:a<=m) (ht:tslice X.P t1=some el) (hs:tsize X.P el=some sz)
  (ha:dr=true->Seen ops base i id true) (hd:Nat.blt d n=true)
  (hk':∀ G',Has G' lo hi (L.set k (.sl (.buf id m sz) el sz ((dbl xs a).map c) true))->Ops X n dr ops base (i+1) l (set e d (.v (.int .i64 (min a (m-a):Nat)))) G' K) :
  Ops X n dr ops base i (⟨some d,.call { callee:=.builtin .copy,args:=#[x,y],argTypes:=#[t1,t9] },t,p,af,none⟩::l) e G K:=by
 obtain ⟨hsz,hv'⟩:=H.sl hk
 rcases hv' with ⟨h,_⟩|⟨id',hid,hbl⟩
 ·cases h
 cases hid
 have hL:(xs.map c).length=xs.length:=YG _
 rw [hL] at hx hy ha1 hk hk'
 have hl2:(vs (xs.map c).flatten).length=xs.length*sz:=by rw [Z02,Zn hsz,hL]
 have htk:((vs (xs.map c).flatten).drop (0*sz)).take (a*sz)=vs (((xs.take a).map c).flatten):=by
  rw [Nat.zero_mul,List.drop_zero,Z40,Z37 hsz,Y0E]
 have hta:∀ y∈(xs.take a).map c,y.length=sz:=λy hy=>hsz y (by rw [Y0E] at hy;exact YV hy)
 have hm1:((xs.take a).map c).length=a:=by rw [YG,YN];omega
 have hcp:splice (vs (xs.map c).flatten) (a*sz) ((vs (((xs.take a).map c).flatten)).take (min a (xs.length-a)*sz))=vs ((dbl xs a).map c).flatten:=by
  rw [Z40,Z37 hta];unfold splice;rw [Z40,Z37 hsz,Z02,vs_drop,Zn (sz:=sz) (λy hy=>hta y (YV hy)),<- Yc,Z4Q hsz,<- Z1P,<- Z1P,<- Yr,<- Yr]
  congr 2
  unfold dbl;simp only [Y08,Y0E,List.map_drop,YN,YG]
  congr 1
  ·congr 1
   rw [List.take_take,List.take_take]
   congr 1
   omega
  ·congr 2
   omega
 refine .plain (x:=.v (.int .i64 (min a (xs.length-a):Nat))) (G1:=G.put id (.blk el (vs ((dbl xs a).map c).flatten) true)) ?_ (λh=>Z2T (ids:=[id,id]) rfl ?_ (λj hj=>by simp at hj;subst hj;exact ha h)) hd
  (hk' _ (H.put hk rfl (r':=.sl (.buf id xs.length sz) el sz ((dbl xs a).map c) true) ⟨λy hy=>?_,.inr ⟨id,?_,Z0p⟩⟩ rfl))
 ·simp only [Z2,ZU,ZG,hx,hy,Y1,Zm,Z3S,ht,hs,Z1L,hbl];rw [if_pos ⟨trivial,by rw [hl2],by omega⟩,htk]
  simp only [hbl];rw [if_pos ⟨trivial,trivial,hl2,by omega⟩,hcp]
 ·simp only [touched,ZL,YD,YF,hx,hy,vids,YE,Y0C,List.nil_append]
 ·obtain ⟨a',ha',rfl⟩:=List.mem_map.1 hy;have:a'∈xs:=by
   unfold dbl at ha';rcases List.mem_append.1 ha' with h|h
   ·rcases List.mem_append.1 h with h|h
    ·exact YV h
    ·exact YV (YV h)
   ·exact List.mem_of_mem_drop h
  exact hsz _ (List.mem_map.2 ⟨a',this,rfl⟩)
 ·have:((dbl xs a).map c).length=xs.length:=by
   unfold dbl;simp only [YG,YM,YN,Yn];omega
  rw [this]
end
theorem fam_exp {α:Type} {rt:TypeId} {sz d:Nat} {c:α->List FV}:∀ {ids:List PV} {x:List (List α)} {G:Heap} {lo hi:Nat} {A T:List Res},ids.length=x.length->Has G lo hi (A++(famL rt sz c ids x++T)) ->
  ∃ G',Zd (ZT (d+2)) G ids=some (x.map (λr=>FV.sl (r.map c)),G')
 | [],[],G,lo,hi,A,T,_,H=>⟨G,rfl⟩
 | v::ids,r::x,G,lo,hi,A,T,hl,H=>by
  have hk:(A++(famL rt sz c (v::ids) (r::x)++T))[A.length]? = some (.sl v rt sz (r.map c) true):=by
   rw [YI (Y9 _),Y0S];rfl
  obtain ⟨hs,hv⟩:=H.sl hk;obtain ⟨G1,h1,H1⟩ : ∃ G1,ZT (d+2) G v=some (.sl (r.map c),G1)/\∃ lo hi,Has G1 lo hi ((A++[.sl v rt sz (r.map c) false])++(famL rt sz c ids x++T)):=by
   have e:∀ rr,(A++(famL rt sz c (v::ids) (r::x)++T)).set A.length rr=(A++[rr])++(famL rt sz c ids x++T):=λrr=>by
    rw [Y0G _ _ (Y9 _),Y0S];simp [famL]
   rcases hv with ⟨rfl,h0⟩|⟨id,rfl,hb⟩
   ·refine ⟨G,by rw [h0];rfl,lo,hi,?_⟩
    have:=H.say hk (r':=.sl .nils rt sz (r.map c) false) ⟨hs,.inl ⟨rfl,h0⟩⟩ rfl
    rwa [e] at this
   ·refine ⟨G.put id (.blk rt (vs (r.map c).flatten) false),?_,lo,hi,?_⟩
    ·rw [Z3B hb (by rw [Z02,Zn hs]),Z5f]
     simp only [Y1,Z4P hs]
    ·have:=H.put hk rfl (r':=.sl (.buf id (r.map c).length sz) rt sz (r.map c) false) ⟨hs,.inr ⟨id,rfl,Z0p⟩⟩ rfl
     rwa [e] at this
  obtain ⟨lo1,hi1,H1⟩:=H1;obtain ⟨G2,h2⟩:=fam_exp (d:=d) (ids:=ids) (x:=x) (by simpa using hl) H1
  exact ⟨G2,by simp only [Zd,h1,Y1,h2,Y03]⟩
 | [],_::_,G,lo,hi,A,T,h,_=>by simp at h
 | _::_,[],G,lo,hi,A,T,h,_=>by simp at h
theorem chunk_one:∀ (l:List FV),chunk 1 l.length l=l.map λy=>[y]
 | []=>rfl
 | y::l=>by simp only [Yi,chunk,Y03];rw [<- chunk_one l];rfl
theorem mat_exp {α:Type} {rt et:TypeId} {sz id k m:Nat} {c:α->List FV} {ids:List PV} {x:List (List α)} {G:Heap} {lo hi:Nat} {L T:List Res} (H:Has G lo hi L) (hk:L[k]? = some (.blk id et ids)) (hL:L.drop (k+1)=famL rt sz c ids x++T) (hM:ids.length=x.length) (hm:ids.length=m) :
  ∃ G',ZT 6 G (.buf id m 1)=some (.sl (x.map λr=>[FV.sl (r.map c)]),G'):=by
 have hb:=H.blk hk
 have H2:=H.put hk rfl (r':=.hole id) (en:=.blk et ids false) trivial rfl
 have hlt:k<L.length:=Z03 hk
 have e:L.set k (.hole id)=(L.take k++[.hole id])++(famL rt sz c ids x++T):=by
  rw [Yo,if_pos hlt,hL];simp
 rw [e] at H2
 obtain ⟨G',h⟩:=fam_exp (d:=3) hM H2
 refine ⟨G',?_⟩
 rw [Z3B hb (by rw [hm];omega)]
 have h':Zd (ZT 5) (G.put id (.blk et ids false)) ids=some (x.map (λr=>FV.sl (r.map c)),G'):=h
 rw [h']
 simp only [Y1]
 have:m=(x.map (λr=>FV.sl (r.map c))).length:=by rw [YG];omega
 rw [this,chunk_one,List.map_map]
 rfl
theorem Ends.M {α:Type} {X:Ctx} {rs:List ResultVar} {rt et:TypeId} {sz id m:Nat} {c:α->List FV} {ids:List PV} {x:List (List α)} {e:Env} {G:Heap} {lo hi:Nat} {L T:List Res} {xs:List PV} {r:PV} {ex:Ex} (hx:ex = .normal\/ex = .ret) (H:Has G lo hi L) (k:Nat) (hk:L[k]? = some (.blk id et ids)) (hL:L.drop (k+1)=famL rt sz c ids x++T) (hM:ids.length=x.length) (hm:ids.length=m)
  (h:Zl X.P e G rs=some (.buf id m 1::xs)) (hp:xs.all PV.pure=true) (hr:Z0Q (.v (.sl (x.map λr=>[FV.sl (r.map c)]))::xs)=r):Ends X rs r ex e G:=by
 obtain ⟨G',q⟩:=mat_exp H hk hL hM hm
 refine ⟨hx,_,G',h,?_⟩
 have q1:Z0D G (.buf id m 1)=some (.v (.sl (x.map λr=>[FV.sl (r.map c)])),G'):=by
  show (ZT 6 G (.buf id m 1)).bind _=_;rw [q];rfl
 rw [<- hr]
 cases xs with
 | nil=>exact q1
 | cons y ys=>
  show (Z0S G (.buf id m 1::y::ys)).bind _=_;simp only [Z0S,q1,Y1];have:=Z3K (G:=G') hp;simp only [Z0S] at this;rw [this]
  rfl
end Go.Dn

namespace Go.Dn
open Go
section
variable {X:Ctx} {f:FuncId} {args:List PV} {r:PV}
theorem FnO.intr {X:Ctx} {f:FuncId} {args:List PV} {r:PV} (hi:X.intr f args=some r) (hp:args.all PV.pure=true):FnO X f args (λq A=>q=r/\A=[]):=λG T H=>
 ⟨r,G,[],Z11 (lf:=0) (by simp only [Z2Y,hi,hp,if_true]),⟨rfl,rfl⟩,H⟩
end
end Go.Dn

namespace Go.Dn
open Go
theorem at_nil {α:Type} {i:Int} {r:α} (h:at? ([] : List α) i=some r):False:=by
 have:=(at?_some h).2
 simp at this
section
variable {X:Ctx} {n:Nat} {dr:Bool} {ops:Array Oper} {base i:Nat} {l:List Oper} {e:Env} {G:Heap} {K:Env->Heap->Prop}
variable {d:Nat} {t t1:TypeId} {p:String} {af:Array Edge} {x y:Operand} {lo hi:Nat} {L:List Res}
end
end Go.Dn

namespace Go.Dn
open Go
section
variable {G:Heap} {lo hi:Nat}
theorem Has.matIn {M O T:List Res} (H:Has G lo hi (M++(O++T))):Has G lo hi (O++(M++T)):=by
 refine H.perm ?_
 rw [<- YR,<- YR]
 exact List.Perm.append_right _ Y0H
theorem Has.swapM {A T:List Res} {α β:Type} {r1 r2 e1 e2:TypeId} {s1 s2 i1 i2:Nat} {c1:α->List FV} {c2:β->List FV} {ids1 ids2:List PV} {x1:List (List α)} {x2:List (List β)}
  (H:Has G lo hi (A++(.blk i1 e1 ids1::(famL r1 s1 c1 ids1 x1++(.blk i2 e2 ids2::(famL r2 s2 c2 ids2 x2++T)))))):Has G lo hi (A++(.blk i2 e2 ids2::(famL r2 s2 c2 ids2 x2++(.blk i1 e1 ids1::(famL r1 s1 c1 ids1 x1++T))))):=by
 refine H.perm (List.Perm.append_left _ ?_)
 have e:∀ (a b:Res) (F Gg:List Res),(a::(F++(b::(Gg++T))))=(a::F)++((b::Gg)++T):=λa b F Gg=>by simp
 rw [e,e,<- YR,<- YR]
 exact List.Perm.append_right _ Y0H
theorem Has.noMat {A R:List Res} {α:Type} {r1 e1:TypeId} {s1 i1:Nat} {c1:α->List FV} {ids1:List PV} {x1:List (List α)} (hM:ids1.length=x1.length)
  (H:Has G lo hi (A++(.blk i1 e1 ids1::(famL r1 s1 c1 ids1 x1++R)))):Has G lo hi (A++R):=by
 have h1:Has G lo hi ((.blk i1 e1 ids1::famL r1 s1 c1 ids1 x1)++(A++R)):=by
  refine H.perm ?_;have e:(Res.blk i1 e1 ids1::(famL r1 s1 c1 ids1 x1++R))=(.blk i1 e1 ids1::famL r1 s1 c1 ids1 x1)++R:=rfl;rw [e,<- YR,<- YR];exact List.Perm.append_right _ Y0H
 have h2:=h1.drop (Res.blk i1 e1 ids1::famL r1 s1 c1 ids1 x1).length
 rwa [List.drop_left] at h2
end
section
variable {X:Ctx} {n:Nat} {dr:Bool} {ops:Array Oper} {base i:Nat} {l:List Oper} {e:Env} {G:Heap} {K:Env->Heap->Prop}
variable {d:Nat} {t t1:TypeId} {p:String} {af:Array Edge} {x y:Operand} {lo hi:Nat} {L:List Res}
theorem Ops.buildB {m:Nat} {parts:Array (Nat×Operand)} {el:TypeId} {z:PV} {pp:List (Nat×PV)} {cs:List PV} (H:Has G lo hi L) (hlo:lo<=base+i) (hhi:base+i<hi)
  (ht:tslice X.P t1=some el) (hp:Z1l X e parts.toList=some pp) (hs:tsize X.P el=some 1) (hz:tzero X.P el=some [z]) (hf:Z3T (λi=>some (i*1,1)) (List.replicate m [z]).flatten pp=some cs) (hh:X.hold t1 parts.toList=true) (hc:(Nat.ble (m*1) 1000000)=true) (hd:Nat.blt d n=true)
  (hlit:X.lit=false) (hk':∀ G',Has G' (base+i+1) hi (.blk (base+i) el cs::L)->Ops X n dr ops base (i+1) l (set e d (.buf (base+i) m 1)) G' K) :
  Ops X n dr ops base i (⟨some d,.buildSlice t1 m parts,t,p,af,none⟩::l) e G K:=by
 have hl0:(X.lit&&m != 0)=false:=by rw [hlit];rfl
 refine .plain (x:=.buf (base+i) m 1) (G1:=G.put (base+i) (.blk el cs true)) ?_ (λ_=>ask0 ?_) hd (hk' _ (H.push hlo hhi (r':=.blk (base+i) el cs) Z0p rfl))
 ·simp only [Z2,Z0M,hp,Y1,hh,Z48,Z0k,ht,hs,hz];rw [if_pos ⟨rfl,by decide,Yg hc⟩,hf]
  simp only [litR,hl0]
  rfl
 ·simp only [ZQ,Zc,frozen,hh]
  rfl
theorem Ops.callTM {α:Type} {c:α->List FV} {rt et:TypeId} {sz id m:Nat} {ids:List PV} {u:List (List α)} {T:List Res} {f:FuncId} {args:Array Operand} {ts:Array TypeId} {xs:List PV} {r:PV}
  (H:Has G lo hi L) (k:Nat) (hk:L[k]? = some (.blk id et ids)) (hL:L.drop (k+1)=famL rt sz c ids u++T) (hM:ids.length=u.length) (hm:ids.length=m)
  (ha:ZG X e args.toList=some (.buf id m 1::xs)) (hp:xs.all PV.pure=true) (hf:Fn X f (.v (.sl (u.map (cL c)))::xs) r) (hi0:X.intr f (.buf id m 1::xs)=none) (hi1:X.intr f (.v (.sl (u.map (cL c)))::xs)=none) (ht:X.thaw f=true) (hn:r.Z2c=true)
  (hdr:dr=true->Z18 (Region.before ops) ops i=true) (hd:Nat.blt d n=true) (hk':Ops X n dr ops base (i+1) l (set e d r) G K) :
  Ops X n dr ops base i (⟨some d,.call { callee:=.value (.func f),args:=args,argTypes:=ts },t,p,af,none⟩::l) e G K:=by
 obtain ⟨G',q⟩:=mat_exp H hk hL hM hm
 have q2:Zu G (.buf id m 1::xs)=some (.v (.sl (u.map (cL c)))::xs,G'):=by
  have q1:Z1V G (.buf id m 1)=some (.v (.sl (u.map (cL c))),G'):=by
   show (ZT 6 G (.buf id m 1)).bind _=_;rw [q];rfl
  simp only [Zu,q1,Y1,Z0W hp]
 exact .plain (x:=r) (G1:=G) (by simp only [Z2,ZU,ha,Z0,Z6O hf hi0 hi1 ht hn q2]) (λh=>Z3D (hdr h)) hd hk'
end
open Classical in
noncomputable def liftI (X:Ctx) (f:FuncId) (args:List PV):Option PV:=if h:∃ r,Fn X f args r then some h.choose else none
theorem liftI_fn {X:Ctx} {f:FuncId} {args:List PV} {r:PV} (h:liftI X f args=some r):Fn X f args r:=by
 unfold liftI at h
 split at h
 ·rename_i hx;cases h;exact hx.choose_spec
 ·cases h
theorem liftI_of {X:Ctx} {f:FuncId} {args:List PV} {r:PV} (h:Fn X f args r):liftI X f args=some r:=by
 cases hl:liftI X f args with
 | none=>
  unfold liftI at hl;rw [dif_pos ⟨r,h⟩] at hl;cases hl
 | some r'=>
  have h2:=(liftI_fn hl).call Heap.empty;rw [h.call Heap.empty] at h2;cases h2
  rfl
end Go.Dn

namespace Go.Dn
open Go Go.Proofs
def cloneV (sz by_:Nat):List PV->Option PV
 | [.v (.sl xs)]=>if (xs.all λy=>y.length==sz)=true/\xs.length*by_<=room then some (.v (.sl xs)) else none
 | _=>none
noncomputable def CA:Ctx:={ P:=Try.prog,glob:=λ_=>none,intr:=λf args=>if f=78 then cloneV 1 24 args else none,opn:=λf=>false,keep:=λf=>false,lit:=true }
noncomputable def C0:Ctx:={ P:=Try.prog,glob:=λ_=>none,intr:=λ_ _=>none,opn:=λ_=>false,keep:=λ_=>false }
theorem Z4w:ProgOK Try.prog:=by
 refine ⟨λf fn h=>?_,by kernel_rfl⟩
 have hall : Try.prog.funcs.all (fun fn => !(fn.name == "runtime.NumGoroutine")) = true := by kernel_rfl
 have:=Array.all_eq_true_iff_forall_mem.1 hall fn (Array.mem_of_getElem? h)
 simpa using this
theorem c0_ok:CtxOK C0:=⟨Z4w,λf args r h=>by cases h⟩
theorem prog_call (f:FuncId) (fu:Func) (vs:Array Value) (w:World) (hf:Try.prog.funcs[f]? = some fu) (hb:fu.body.isSome=true):(callFunc f vs).run Try.prog w = .ok (.enter f vs) w:=by
 have hp:(program).run Try.prog w = .ok Try.prog w:=rfl
 simp only [callFunc,Sem.run_bind,hp,Result.andThen_ok,hf,Z4w.names f fu hf]
 cases hc:fu.body with
 | none=>rw [hc] at hb;cases hb
 | some c=>simp
set_option maxRecDepth 100000 in
theorem cloneT78:CloneT Try.prog 39 43 1 24 [.nils]:=⟨rfl,rfl,rfl,rfl,rfl⟩
theorem pvrs_one' {s:St} {x:PV} {vs:Array Value} (h:PVRs s [x] vs):∃ v,vs = #[v]/\PVR s x v:=by
 obtain ⟨hl,hx⟩:=h
 have:vs.size=1:=hl.symm
 refine ⟨vs.getD 0 Go.undef,?_,hx 0 x rfl⟩
 apply Array.ext
 ·simpa using this
 ·intro i h1 h2;have:i=0:=by simp at h2;omega
  subst this;simp [Array.getD,h1]
theorem ca_ok:CtxOK CA:=by
 refine ⟨Z4w,λf args r h s hi hG vs hv hp=>?_⟩
 simp only [CA] at h
 split at h
 ·rename_i hf;subst hf;refine ⟨prog_call 78 _ _ _ Try.func78 rfl,?_⟩;unfold cloneV at h
  split at h
  ·split at h
   ·rename_i xs hx;cases h;obtain ⟨v,rfl,hv1⟩:=pvrs_one' hv;exact clone_calls (X:=C0) (b:=4) c0_ok Try.func78 rfl rfl rfl (λ_=>rfl) cloneT78 hi hx.1 hx.2 hv1
   ·cases h
  ·cases h
 cases h
def closeV:List PV->Option PV
 | [.v (.sl [])]=>some (.tup [.v (.sl []),.v (.bool true),.v (.int .i64 0)])
 | _=>none
theorem close0 (G:Heap):Zp CA 60 (.fn 44) [.v (.sl [])] G=some (.tup [.v (.sl []),.v (.bool true),.v (.int .i64 0)],G):=by kernel_rfl
noncomputable def CX:Ctx:={ P:=Try.prog,glob:=λ_=>none,intr:=λf args=>if f=44 then closeV args else none,opn:=λf=>f==63||f==69||f==70||f==78||f==79,keep:=λf=>f==70,view:=λo=>match o with | .slice 43 (.tmp 39) (some (.tmp 40)) none none=>true | .slice 43 (.tmp 42) none (some (.tmp 43)) none=>true|_=>false }
theorem cx_ok:CtxOK CX:=by
 refine ⟨Z4w,λf args r h s hi hG vs hv hp=>?_⟩
 simp only [CX] at h
 split at h
 ·rename_i hf;subst hf;unfold closeV at h
  split at h
  ·cases h;exact Z4o ca_ok 60 (.fn 44) _ _ _ s (close0 s.G) hi hG vs hv
  ·cases h
 cases h
end Go.Dn

namespace Go.Dn
open Go
noncomputable section
structure Bound where
 Inf:Int
 N:Int
 deriving DecidableEq
def Bound.cs (x:Bound):List FV:=[(.int .i8 x.Inf),(.int .i64 x.N)]
def Bound.ok (x:Bound):Prop:=okI .i8 x.Inf/\okI .i64 x.N
structure epactlaw24_Set where
 I:Int
 J:Int
 Most:Bound
 deriving DecidableEq
def epactlaw24_Set.cs (x:epactlaw24_Set):List FV:=[(.int .i64 x.I),(.int .i64 x.J),(.int .i8 x.Most.Inf),(.int .i64 x.Most.N)]
def epactlaw24_Set.ok (x:epactlaw24_Set):Prop:=okI .i64 x.I/\okI .i64 x.J/\Bound.ok x.Most
def Z08 (x':Int) (y:Int):Int×Int :=
 ((IntKind.u64.wrap ((IntKind.u64.wrap ((IntKind.u64.wrap ((x'.fdiv (2 ^ 32))*(y.fdiv (2 ^ 32))))+((IntKind.u64.wrap ((IntKind.u64.wrap ((x'.fdiv (2 ^ 32))*(iAnd .u64 y 4294967295)))+((IntKind.u64.wrap ((iAnd .u64 x' 4294967295)*(iAnd .u64 y 4294967295))).fdiv (2 ^ 32)))).fdiv (2 ^ 32))))+((IntKind.u64.wrap ((iAnd .u64 (IntKind.u64.wrap ((IntKind.u64.wrap ((x'.fdiv (2 ^ 32))*(iAnd .u64 y 4294967295)))+((IntKind.u64.wrap ((iAnd .u64 x' 4294967295)*(iAnd .u64 y 4294967295))).fdiv (2 ^ 32)))) 4294967295)+(IntKind.u64.wrap ((iAnd .u64 x' 4294967295)*(y.fdiv (2 ^ 32)))))).fdiv (2 ^ 32)))),(IntKind.u64.wrap (x'*y)))
def Z0O (a:Int) (b:Int):Int×Int :=
 (bif (((decide ((w64 (a+b))>a)) != (decide (b>0)))&&(b != 0)) then
  (0,10)
 else
  ((w64 (a+b)),0))
def ZW (a:Bound):Bool :=
 ((a.Inf==0)||(((a.Inf==1)||(a.Inf==(-1)))&&(a.N==0)))
def Z0z (a:Int) (b:Int):Int×Int :=
 (bif (((decide ((w64 (a-b))<a)) != (decide (b>0)))&&(b != 0)) then
  (0,10)
 else
  ((w64 (a-b)),0))
def Zg (a:Bound) (b:Bound):Bool :=
 (bif ((!(ZW a))||(!(ZW b))) then
  false
 else
  (bif (a.Inf != b.Inf) then
   (decide (a.Inf<b.Inf))
  else
   (decide (a.N<b.N))))
def ZB (a:Bound) (b:Bound):Bound×Int :=
 (bif ((!(ZW a))||(!(ZW b))) then
  ((Bound.mk 0 0),2)
 else
  (bif (((a.Inf != 0)&&(b.Inf != 0))&&(a.Inf != b.Inf)) then
   ((Bound.mk 0 0),10)
  else
   (bif (a.Inf != 0) then
    (a,0)
   else
    (bif (b.Inf != 0) then
     (b,0)
    else
     ((Bound.mk 0 ((Z0O a.N b.N).1)),(Z0O a.N b.N).2)))))
def ZE (x':Int) (y:Int):Int×Int :=
 ((Z08 x' y).1,(Z08 x' y).2)
def Z9.s0 (x':(List Bound)) (count:Int) (s1:Int×(List Bound)):Option ((Int×(List Bound))⊕((List Bound))) :=
 (bif (decide (s1.1<(s1.2.length:Int))) then
  (winA s1.1 ((w64 ((ZE (IntKind.u64.wrap (x'.length:Int)) (IntKind.u64.wrap count)).2))).toNat).bind λu1=>
  (winB s1.1 ((w64 ((ZE (IntKind.u64.wrap (x'.length:Int)) (IntKind.u64.wrap count)).2))).toNat).bind λu2=>
  some (.inl ((w64 (s1.1+((min (s1.1).toNat (((w64 ((ZE (IntKind.u64.wrap (x'.length:Int)) (IntKind.u64.wrap count)).2))).toNat-(s1.1).toNat):Nat):Int))),(dbl s1.2 (s1.1).toNat)))
 else
  some (.inr s1.2))
def Z9 (x':(List Bound)) (count:Int):Option ((List Bound)) :=
 (bif (decide (count<0)) then
  none
 else
  (bif ((decide (((ZE (IntKind.u64.wrap (x'.length:Int)) (IntKind.u64.wrap count)).1)>0))||(decide (((ZE (IntKind.u64.wrap (x'.length:Int)) (IntKind.u64.wrap count)).2)>9223372036854775807))) then
   none
  else
   (new? 16 (w64 ((ZE (IntKind.u64.wrap (x'.length:Int)) (IntKind.u64.wrap count)).2)) (Bound.mk 0 0)).bind λx1=>
   (loopO (Z9.s0 x' count) (((min x'.length x1.length:Nat):Int),(cpy x1 x'))).bind λ(y1:(List Bound))=>
   some y1))
def Z0n.s0 (n:Int) (s1:Int×(List (List Bound))):Option ((Int×(List (List Bound)))⊕((List (List Bound)))) :=
 (bif (decide (s1.1<n)) then
  (Z9 [(Bound.mk 1 0)] n).bind λx2=>
  (at? s1.2 s1.1).bind λx3=>
  (at? (s1.2.set (s1.1).toNat x2) s1.1).bind λx4=>
  (at? x4 s1.1).bind λx5=>
  some (.inl ((w64 (s1.1+1)),((s1.2.set (s1.1).toNat x2).set (s1.1).toNat (x4.set (s1.1).toNat (Bound.mk 0 0)))))
 else
  some (.inr s1.2))
def Z0n (n:Int):Option ((List (List Bound))×Int) :=
 (bif ((decide (n<0))||(decide (n>24))) then
  some ([],2)
 else
  (new? 24 n []).bind λx1=>
  (loopO (Z0n.s0 n) (0,x1)).bind λ(y1:(List (List Bound)))=>
  some (y1,0))
def Z6.s0 (s:(List (List Bound))) (f:(List Bound)->Option Bool) (s1:Int):Option ((Int)⊕(Jx (Unit) (Int))) :=
 (bif (decide (s1<(s.length:Int))) then
  (at? s s1).bind λx1=>
  (f x1).bind λx2=>
  (bif x2 then
   some (.inr (.ret s1))
  else
   some (.inl (w64 (s1+1))))
 else
  some (.inr (.go ())))
def Z6 (s:(List (List Bound))) (f:(List Bound)->Option Bool):Option (Int) :=
 (loopO (Z6.s0 s f) 0).bind λ(y1:Jx (Unit) (Int))=>
 y1.elim (λr'=>
   some r') λa2=>
 some (-1)
def ZH (s:(List (List Bound))) (f:(List Bound)->Option Bool):Option (Bool) :=
 (Z6 s f).bind λx1=>
 some (decide (x1>=0))
def Z8.s0 (s:(List Bound)) (f:Bound->Option Bool) (s1:Int):Option ((Int)⊕(Jx (Unit) (Int))) :=
 (bif (decide (s1<(s.length:Int))) then
  (at? s s1).bind λx1=>
  (f x1).bind λx2=>
  (bif x2 then
   some (.inr (.ret s1))
  else
   some (.inl (w64 (s1+1))))
 else
  some (.inr (.go ())))
def Z8 (s:(List Bound)) (f:Bound->Option Bool):Option (Int) :=
 (loopO (Z8.s0 s f) 0).bind λ(y1:Jx (Unit) (Int))=>
 y1.elim (λr'=>
   some r') λa2=>
 some (-1)
def ZM (s:(List Bound)) (f:Bound->Option Bool):Option (Bool) :=
 (Z8 s f).bind λx1=>
 some (decide (x1>=0))
def Z0o (b:Bound):Bool :=
 ((((ZW b)&&(decide (b.Inf>=0)))&&(decide (b.N>=(-1125899906842624))))&&(decide (b.N<=1125899906842624)))
def Z24 (b:Bound):Bool :=
 (!(Z0o b))
def Z1M (row:(List Bound)) (p1':Int):Option (Bool) :=
 (
  (bif ((row.length:Int) != p1') then
   some true
  else
   (ZM row (λz0=>some (Z24 z0))).bind λx1=>
   some x1)).bind λ(y1:Bool)=>
 some y1
def Z0N (d:(List (List Bound))):Option (Bool) :=
 (
  (bif (decide ((d.length:Int)<=24)) then
   (ZH d (λz0=>Z1M z0 (d.length:Int))).bind λx1=>
   some (!x1)
  else
   some false)).bind λ(y1:Bool)=>
 some y1
def Zh (s:(List (List Bound))):Option ((List (List Bound))) :=
 (some? s).bind λu1=>
 (app? 24 [] s).bind λx1=>
 some x1
def Zo (s:(List Bound)):Option ((List Bound)) :=
 (some? s).bind λu1=>
 (app? 16 [] s).bind λx1=>
 some x1
def Z1H (d:(List (List Bound))):Option ((List (List Bound))) :=
 (bif (!d.isEmpty&&decide (d.length*24<=room)&&d.all λq=>!q.isEmpty&&decide (q.length*16<=room)) then
  some d
 else
  none)
def Z2F (d:(List (List Bound))) (i:Int) (j:Int) (most:Bound):Option ((List (List Bound))×Int) :=
 (Z0N d).bind λx1=>
 (bif ((((((!x1)||(decide (i<0)))||(decide (j<0)))||(decide (i>=(d.length:Int))))||(decide (j>=(d.length:Int))))||(!(Z0o most))) then
  some ([],2)
 else
  (Z1H d).bind λx2=>
  (
   (at? x2 i).bind λx3=>
   (at? x3 j).bind λx4=>
   (bif (Zg most x4) then
    (at? x2 i).bind λx5=>
    (at? x5 j).bind λx6=>
    some (x2.set (i).toNat (x5.set (j).toNat most))
   else
    some x2)).bind λ(y1:(List (List Bound)))=>
  some (y1,0))
def ZJ.s0 (l:(List epactlaw24_Set)) (s1:(List (List Bound))×Int×Int):Option (((List (List Bound))×Int×Int)⊕((List (List Bound))×Int)) :=
 (bif (decide (s1.2.2<(l.length:Int))) then
  (
   (
    (at? l s1.2.2).bind λx2=>
    (bif (s1.2.1==0) then
     (Z2F s1.1 x2.I x2.J x2.Most).bind λx3=>
     some (x3.1,x3.2)
    else
     some (s1.1,s1.2.1))).bind λ(y3:(List (List Bound))×Int)=>
   some (y3.1,y3.2)).bind λ(y2:(List (List Bound))×Int)=>
  some (.inl (y2.1,y2.2,(w64 (s1.2.2+1))))
 else
  some (.inr (s1.1,s1.2.1)))
def ZJ (n:Int) (l:(List epactlaw24_Set)):Option ((List (List Bound))×Bool) :=
 (Z0n n).bind λx1=>
 (loopO (ZJ.s0 l) (x1.1,x1.2,0)).bind λ(y1:(List (List Bound))×Int)=>
 some (y1.1,(y1.2==0))
def ZX.s0 (x1:(List epactlaw24_Set)) (s2:Int×Int×(List epactlaw24_Set)):Option ((Int×Int×(List epactlaw24_Set))⊕(Int×(List epactlaw24_Set))) :=
 (bif (decide (s2.2.1<(x1.length:Int))) then
  (
   (
    (at? x1 s2.2.1).bind λx2=>
    (nz? s2.1).bind λu1=>
    (nz? s2.1).bind λu2=>
    (
     (bif (x2.Most.Inf==0) then
      some (0,(x2.Most.N.tmod 1001))
     else
      some (1,0))).bind λ(y4:Int×Int)=>
    (bif (((iAnd .i64 x2.I 255).tmod s2.1) != ((iAnd .i64 x2.J 255).tmod s2.1)) then
     (app? 32 s2.2.2 [(epactlaw24_Set.mk ((iAnd .i64 x2.I 255).tmod s2.1) ((iAnd .i64 x2.J 255).tmod s2.1) (Bound.mk y4.1 y4.2))]).bind λx3=>
     some x3
    else
     some s2.2.2)).bind λ(y3:(List epactlaw24_Set))=>
   some y3).bind λ(y2:(List epactlaw24_Set))=>
  some (.inl (s2.1,(w64 (s2.2.1+1)),y2))
 else
  some (.inr (s2.1,s2.2.2)))
def ZX (n:Int) (l:(List epactlaw24_Set)):Option ((List (List Bound))) :=
 (cut? l 0 (iMin (l.length:Int) 60)).bind λx1=>
 (loopO (ZX.s0 x1) ((w64 (1+(w64 (n.tmod 24)))),0,[])).bind λ(y1:Int×(List epactlaw24_Set))=>
 (ZJ y1.1 y1.2).bind λx4=>
 some x4.1
def ZC.s0 (d:(List (List Bound))) (s1:Int×(List (List Bound))):Option ((Int×(List (List Bound)))⊕(Jx ((List (List Bound))) ((List (List Bound))×Bool×Int))) :=
 (bif (decide (s1.1<((d.length:Nat):Int))) then
  (at? s1.2 s1.1).bind λx3=>
  (at? x3 s1.1).bind λx4=>
  (bif (Zg x4 (Bound.mk 0 0)) then
   some (.inr (.ret ([],false,0)))
  else
   (at? s1.2 s1.1).bind λx5=>
   (at? x5 s1.1).bind λx6=>
   some (.inl ((w64 (s1.1+1)),(s1.2.set (s1.1).toNat (x5.set (s1.1).toNat (Bound.mk 0 0))))))
 else
  some (.inr (.go s1.2)))
def ZC.s3 (d:(List (List Bound))) (s2:Int×(List (List Bound))) (s3:Int×(List (List Bound))) (s4:Int×(List (List Bound))):Option ((Int×(List (List Bound)))⊕((List (List Bound)))) :=
 (bif (decide (s4.1<((d.length:Nat):Int))) then
  (
   (
    (at? s4.2 s3.1).bind λx7=>
    (at? x7 s2.1).bind λx8=>
    (at? s4.2 s2.1).bind λx9=>
    (at? x9 s4.1).bind λx10=>
    (
     (bif (((ZB x8 x10).2)==0) then
      (at? s4.2 s3.1).bind λx11=>
      (at? x11 s4.1).bind λx12=>
      some (Zg ((ZB x8 x10).1) x12)
     else
      some false)).bind λ(y8:Bool)=>
    (bif y8 then
     (at? s4.2 s3.1).bind λx13=>
     (at? x13 s4.1).bind λx14=>
     some (s4.2.set (s3.1).toNat (x13.set (s4.1).toNat ((ZB x8 x10).1)))
    else
     some s4.2)).bind λ(y7:(List (List Bound)))=>
   some y7).bind λ(y6:(List (List Bound)))=>
  some (.inl ((w64 (s4.1+1)),y6))
 else
  some (.inr s4.2))
def ZC.s2 (d:(List (List Bound))) (s2:Int×(List (List Bound))) (s3:Int×(List (List Bound))):Option ((Int×(List (List Bound)))⊕((List (List Bound)))) :=
 (bif (decide (s3.1<((d.length:Nat):Int))) then
  (loopO (ZC.s3 d s2 s3) (0,s3.2)).bind λ(y5:(List (List Bound)))=>
  some (.inl ((w64 (s3.1+1)),y5))
 else
  some (.inr s3.2))
def ZC.s4 (d:(List (List Bound))) (y4:(List (List Bound))) (s5:Int):Option ((Int)⊕(Jx (Unit) (Unit))) :=
 (bif (decide (s5<((d.length:Nat):Int))) then
  (at? y4 s5).bind λx15=>
  (at? x15 s5).bind λx16=>
  (bif (Zg x16 (Bound.mk 0 0)) then
   some (.inr (.ret ()))
  else
   some (.inl (w64 (s5+1))))
 else
  some (.inr (.go ())))
def ZC.s1 (d:(List (List Bound))) (s2:Int×(List (List Bound))):Option ((Int×(List (List Bound)))⊕(Jx ((List (List Bound))) ((List (List Bound))×Bool×Int))) :=
 (bif (decide (s2.1<((d.length:Nat):Int))) then
  (
   (loopO (ZC.s2 d s2) (0,s2.2)).bind λ(y4:(List (List Bound)))=>
   (loopO (ZC.s4 d y4) 0).bind λ(y9:Jx (Unit) (Unit))=>
   y9.elim (λa7=>
     some (false,y4)) λa6=>
   some (true,y4)).bind λ(y3:Bool×(List (List Bound)))=>
  (bif (!y3.1) then
   some (.inr (.ret ([],false,0)))
  else
   some (.inl ((w64 (s2.1+1)),y3.2)))
 else
  some (.inr (.go s2.2)))
def ZC (d:(List (List Bound))):Option ((List (List Bound))×Bool×Int) :=
 (Z0N d).bind λx1=>
 (bif (!x1) then
  some ([],false,2)
 else
  (Z1H d).bind λx2=>
  (loopO (ZC.s0 d) (0,x2)).bind λ(y1:Jx ((List (List Bound))) ((List (List Bound))×Bool×Int))=>
  y1.elim (λr'=>
    some r') λa2=>
  (loopO (ZC.s1 d) (0,a2)).bind λ(y2:Jx ((List (List Bound))) ((List (List Bound))×Bool×Int))=>
  y2.elim (λr'=>
    some r') λa8=>
  some (a8,true,0))
def ZY.s1 (ticks:(List Int)) (s1:Int) (x2:(List Bound)) (s2:Int):Option ((Int)⊕(Jx (Unit) (Bool))) :=
 (bif (decide (s2<(x2.length:Int))) then
  (
   (
    (at? x2 s2).bind λx3=>
    (at? ticks s2).bind λx4=>
    (at? ticks s1).bind λx5=>
    (
     (bif (x3.Inf==1) then
      some (.go ())
     else
      (
       (
        (bif (((Z0z x4 x5).2) != 0) then
         (at? ticks s2).bind λx6=>
         (at? ticks s1).bind λx7=>
         some (decide (x6>x7))
        else
         some false)).bind λ(y7:Bool)=>
       (bif y7 then
        some y7
       else
        some ((((Z0z x4 x5).2)==0)&&(decide (((Z0z x4 x5).1)>x3.N))))).bind λ(y6:Bool)=>
      (bif y6 then
       some (.ret false)
      else
       some (.go ())))).bind λ(y5:Jx (Unit) (Bool))=>
    y5.elim (λr'=>
      some (.ret r')) λa6=>
    some (.go ())).bind λ(y4:Jx (Unit) (Bool))=>
   y4.elim (λr'=>
     some (.ret r')) λa7=>
   some (.go ())).bind λ(y3:Jx (Unit) (Bool))=>
  y3.elim (λr'=>
    some (.inr (.ret r'))) λa8=>
  some (.inl (w64 (s2+1)))
 else
  some (.inr (.go ())))
def ZY.s0 (d:(List (List Bound))) (ticks:(List Int)) (s1:Int):Option ((Int)⊕(Jx (Unit) (Bool))) :=
 (bif (decide (s1<(d.length:Int))) then
  (at? d s1).bind λx2=>
  (loopO (ZY.s1 ticks s1 x2) 0).bind λ(y2:Jx (Unit) (Bool))=>
  y2.elim (λr'=>
    some (.inr (.ret r'))) λa9=>
  some (.inl (w64 (s1+1)))
 else
  some (.inr (.go ())))
def ZY (d:(List (List Bound))) (ticks:(List Int)):Option (Bool) :=
 (Z0N d).bind λx1=>
 (bif ((!x1)||((ticks.length:Int) != (d.length:Int))) then
  some false
 else
  (loopO (ZY.s0 d ticks) 0).bind λ(y1:Jx (Unit) (Bool))=>
  y1.elim (λr'=>
    some r') λa10=>
  some true)
def Z1 (n:Int):Bound :=
 (Bound.mk 0 n)
def Z4.s0 (m:(List (List Bound))) (n:Int) (s1:Int):Option ((Int)⊕(Jx (Unit) (Bool))) :=
 (bif (decide (s1<(m.length:Int))) then
  (at? m s1).bind λx1=>
  (bif ((x1.length:Int) != n) then
   some (.inr (.ret false))
  else
   some (.inl (w64 (s1+1))))
 else
  some (.inr (.go ())))
def Z4 (m:(List (List Bound))) (n:Int):Option (Bool) :=
 (loopO (Z4.s0 m n) 0).bind λ(y1:Jx (Unit) (Bool))=>
 y1.elim (λr'=>
   some r') λa2=>
 some ((m.length:Int)==n)
def Za.s1 (a:(List (List Bound))) (b:(List (List Bound))) (s1:Int) (s2:Int):Option ((Int)⊕(Jx (Unit) (Bool))) :=
 (at? a s1).bind λx3=>
 (bif (decide (s2<(x3.length:Int))) then
  (at? a s1).bind λx4=>
  (at? x4 s2).bind λx5=>
  (at? b s1).bind λx6=>
  (at? x6 s2).bind λx7=>
  (bif (!((x5.Inf==x7.Inf)&&((x5.N==x7.N)&&true))) then
   some (.inr (.ret false))
  else
   some (.inl (w64 (s2+1))))
 else
  some (.inr (.go ())))
def Za.s0 (a:(List (List Bound))) (b:(List (List Bound))) (s1:Int):Option ((Int)⊕(Jx (Unit) (Bool))) :=
 (bif (decide (s1<(a.length:Int))) then
  (at? a s1).bind λx1=>
  (at? b s1).bind λx2=>
  (bif ((x1.length:Int) != (x2.length:Int)) then
   some (.inr (.ret false))
  else
   (loopO (Za.s1 a b s1) 0).bind λ(y2:Jx (Unit) (Bool))=>
   y2.elim (λr'=>
     some (.inr (.ret r'))) λa3=>
   some (.inl (w64 (s1+1))))
 else
  some (.inr (.go ())))
def Za (a:(List (List Bound))) (b:(List (List Bound))):Option (Bool) :=
 (bif ((a.length:Int) != (b.length:Int)) then
  some false
 else
  (loopO (Za.s0 a b) 0).bind λ(y1:Jx (Unit) (Bool))=>
  y1.elim (λr'=>
    some r') λa4=>
  some true)
def ZK:Bool:=true
def Zb.s0 (x1:(List (List Bound))) (s1:(List Int)):Option (((List Int))⊕((List Int))) :=
 (bif (decide ((s1.length:Int)<(x1.length:Int))) then
  (cut? s1 0 (s1.length:Int)).bind λx5=>
  (app? 8 x5 [0]).bind λx6=>
  some (.inl x6)
 else
  some (.inr s1))
def Zb.s2 (x1:(List (List Bound))) (x2:(List (List Bound))×Bool×Int) (s2:Int×(List Int)) (s3:Int×(List Int)):Option ((Int×(List Int))⊕((List Int))) :=
 (bif (decide (s3.1<(x1.length:Int))) then
  (
   (
    (at? x2.1 s3.1).bind λx13=>
    (at? x13 s2.1).bind λx14=>
    (bif (x14.Inf==0) then
     (at? s3.2 s2.1).bind λx15=>
     (at? x2.1 s3.1).bind λx16=>
     (at? x16 s2.1).bind λx17=>
     (at? s3.2 s2.1).bind λx18=>
     some (s3.2.set (s2.1).toNat (iMin x15 x17.N))
    else
     some s3.2)).bind λ(y5:(List Int))=>
   some y5).bind λ(y4:(List Int))=>
  some (.inl ((w64 (s3.1+1)),y4))
 else
  some (.inr s3.2))
def Zb.s1 (x1:(List (List Bound))) (x2:(List (List Bound))×Bool×Int) (s2:Int×(List Int)):Option ((Int×(List Int))⊕((List Int))) :=
 (bif (decide (s2.1<(x1.length:Int))) then
  (loopO (Zb.s2 x1 x2 s2) (0,s2.2)).bind λ(y3:(List Int))=>
  some (.inl ((w64 (s2.1+1)),y3))
 else
  some (.inr s2.2))
def Zb.s4 (x1:(List (List Bound))) (x2:(List (List Bound))×Bool×Int) (s4:Int×(List Int)) (s5:Int×(List Int)):Option ((Int×(List Int))⊕((List Int))) :=
 (bif (decide (s5.1<(x1.length:Int))) then
  (
   (
    (at? x2.1 s5.1).bind λx27=>
    (at? x27 s4.1).bind λx28=>
    (bif (x28.Inf==0) then
     (at? s5.2 s4.1).bind λx29=>
     (at? x2.1 s5.1).bind λx30=>
     (at? x30 s4.1).bind λx31=>
     (at? s5.2 s4.1).bind λx32=>
     some (s5.2.set (s4.1).toNat (iMin x29 x31.N))
    else
     some s5.2)).bind λ(y10:(List Int))=>
   some y10).bind λ(y9:(List Int))=>
  some (.inl ((w64 (s5.1+1)),y9))
 else
  some (.inr s5.2))
def Zb.s3 (x1:(List (List Bound))) (x2:(List (List Bound))×Bool×Int) (s4:Int×(List Int)):Option ((Int×(List Int))⊕((List Int))) :=
 (bif (decide (s4.1<(x1.length:Int))) then
  (loopO (Zb.s4 x1 x2 s4) (0,s4.2)).bind λ(y8:(List Int))=>
  some (.inl ((w64 (s4.1+1)),y8))
 else
  some (.inr s4.2))
def Zb (n:Int) (l:(List epactlaw24_Set)) (ticks:(List Int)):Option (Bool) :=
 (ZX n l).bind λx1=>
 (bif ((x1.length:Int)==0) then
  some false
 else
  (ZC x1).bind λx2=>
  (bif (decide ((ticks.length:Int)<(x1.length:Int))) then
   (cut? ticks 0 (ticks.length:Int)).bind λx3=>
   (app? 8 x3 [0]).bind λx4=>
   (loopO (Zb.s0 x1) x4).bind λ(y1:(List Int))=>
   (cut? y1 0 (x1.length:Int)).bind λx7=>
   (ZY x1 x7).bind λx8=>
   (bif ((x2.2.2 != 0)||(!x2.2.1)) then
    some ((((x2.2.2==0)&&(!x8))&&((x2.1.length:Int)==0))&&ZK)
   else
    (cut? y1 0 (x1.length:Int)).bind λx9=>
    (ZY x2.1 x9).bind λx10=>
    (bif (x10 != x8) then
     some false
    else
     (Z4 x2.1 (x1.length:Int)).bind λx11=>
     (bif (!x11) then
      some false
     else
      (new? 8 (x1.length:Int) 0).bind λx12=>
      (loopO (Zb.s1 x1 x2) (0,x12)).bind λ(y2:(List Int))=>
      (ZY x1 y2).bind λx19=>
      (
       (bif x19 then
        (ZY x2.1 y2).bind λx20=>
        some x20
       else
        some false)).bind λ(y6:Bool)=>
      some (y6&&ZK))))
  else
   (cut? ticks 0 (x1.length:Int)).bind λx21=>
   (ZY x1 x21).bind λx22=>
   (bif ((x2.2.2 != 0)||(!x2.2.1)) then
    some ((((x2.2.2==0)&&(!x22))&&((x2.1.length:Int)==0))&&ZK)
   else
    (cut? ticks 0 (x1.length:Int)).bind λx23=>
    (ZY x2.1 x23).bind λx24=>
    (bif (x24 != x22) then
     some false
    else
     (Z4 x2.1 (x1.length:Int)).bind λx25=>
     (bif (!x25) then
      some false
     else
      (new? 8 (x1.length:Int) 0).bind λx26=>
      (loopO (Zb.s3 x1 x2) (0,x26)).bind λ(y7:(List Int))=>
      (ZY x1 y7).bind λx33=>
      (
       (bif x33 then
        (ZY x2.1 y7).bind λx34=>
        some x34
       else
        some false)).bind λ(y11:Bool)=>
      some (y11&&ZK))))))
def Z1h (d:(List (List Bound))):Option ((List (List Bound))×Bool×Int) :=
 (bif d.isEmpty then
  some ([],true,0)
 else
  ZC d)
def Z0a:Option (Bool) :=
 (ZJ 2 [(epactlaw24_Set.mk 0 1 (Z1 5)),(epactlaw24_Set.mk 1 0 (Z1 (-2)))]).bind λx1=>
 (Z1h x1.1).bind λx2=>
 (ZJ 3 [(epactlaw24_Set.mk 0 1 (Z1 5)),(epactlaw24_Set.mk 1 0 (Z1 (-2))),(epactlaw24_Set.mk 1 2 (Z1 1))]).bind λx3=>
 (Z1h x3.1).bind λx4=>
 (ZJ 2 [(epactlaw24_Set.mk 0 1 (Z1 5)),(epactlaw24_Set.mk 1 0 (Z1 (-6)))]).bind λx5=>
 (Z1h x5.1).bind λx6=>
 (Z0n 2).bind λx7=>
 (
  (bif ((((((((((!x1.2)||(!x3.2))||(!x5.2))||(!x2.2.1))||(!x4.2.1))||x6.2.1)||(x2.2.2 != 0))||(x4.2.2 != 0))||(x6.2.2 != 0))||(x7.2 != 0)) then
   some true
  else
   (Z4 x4.1 3).bind λx8=>
   some (!x8))).bind λ(y1:Bool)=>
 (
  (bif y1 then
   some true
  else
   (Z4 x7.1 2).bind λx9=>
   some (!x9))).bind λ(y2:Bool)=>
 (bif y2 then
  some false
 else
  (Za x2.1 x1.1).bind λx10=>
  (
   (bif x10 then
    (at? x4.1 0).bind λx11=>
    (at? x11 2).bind λx12=>
    some ((x12.Inf==((Z1 6).Inf))&&((x12.N==((Z1 6).N))&&true))
   else
    some false)).bind λ(y3:Bool)=>
  (
   (bif y3 then
    (at? x7.1 0).bind λx13=>
    (at? x13 0).bind λx14=>
    some ((x14.Inf==((Z1 0).Inf))&&((x14.N==((Z1 0).N))&&true))
   else
    some false)).bind λ(y4:Bool)=>
  (
   (bif y4 then
    (at? x7.1 0).bind λx15=>
    (at? x15 1).bind λx16=>
    some ((x16.Inf==1)&&((x16.N==0)&&true))
   else
    some false)).bind λ(y5:Bool)=>
  (
   (bif y5 then
    (ZY x1.1 [3,7]).bind λx17=>
    some x17
   else
    some false)).bind λ(y6:Bool)=>
  (
   (bif y6 then
    (ZY x1.1 [3,9]).bind λx18=>
    some (!x18)
   else
    some false)).bind λ(y7:Bool)=>
  some y7)
def Z38 (d:(List (List Bound))) (i:Int) (j:Int) (most:Bound):Option ((List (List Bound))×Int) :=
 (Z0N d).bind λx1=>
 (bif ((((((!x1)||(decide (i<0)))||(decide (j<0)))||(decide (i>=(d.length:Int))))||(decide (j>=(d.length:Int))))||(!(Z0o most))) then
  none
 else
  (Z1H d).bind λx2=>
  (
   (at? x2 i).bind λx3=>
   (at? x3 j).bind λx4=>
   (bif (Zg most x4) then
    (at? x2 i).bind λx5=>
    (at? x5 j).bind λx6=>
    some (x2.set (i).toNat (x5.set (j).toNat most))
   else
    some x2)).bind λ(y1:(List (List Bound)))=>
  some (y1,0))
def ZD.s0 (d:(List (List Bound))) (s1:Int×(List (List Bound))):Option ((Int×(List (List Bound)))⊕(Jx ((List (List Bound))) ((List (List Bound))))) :=
 (bif (decide (s1.1<((d.length:Nat):Int))) then
  (at? s1.2 s1.1).bind λx3=>
  (at? x3 s1.1).bind λx4=>
  (bif (Zg x4 (Bound.mk 0 0)) then
   some (.inr (.ret s1.2))
  else
   (at? s1.2 s1.1).bind λx5=>
   (at? x5 s1.1).bind λx6=>
   some (.inl ((w64 (s1.1+1)),(s1.2.set (s1.1).toNat (x5.set (s1.1).toNat (Bound.mk 0 0))))))
 else
  some (.inr (.go s1.2)))
def ZD.s3 (d:(List (List Bound))) (s2:Int×(List (List Bound))) (s3:Int×(List (List Bound))) (s4:Int×(List (List Bound))):Option ((Int×(List (List Bound)))⊕((List (List Bound)))) :=
 (bif (decide (s4.1<((d.length:Nat):Int))) then
  (
   (
    (at? s4.2 s3.1).bind λx7=>
    (at? x7 s2.1).bind λx8=>
    (at? s4.2 s2.1).bind λx9=>
    (at? x9 s4.1).bind λx10=>
    (
     (bif (((ZB x8 x10).2)==0) then
      (at? s4.2 s3.1).bind λx11=>
      (at? x11 s4.1).bind λx12=>
      some (Zg ((ZB x8 x10).1) x12)
     else
      some false)).bind λ(y8:Bool)=>
    (bif y8 then
     (at? s4.2 s3.1).bind λx13=>
     (at? x13 s4.1).bind λx14=>
     some (s4.2.set (s3.1).toNat (x13.set (s4.1).toNat ((ZB x8 x10).1)))
    else
     some s4.2)).bind λ(y7:(List (List Bound)))=>
   some y7).bind λ(y6:(List (List Bound)))=>
  some (.inl ((w64 (s4.1+1)),y6))
 else
  some (.inr s4.2))
def ZD.s2 (d:(List (List Bound))) (s2:Int×(List (List Bound))) (s3:Int×(List (List Bound))):Option ((Int×(List (List Bound)))⊕((List (List Bound)))) :=
 (bif (decide (s3.1<((d.length:Nat):Int))) then
  (loopO (ZD.s3 d s2 s3) (0,s3.2)).bind λ(y5:(List (List Bound)))=>
  some (.inl ((w64 (s3.1+1)),y5))
 else
  some (.inr s3.2))
def ZD.s4 (d:(List (List Bound))) (y4:(List (List Bound))) (s5:Int):Option ((Int)⊕(Jx (Unit) (Unit))) :=
 (bif (decide (s5<((d.length:Nat):Int))) then
  (at? y4 s5).bind λx15=>
  (at? x15 s5).bind λx16=>
  (bif (Zg x16 (Bound.mk 0 0)) then
   some (.inr (.ret ()))
  else
   some (.inl (w64 (s5+1))))
 else
  some (.inr (.go ())))
def ZD.s1 (d:(List (List Bound))) (s2:Int×(List (List Bound))):Option ((Int×(List (List Bound)))⊕(Jx ((List (List Bound))) ((List (List Bound))))) :=
 (bif (decide (s2.1<((d.length:Nat):Int))) then
  (
   (loopO (ZD.s2 d s2) (0,s2.2)).bind λ(y4:(List (List Bound)))=>
   (loopO (ZD.s4 d y4) 0).bind λ(y9:Jx (Unit) (Unit))=>
   y9.elim (λa10=>
     some (false,y4)) λa9=>
   some (true,y4)).bind λ(y3:Bool×(List (List Bound)))=>
  (bif (!y3.1) then
   some (.inr (.ret y3.2))
  else
   some (.inl ((w64 (s2.1+1)),y3.2)))
 else
  some (.inr (.go s2.2)))
def ZD (d:(List (List Bound))):Option ((List (List Bound))×Bool×Int) :=
 (Z0N d).bind λx1=>
 (bif (!x1) then
  some ([],false,2)
 else
  (Z1H d).bind λx2=>
  (loopO (ZD.s0 d) (0,x2)).bind λ(y1:Jx ((List (List Bound))) ((List (List Bound))))=>
  y1.elim (λa4=>
    some ([],false,0)) λa3=>
  (loopO (ZD.s1 d) (0,a3)).bind λ(y2:Jx ((List (List Bound))) ((List (List Bound))))=>
  y2.elim (λa12=>
    some ([],false,0)) λa11=>
  some (a11,true,0))
def Z0r (n:Int) (l:(List epactlaw24_Set)):Option (Bool) :=
 (ZX (IntKind.u8.wrap (1+(n.tmod 23))) l).bind λx1=>
 (bif (decide ((x1.length:Int)<2)) then
  some false
 else
  (at? x1 0).bind λx2=>
  (at? x2 1).bind λx3=>
  (Z38 x1 0 1 (Bound.mk 0 (-500))).bind λx4=>
  (ZD x1).bind λx5=>
  (bif x5.2.1 then
   (
    (
     (Z4 x4.1 (x1.length:Int)).bind λx6=>
     (bif x6 then
      (at? x4.1 (0:Int)).bind λx7=>
      (at? x7 (1:Int)).bind λx8=>
      some (x4.1.set ((0:Int)).toNat (x7.set ((1:Int)).toNat (Bound.mk 0 77777)))
     else
      some x4.1)).bind λ(y2:(List (List Bound)))=>
    some y2).bind λ(y1:(List (List Bound)))=>
   (
    (
     (Z4 x5.1 (x1.length:Int)).bind λx9=>
     (bif x9 then
      (at? x5.1 (0:Int)).bind λx10=>
      (at? x10 (1:Int)).bind λx11=>
      some (x5.1.set ((0:Int)).toNat (x10.set ((1:Int)).toNat (Bound.mk 0 77777)))
     else
      some x5.1)).bind λ(y4:(List (List Bound)))=>
    some y4).bind λ(y3:(List (List Bound)))=>
   (ZD x1).bind λx12=>
   (bif x12.2.1 then
    (Z4 x12.1 (x1.length:Int)).bind λx13=>
    (bif (!x13) then
     some false
    else
     (
      (bif ((((x4.2==0)&&(x5.2.2==0))&&(x12.2.2==0))&&(true==true)) then
       (at? x1 0).bind λx14=>
       (at? x14 1).bind λx15=>
       some ((x15.Inf==x3.Inf)&&((x15.N==x3.N)&&true))
      else
       some false)).bind λ(y5:Bool)=>
     (
      (bif y5 then
       (at? x12.1 (0:Int)).bind λx16=>
       (at? x16 (1:Int)).bind λx17=>
       some (!((x17.Inf==0)&&((x17.N==77777)&&true)))
      else
       some false)).bind λ(y6:Bool)=>
     some (y6&&ZK))
   else
    (
     (bif ((((x4.2==0)&&(x5.2.2==0))&&(x12.2.2==0))&&(true==false)) then
      (at? x1 0).bind λx18=>
      (at? x18 1).bind λx19=>
      some ((x19.Inf==x3.Inf)&&((x19.N==x3.N)&&true))
     else
      some false)).bind λ(y7:Bool)=>
    some ((y7&&true)&&ZK))
  else
   (
    (
     (Z4 x4.1 (x1.length:Int)).bind λx20=>
     (bif x20 then
      (at? x4.1 (0:Int)).bind λx21=>
      (at? x21 (1:Int)).bind λx22=>
      some (x4.1.set ((0:Int)).toNat (x21.set ((1:Int)).toNat (Bound.mk 0 77777)))
     else
      some x4.1)).bind λ(y9:(List (List Bound)))=>
    some y9).bind λ(y8:(List (List Bound)))=>
   (
    (
     (Z4 [] (x1.length:Int)).bind λx23=>
     (bif x23 then
      (at? ([] : List ((List Bound))) 0).bind λx24=>
      none
     else
      some ())).bind λ(y11:Unit)=>
    some ()).bind λ(y10:Unit)=>
   (ZD x1).bind λx25=>
   (bif x25.2.1 then
    (Z4 x25.1 (x1.length:Int)).bind λx26=>
    (bif (!x26) then
     some false
    else
     (
      (bif ((((x4.2==0)&&(x5.2.2==0))&&(x25.2.2==0))&&(false==true)) then
       (at? x1 0).bind λx27=>
       (at? x27 1).bind λx28=>
       some ((x28.Inf==x3.Inf)&&((x28.N==x3.N)&&true))
      else
       some false)).bind λ(y12:Bool)=>
     (
      (bif y12 then
       (at? x25.1 (0:Int)).bind λx29=>
       (at? x29 (1:Int)).bind λx30=>
       some (!((x30.Inf==0)&&((x30.N==77777)&&true)))
      else
       some false)).bind λ(y13:Bool)=>
     some (y13&&ZK))
   else
    (
     (bif ((((x4.2==0)&&(x5.2.2==0))&&(x25.2.2==0))&&(false==false)) then
      (at? x1 0).bind λx31=>
      (at? x31 1).bind λx32=>
      some ((x32.Inf==x3.Inf)&&((x32.N==x3.N)&&true))
     else
      some false)).bind λ(y14:Bool)=>
    some ((y14&&true)&&ZK))))
end
end Go.Dn

namespace Go.Dn
open Go
noncomputable section
def Le {α:Type} (a b:Option α):Prop:=∀ r,a=some r->b=some r
theorem Le.refl {α:Type} (a:Option α):Le a a:=λ_ h=>h
theorem Le.bind {α β:Type} {a b:Option α} {f g:α->Option β} (h:Le a b) (hf:∀ x,Le (f x) (g x)):Le (a.bind f) (b.bind g):=λr hr=>by
 cases ha:a with
 | none=>rw [ha] at hr;cases hr
 | some x=>rw [ha] at hr;rw [h x ha];exact hf x r hr
theorem Le.cond {α:Type} {c:Bool} {a b a' b':Option α} (h:Le a a') (h':Le b b'):Le (bif c then a else b) (bif c then a' else b'):=by
 cases c
 ·exact h'
 ·exact h
theorem Le.elim {A B C:Type} {y:Jx A B} {f f':B->Option C} {g g':A->Option C} (h:∀ r,Le (f r) (f' r)) (h':∀ a,Le (g a) (g' a)):Le (y.elim f g) (y.elim f' g'):=by
 cases y
 ·exact h' _
 ·exact h _
theorem Le.rangeY {S T:Type} {f g:S->T->Option (S×Nat)} (h:∀ s t,Le (f s t) (g s t)) (s:S×Nat) (t:T):Le (rangeY f s t) (rangeY g s t):=λr hr=>by
 unfold Go.Dn.rangeY at hr ⊢
 split at hr
 ·rename_i h0;rw [if_pos h0];cases ha:f s.1 t with
  | none=>rw [ha] at hr;cases hr
  | some x=>rw [ha] at hr;rw [h _ _ x ha];exact hr
 ·cases hr
def Z2D {S R:Type} (step:S->Option (S⊕R)) (s:S):Option R:=Z1e step 1000000 s
theorem iterO_le {S R:Type} {step step':S->Option (S⊕R)} (h:∀ s,Le (step s) (step' s)):∀ (n:Nat) (s:S),Le (Z1e step n s) (Z1e step' n s)
 | 0,s=>λr hr=>by cases hr
 | n+1,s=>λr hr=>by
  simp only [Z1e] at hr ⊢;cases hs:step s with
  | none=>rw [hs] at hr;cases hr
  | some x=>
   rw [hs] at hr;rw [h s x hs];cases x with
   | inl s'=>exact iterO_le h n s' r hr
   | inr r'=>exact hr
theorem Le.loop {S R:Type} {step step':S->Option (S⊕R)} {s:S} (h:∀ s,Le (step s) (step' s)):Le (Z2D step s) (loopO step' s):=λr hr=>ZV.2 ⟨1000000,iterO_le h _ s r hr⟩
def Z0E (x':(List Bound)) (count:Int):Option ((List Bound)) :=
 (bif (decide (count<0)) then
  none
 else
  (bif ((decide (((ZE (IntKind.u64.wrap (x'.length:Int)) (IntKind.u64.wrap count)).1)>0))||(decide (((ZE (IntKind.u64.wrap (x'.length:Int)) (IntKind.u64.wrap count)).2)>9223372036854775807))) then
   none
  else
   (new? 16 (w64 ((ZE (IntKind.u64.wrap (x'.length:Int)) (IntKind.u64.wrap count)).2)) (Bound.mk 0 0)).bind λx1=>
   (Z2D (Z9.s0 x' count) (((min x'.length x1.length:Nat):Int),(cpy x1 x'))).bind λ(y1:(List Bound))=>
   some y1))
theorem Z1c {x':(List Bound)} {count:Int}:Le (Z0E x' count) (Z9 x' count):=by
 unfold Z0E Z9
 repeat' (with_reducible (first|exact Le.refl _|apply Le.bind|apply Le.cond|apply Le.loop|intro _))
def Z0u.s0 (n:Int) (s1:Int×(List (List Bound))):Option ((Int×(List (List Bound)))⊕((List (List Bound)))) :=
 (bif (decide (s1.1<n)) then
  (Z0E [(Bound.mk 1 0)] n).bind λx2=>
  (at? s1.2 s1.1).bind λx3=>
  (at? (s1.2.set (s1.1).toNat x2) s1.1).bind λx4=>
  (at? x4 s1.1).bind λx5=>
  some (.inl ((w64 (s1.1+1)),((s1.2.set (s1.1).toNat x2).set (s1.1).toNat (x4.set (s1.1).toNat (Bound.mk 0 0)))))
 else
  some (.inr s1.2))
theorem Z5x {n:Int} {s1:Int×(List (List Bound))}:Le (Z0u.s0 n s1) (Z0n.s0 n s1):=by
 unfold Z0u.s0 Z0n.s0
 repeat' (with_reducible (first|exact Le.refl _|apply Le.bind|apply Le.cond|apply Z1c|intro _))
def Z0u (n:Int):Option ((List (List Bound))×Int) :=
 (bif ((decide (n<0))||(decide (n>24))) then
  some ([],2)
 else
  (new? 24 n []).bind λx1=>
  (Z2D (Z0u.s0 n) (0,x1)).bind λ(y1:(List (List Bound)))=>
  some (y1,0))
theorem Z4l {n:Int}:Le (Z0u n) (Z0n n):=by
 unfold Z0u Z0n
 repeat' (with_reducible (first|exact Le.refl _|apply Le.bind|apply Le.cond|apply Le.loop|apply Z5x|intro _))
def ZI.s0 (s:(List (List Bound))) (f:(List Bound)->Option Bool) (s1:Int):Option ((Int)⊕(Jx (Unit) (Int))) :=
 (bif (decide (s1<(s.length:Int))) then
  (at? s s1).bind λx1=>
  (f x1).bind λx2=>
  (bif x2 then
   some (.inr (.ret s1))
  else
   some (.inl (w64 (s1+1))))
 else
  some (.inr (.go ())))
theorem Z0s {s:(List (List Bound))} {f f_:(List Bound)->Option Bool} {s1:Int} (h_f:∀ z0,Le (f z0) (f_ z0)):Le (ZI.s0 s f s1) (Z6.s0 s f_ s1):=by
 unfold ZI.s0 Z6.s0
 repeat' (with_reducible (first|exact Le.refl _|exact h_f _|exact h_f|apply Le.bind|apply Le.cond|intro _))
def ZI (s:(List (List Bound))) (f:(List Bound)->Option Bool):Option (Int) :=
 (Z2D (ZI.s0 s f) 0).bind λ(y1:Jx (Unit) (Int))=>
 y1.elim (λr'=>
   some r') λa2=>
 some (-1)
theorem Z19 {s:(List (List Bound))} {f f_:(List Bound)->Option Bool} (h_f:∀ z0,Le (f z0) (f_ z0)):Le (ZI s f) (Z6 s f_):=by
 unfold ZI Z6
 repeat' (with_reducible (first|exact Le.refl _|exact h_f _|exact h_f|apply Le.bind|apply Le.elim|apply Le.loop|apply Z0s|intro _))
def Zq (s:(List (List Bound))) (f:(List Bound)->Option Bool):Option (Bool) :=
 (ZI s f).bind λx1=>
 some (decide (x1>=0))
theorem Z0t {s:(List (List Bound))} {f f_:(List Bound)->Option Bool} (h_f:∀ z0,Le (f z0) (f_ z0)):Le (Zq s f) (ZH s f_):=by
 unfold Zq ZH
 repeat' (with_reducible (first|exact Le.refl _|exact h_f _|exact h_f|apply Le.bind|apply Z19|intro _))
def ZN.s0 (s:(List Bound)) (f:Bound->Option Bool) (s1:Int):Option ((Int)⊕(Jx (Unit) (Int))) :=
 (bif (decide (s1<(s.length:Int))) then
  (at? s s1).bind λx1=>
  (f x1).bind λx2=>
  (bif x2 then
   some (.inr (.ret s1))
  else
   some (.inl (w64 (s1+1))))
 else
  some (.inr (.go ())))
theorem Z17 {s:(List Bound)} {f f_:Bound->Option Bool} {s1:Int} (h_f:∀ z0,Le (f z0) (f_ z0)):Le (ZN.s0 s f s1) (Z8.s0 s f_ s1):=by
 unfold ZN.s0 Z8.s0
 repeat' (with_reducible (first|exact Le.refl _|exact h_f _|exact h_f|apply Le.bind|apply Le.cond|intro _))
def ZN (s:(List Bound)) (f:Bound->Option Bool):Option (Int) :=
 (Z2D (ZN.s0 s f) 0).bind λ(y1:Jx (Unit) (Int))=>
 y1.elim (λr'=>
   some r') λa2=>
 some (-1)
theorem Z1J {s:(List Bound)} {f f_:Bound->Option Bool} (h_f:∀ z0,Le (f z0) (f_ z0)):Le (ZN s f) (Z8 s f_):=by
 unfold ZN Z8
 repeat' (with_reducible (first|exact Le.refl _|exact h_f _|exact h_f|apply Le.bind|apply Le.elim|apply Le.loop|apply Z17|intro _))
def Zw (s:(List Bound)) (f:Bound->Option Bool):Option (Bool) :=
 (ZN s f).bind λx1=>
 some (decide (x1>=0))
theorem Z12 {s:(List Bound)} {f f_:Bound->Option Bool} (h_f:∀ z0,Le (f z0) (f_ z0)):Le (Zw s f) (ZM s f_):=by
 unfold Zw ZM
 repeat' (with_reducible (first|exact Le.refl _|exact h_f _|exact h_f|apply Le.bind|apply Z1J|intro _))
def Z2U (row:(List Bound)) (p1':Int):Option (Bool) :=
 (
  (bif ((row.length:Int) != p1') then
   some true
  else
   (Zw row (λz0=>some (Z24 z0))).bind λx1=>
   some x1)).bind λ(y1:Bool)=>
 some y1
theorem Z5K {row:(List Bound)} {p1':Int}:Le (Z2U row p1') (Z1M row p1'):=by
 unfold Z2U Z1M
 repeat' (with_reducible (first|exact Le.refl _|apply Le.bind|apply Le.cond|apply Z12|intro _))
def Z1Y (d:(List (List Bound))):Option (Bool) :=
 (
  (bif (decide ((d.length:Int)<=24)) then
   (Zq d (λz0=>Z2U z0 (d.length:Int))).bind λx1=>
   some (!x1)
  else
   some false)).bind λ(y1:Bool)=>
 some y1
theorem Z2W {d:(List (List Bound))}:Le (Z1Y d) (Z0N d):=by
 unfold Z1Y Z0N
 repeat' (with_reducible (first|exact Le.refl _|apply Le.bind|apply Le.cond|apply Z0t|apply Z5K|intro _))
def Z4Y (d:(List (List Bound))) (i:Int) (j:Int) (most:Bound):Option ((List (List Bound))×Int) :=
 (Z1Y d).bind λx1=>
 (bif ((((((!x1)||(decide (i<0)))||(decide (j<0)))||(decide (i>=(d.length:Int))))||(decide (j>=(d.length:Int))))||(!(Z0o most))) then
  some ([],2)
 else
  (Z1H d).bind λx2=>
  (
   (at? x2 i).bind λx3=>
   (at? x3 j).bind λx4=>
   (bif (Zg most x4) then
    (at? x2 i).bind λx5=>
    (at? x5 j).bind λx6=>
    some (x2.set (i).toNat (x5.set (j).toNat most))
   else
    some x2)).bind λ(y1:(List (List Bound)))=>
  some (y1,0))
theorem evle_stp_Set {d:(List (List Bound))} {i:Int} {j:Int} {most:Bound}:Le (Z4Y d i j most) (Z2F d i j most):=by
 unfold Z4Y Z2F
 repeat' (with_reducible (first|exact Le.refl _|apply Le.bind|apply Le.cond|apply Z2W|intro _))
def Zj.s0 (l:(List epactlaw24_Set)) (s1:(List (List Bound))×Int×Int):Option (((List (List Bound))×Int×Int)⊕((List (List Bound))×Int)) :=
 (bif (decide (s1.2.2<(l.length:Int))) then
  (
   (
    (at? l s1.2.2).bind λx2=>
    (bif (s1.2.1==0) then
     (Z4Y s1.1 x2.I x2.J x2.Most).bind λx3=>
     some (x3.1,x3.2)
    else
     some (s1.1,s1.2.1))).bind λ(y3:(List (List Bound))×Int)=>
   some (y3.1,y3.2)).bind λ(y2:(List (List Bound))×Int)=>
  some (.inl (y2.1,y2.2,(w64 (s1.2.2+1))))
 else
  some (.inr (s1.1,s1.2.1)))
theorem Z2m {l:(List epactlaw24_Set)} {s1:(List (List Bound))×Int×Int}:Le (Zj.s0 l s1) (ZJ.s0 l s1):=by
 unfold Zj.s0 ZJ.s0
 repeat' (with_reducible (first|exact Le.refl _|apply Le.bind|apply Le.cond|apply evle_stp_Set|intro _))
def Zj (n:Int) (l:(List epactlaw24_Set)):Option ((List (List Bound))×Bool) :=
 (Z0u n).bind λx1=>
 (Z2D (Zj.s0 l) (x1.1,x1.2,0)).bind λ(y1:(List (List Bound))×Int)=>
 some (y1.1,(y1.2==0))
theorem Z3V {n:Int} {l:(List epactlaw24_Set)}:Le (Zj n l) (ZJ n l):=by
 unfold Zj ZJ
 repeat' (with_reducible (first|exact Le.refl _|apply Le.bind|apply Le.loop|apply Z4l|apply Z2m|intro _))
def Z05.s2 (d:(List (List Bound))) (s2:Int×(List (List Bound))) (s3:Int×(List (List Bound))):Option ((Int×(List (List Bound)))⊕((List (List Bound)))) :=
 (bif (decide (s3.1<((d.length:Nat):Int))) then
  (Z2D (ZC.s3 d s2 s3) (0,s3.2)).bind λ(y5:(List (List Bound)))=>
  some (.inl ((w64 (s3.1+1)),y5))
 else
  some (.inr s3.2))
theorem Z59 {d:(List (List Bound))} {s2:Int×(List (List Bound))} {s3:Int×(List (List Bound))}:Le (Z05.s2 d s2 s3) (ZC.s2 d s2 s3):=by
 unfold Z05.s2 ZC.s2
 repeat' (with_reducible (first|exact Le.refl _|apply Le.bind|apply Le.cond|apply Le.loop|intro _))
def Z05.s1 (d:(List (List Bound))) (s2:Int×(List (List Bound))):Option ((Int×(List (List Bound)))⊕(Jx ((List (List Bound))) ((List (List Bound))×Bool×Int))) :=
 (bif (decide (s2.1<((d.length:Nat):Int))) then
  (
   (Z2D (Z05.s2 d s2) (0,s2.2)).bind λ(y4:(List (List Bound)))=>
   (Z2D (ZC.s4 d y4) 0).bind λ(y9:Jx (Unit) (Unit))=>
   y9.elim (λa7=>
     some (false,y4)) λa6=>
   some (true,y4)).bind λ(y3:Bool×(List (List Bound)))=>
  (bif (!y3.1) then
   some (.inr (.ret ([],false,0)))
  else
   some (.inl ((w64 (s2.1+1)),y3.2)))
 else
  some (.inr (.go s2.2)))
theorem Z4t {d:(List (List Bound))} {s2:Int×(List (List Bound))}:Le (Z05.s1 d s2) (ZC.s1 d s2):=by
 unfold Z05.s1 ZC.s1
 repeat' (with_reducible (first|exact Le.refl _|apply Le.bind|apply Le.cond|apply Le.elim|apply Le.loop|apply Z59|intro _))
def Z05 (d:(List (List Bound))):Option ((List (List Bound))×Bool×Int) :=
 (Z1Y d).bind λx1=>
 (bif (!x1) then
  some ([],false,2)
 else
  (Z1H d).bind λx2=>
  (Z2D (ZC.s0 d) (0,x2)).bind λ(y1:Jx ((List (List Bound))) ((List (List Bound))×Bool×Int))=>
  y1.elim (λr'=>
    some r') λa2=>
  (Z2D (Z05.s1 d) (0,a2)).bind λ(y2:Jx ((List (List Bound))) ((List (List Bound))×Bool×Int))=>
  y2.elim (λr'=>
    some r') λa8=>
  some (a8,true,0))
theorem Z6d {d:(List (List Bound))}:Le (Z05 d) (ZC d):=by
 unfold Z05 ZC
 repeat' (with_reducible (first|exact Le.refl _|apply Le.bind|apply Le.cond|apply Le.elim|apply Le.loop|apply Z2W|apply Z4t|intro _))
def Z0U.s0 (d:(List (List Bound))) (ticks:(List Int)) (s1:Int):Option ((Int)⊕(Jx (Unit) (Bool))) :=
 (bif (decide (s1<(d.length:Int))) then
  (at? d s1).bind λx2=>
  (Z2D (ZY.s1 ticks s1 x2) 0).bind λ(y2:Jx (Unit) (Bool))=>
  y2.elim (λr'=>
    some (.inr (.ret r'))) λa9=>
  some (.inl (w64 (s1+1)))
 else
  some (.inr (.go ())))
theorem Z4i {d:(List (List Bound))} {ticks:(List Int)} {s1:Int}:Le (Z0U.s0 d ticks s1) (ZY.s0 d ticks s1):=by
 unfold Z0U.s0 ZY.s0
 repeat' (with_reducible (first|exact Le.refl _|apply Le.bind|apply Le.cond|apply Le.elim|apply Le.loop|intro _))
def Z0U (d:(List (List Bound))) (ticks:(List Int)):Option (Bool) :=
 (Z1Y d).bind λx1=>
 (bif ((!x1)||((ticks.length:Int) != (d.length:Int))) then
  some false
 else
  (Z2D (Z0U.s0 d ticks) 0).bind λ(y1:Jx (Unit) (Bool))=>
  y1.elim (λr'=>
    some r') λa10=>
  some true)
theorem Z6P {d:(List (List Bound))} {ticks:(List Int)}:Le (Z0U d ticks) (ZY d ticks):=by
 unfold Z0U ZY
 repeat' (with_reducible (first|exact Le.refl _|apply Le.bind|apply Le.cond|apply Le.elim|apply Le.loop|apply Z2W|apply Z4i|intro _))
def Z0V (m:(List (List Bound))) (n:Int):Option (Bool) :=
 (Z2D (Z4.s0 m n) 0).bind λ(y1:Jx (Unit) (Bool))=>
 y1.elim (λr'=>
   some r') λa2=>
 some ((m.length:Int)==n)
theorem Z3O {m:(List (List Bound))} {n:Int}:Le (Z0V m n) (Z4 m n):=by
 unfold Z0V Z4
 repeat' (with_reducible (first|exact Le.refl _|apply Le.bind|apply Le.elim|apply Le.loop|intro _))
def Zz.s0 (a:(List (List Bound))) (b:(List (List Bound))) (s1:Int):Option ((Int)⊕(Jx (Unit) (Bool))) :=
 (bif (decide (s1<(a.length:Int))) then
  (at? a s1).bind λx1=>
  (at? b s1).bind λx2=>
  (bif ((x1.length:Int) != (x2.length:Int)) then
   some (.inr (.ret false))
  else
   (Z2D (Za.s1 a b s1) 0).bind λ(y2:Jx (Unit) (Bool))=>
   y2.elim (λr'=>
     some (.inr (.ret r'))) λa3=>
   some (.inl (w64 (s1+1))))
 else
  some (.inr (.go ())))
theorem Z2v {a:(List (List Bound))} {b:(List (List Bound))} {s1:Int}:Le (Zz.s0 a b s1) (Za.s0 a b s1):=by
 unfold Zz.s0 Za.s0
 repeat' (with_reducible (first|exact Le.refl _|apply Le.bind|apply Le.cond|apply Le.elim|apply Le.loop|intro _))
def Zz (a:(List (List Bound))) (b:(List (List Bound))):Option (Bool) :=
 (bif ((a.length:Int) != (b.length:Int)) then
  some false
 else
  (Z2D (Zz.s0 a b) 0).bind λ(y1:Jx (Unit) (Bool))=>
  y1.elim (λr'=>
    some r') λa4=>
  some true)
theorem Z3e {a:(List (List Bound))} {b:(List (List Bound))}:Le (Zz a b) (Za a b):=by
 unfold Zz Za
 repeat' (with_reducible (first|exact Le.refl _|apply Le.bind|apply Le.cond|apply Le.elim|apply Le.loop|apply Z2v|intro _))
def Z1B (d:(List (List Bound))):Option ((List (List Bound))×Bool×Int) :=
 (bif d.isEmpty then
  some ([],true,0)
 else
  Z05 d)
theorem Z5y {d:(List (List Bound))}:Le (Z1B d) (Z1h d):=by
 unfold Z1B Z1h
 repeat' (with_reducible (first|exact Le.refl _|apply Le.cond|apply Z6d|intro _))
def Z0w:Option (Bool) :=
 (Zj 2 [(epactlaw24_Set.mk 0 1 (Z1 5)),(epactlaw24_Set.mk 1 0 (Z1 (-2)))]).bind λx1=>
 (Z1B x1.1).bind λx2=>
 (Zj 3 [(epactlaw24_Set.mk 0 1 (Z1 5)),(epactlaw24_Set.mk 1 0 (Z1 (-2))),(epactlaw24_Set.mk 1 2 (Z1 1))]).bind λx3=>
 (Z1B x3.1).bind λx4=>
 (Zj 2 [(epactlaw24_Set.mk 0 1 (Z1 5)),(epactlaw24_Set.mk 1 0 (Z1 (-6)))]).bind λx5=>
 (Z1B x5.1).bind λx6=>
 (Z0u 2).bind λx7=>
 (
  (bif ((((((((((!x1.2)||(!x3.2))||(!x5.2))||(!x2.2.1))||(!x4.2.1))||x6.2.1)||(x2.2.2 != 0))||(x4.2.2 != 0))||(x6.2.2 != 0))||(x7.2 != 0)) then
   some true
  else
   (Z0V x4.1 3).bind λx8=>
   some (!x8))).bind λ(y1:Bool)=>
 (
  (bif y1 then
   some true
  else
   (Z0V x7.1 2).bind λx9=>
   some (!x9))).bind λ(y2:Bool)=>
 (bif y2 then
  some false
 else
  (Zz x2.1 x1.1).bind λx10=>
  (
   (bif x10 then
    (at? x4.1 0).bind λx11=>
    (at? x11 2).bind λx12=>
    some ((x12.Inf==((Z1 6).Inf))&&((x12.N==((Z1 6).N))&&true))
   else
    some false)).bind λ(y3:Bool)=>
  (
   (bif y3 then
    (at? x7.1 0).bind λx13=>
    (at? x13 0).bind λx14=>
    some ((x14.Inf==((Z1 0).Inf))&&((x14.N==((Z1 0).N))&&true))
   else
    some false)).bind λ(y4:Bool)=>
  (
   (bif y4 then
    (at? x7.1 0).bind λx15=>
    (at? x15 1).bind λx16=>
    some ((x16.Inf==1)&&((x16.N==0)&&true))
   else
    some false)).bind λ(y5:Bool)=>
  (
   (bif y5 then
    (Z0U x1.1 [3,7]).bind λx17=>
    some x17
   else
    some false)).bind λ(y6:Bool)=>
  (
   (bif y6 then
    (Z0U x1.1 [3,9]).bind λx18=>
    some (!x18)
   else
    some false)).bind λ(y7:Bool)=>
  some y7)
theorem Z3G:Le (Z0w) (Z0a):=by
 unfold Z0w Z0a
 repeat' (with_reducible (first|exact Le.refl _|apply Le.bind|apply Le.cond|apply Z3V|apply Z5y|apply Z4l|apply Z3O|apply Z3e|apply Z6P|intro _))
theorem Z3C:Z0w=some true:=by kernel_rfl
theorem Z3F:Z0a=some true:=Z3G _ Z3C
end
end Go.Dn
