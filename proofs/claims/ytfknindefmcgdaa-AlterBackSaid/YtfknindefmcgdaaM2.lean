/- Part 2 of what the row stands on. -/
import Derived.Below
import Derived.ChangeArms
import Derived.ChangeOld
import Derived.SizedLaws
import Derived.KernelRfl
import Derived.Test.YtfknindefmcgdaaProg
import Derived.ScopeJumps
import Derived.Test.YtfknindefmcgdaaM1
set_option linter.unusedVariables false
set_option linter.unusedSimpArgs false
namespace Go.Dn
open Go
section
variable {σ:Heap} {lo hi:Nat} {L:List Res} {k:Nat} {r:Res}
theorem Has.sl (H:Has σ lo hi L) {v:PV} {e:TypeId} {sz:Nat} {xs:List (List FV)} {live:Bool} (hk:L[k]? = some (.sl v e sz xs live)) :
  (∀ y ∈ xs,y.length = sz)∧((v = .nils∧xs = [])∨∃ id,v = .buf id xs.length sz∧σ.ent id = .blk e (vs xs.flatten) live):=H.holds k _ hk
theorem Has.renew (H:Has σ lo hi L) {b:Nat} {en:Ent} {r':Res} (hk:L[k]? = some r) (hlo:lo≤b) (hhi:b < hi) (hr:r'.holds (σ.put b en)) (ho:r'.owner = some b):Has (σ.put b en) (b + 1) hi (L.set k r'):=by
 have hle:=H.le
 have hne:∀ (j:Nat) (s:Res),L[j]? = some s→s.owner ≠ some b:=fun j s h e => by
  have:=(H.lt j s h b e).1;omega
 have key:∀ (j:Nat) (s:Res),(L.set k r')[j]? = some s→(j = k∧s = r')∨(j ≠ k∧L[j]? = some s):=by
  intro j s h;rw [Y0w] at h
  by_cases hj:k = j
  ·subst hj;rw [if_pos rfl] at h
   split at h
   ·cases h;exact .inl ⟨rfl,rfl⟩
   ·cases h
  ·rw [if_neg hj] at h;exact .inr ⟨fun e => hj e.symm,h⟩
 refine ⟨fun j s h => ?_,fun j s h id' ho2 => ?_,fun i j s t hij h1 h2 id' hs => ?_,hle⟩
 ·rcases key j s h with ⟨_,rfl⟩ | ⟨hj,h⟩
  ·exact hr
  ·exact Z7V (H.holds j s h) (hne j s h)
 ·rcases key j s h with ⟨_,rfl⟩ | ⟨hj,h⟩
  ·rw [ho] at ho2;cases ho2;exact ⟨.inl (by omega),show _ < σ.nx by omega⟩
  ·have:=H.lt j s h id' ho2;exact ⟨by omega,this.2⟩
 ·rcases key i s h1 with ⟨hi',rfl⟩ | ⟨hi',h1'⟩
  ·rw [ho] at hs;cases hs
   rcases key j t h2 with ⟨hj,rfl⟩ | ⟨hj,h2'⟩
   ·omega
   ·exact hne j t h2'
  ·rcases key j t h2 with ⟨hj,rfl⟩ | ⟨hj,h2'⟩
   ·intro e;rw [ho] at e;cases e;exact hne i s h1' hs
   ·exact H.sep i j s t hij h1' h2' id' hs
theorem Has.say (H:Has σ lo hi L) {r':Res} (hk:L[k]? = some r) (hr:r'.holds σ) (ho:r'.owner = r.owner):Has σ lo hi (L.set k r'):=by
 have key:∀ (j:Nat) (s:Res),(L.set k r')[j]? = some s→(j = k∧s = r')∨(j ≠ k∧L[j]? = some s):=by
  intro j s h;rw [Y0w] at h
  by_cases hj:k = j
  ·subst hj;rw [if_pos rfl] at h
   split at h
   ·cases h;exact .inl ⟨rfl,rfl⟩
   ·cases h
  ·rw [if_neg hj] at h;exact .inr ⟨fun e => hj e.symm,h⟩
 refine ⟨fun j s h => ?_,fun j s h id' ho2 => ?_,fun i j s t hij h1 h2 id' hs => ?_,H.le⟩
 ·rcases key j s h with ⟨_,rfl⟩ | ⟨hj,h⟩
  ·exact hr
  ·exact H.holds j s h
 ·rcases key j s h with ⟨_,rfl⟩ | ⟨hj,h⟩
  ·rw [ho] at ho2;exact H.lt k r hk id' ho2
  ·exact H.lt j s h id' ho2
 ·rcases key i s h1 with ⟨hi',rfl⟩ | ⟨hi',h1'⟩
  ·rw [ho] at hs
   rcases key j t h2 with ⟨hj,rfl⟩ | ⟨hj,h2'⟩
   ·omega
   ·exact H.sep k j r t (fun e => hj e.symm) hk h2' id' hs
  ·rcases key j t h2 with ⟨hj,rfl⟩ | ⟨hj,h2'⟩
   ·rw [ho];exact H.sep i k s r hi' h1' hk id' hs
   ·exact H.sep i j s t hij h1' h2' id' hs
theorem Has.same {σ':Heap} (H:Has σ lo hi L) (he:∀ id,id < σ.nx→σ'.ent id = σ.ent id) (hn:σ.nx≤σ'.nx):Has σ' lo hi L:=by
 refine ⟨fun j s h => ?_,fun j s h id ho => ⟨(H.lt j s h id ho).1,YU (H.lt j s h id ho).2 hn⟩,H.sep,Yd H.le hn⟩
 have h1:=H.holds j s h
 have h2:=H.lt j s h
 cases s with
 | blk id t cells => exact (he id (h2 id rfl).2).trans h1
 | sl v e sz xs live =>
  refine ⟨h1.1,h1.2.imp (fun h => h) fun ⟨id,hv,hb⟩ => ⟨id,hv,?_⟩⟩
  exact (he id (h2 id (by rw [hv];rfl)).2).trans hb
 | floor m => exact Yd h1 hn
 | hole id => trivial
 | loop id fn e n ps as_ bo st pd => exact (he id (h2 id rfl).2).trans h1
 | mp id kv => exact (he id (h2 id rfl).2).trans h1
 | fix id en => exact (he id (h2 id rfl).2).trans h1
theorem Has.floor (H:Has σ lo hi L) (m:Nat) (hm:m≤σ.nx):Has σ lo hi (.floor m :: L):=by
 refine ⟨fun j s h => ?_,fun j s h id' ho2 => ?_,fun i j s t hij h1 h2 id' hs => ?_,H.le⟩
 ·cases j with
  | zero => cases h;exact hm
  | succ j => exact H.holds j s h
 ·cases j with
  | zero => cases h;cases ho2
  | succ j => exact H.lt j s h id' ho2
 ·cases i with
  | zero => cases h1;cases hs
  | succ i =>
   cases j with
   | zero => cases h2;intro e;cases e
   | succ j => exact H.sep i j s t (fun e => hij (by rw [e])) h1 h2 id' hs
end
def pick (L:List Res) (ks:List Nat):List Res:=ks.filterMap (L[·]?)
theorem Has.pick {σ:Heap} {lo hi:Nat} {L:List Res} (H:Has σ lo hi L):∀ (ks:List Nat),ks.Nodup→Has σ lo hi (Dn.pick L ks)
 | [],_ => Has.nil H.le
 | k :: ks,hn => by
  have hn:=List.nodup_cons.1 hn
  have ih:=Has.pick H ks hn.2
  cases hr:L[k]? with
  | none => simpa [Dn.pick,hr] using ih
  | some r =>
   have e:Dn.pick L (k :: ks) = r :: Dn.pick L ks:=by simp [Dn.pick,hr]
   rw [e];have mem:∀ (j:Nat) (s:Res),(Dn.pick L ks)[j]? = some s→∃ k',k' ∈ ks∧L[k']? = some s:=fun j s h => by
    have:=Y6 h
    unfold Dn.pick at this;exact List.mem_filterMap.1 this
   refine ⟨fun j s h => ?_,fun j s h => ?_,fun i j s t hij h1 h2 => ?_,H.le⟩
   ·cases j with
    | zero => cases h;exact H.holds k r hr
    | succ j => exact ih.holds j s h
   ·cases j with
    | zero => cases h;exact H.lt k r hr
    | succ j => exact ih.lt j s h
   ·cases i with
    | zero =>
     cases h1;cases j with
     | zero => exact absurd rfl hij
     | succ j =>
      obtain ⟨k',hk',h2'⟩:=mem j t h2
      exact H.sep k k' r t (fun e => hn.1 (e ▸ hk')) hr h2'
    | succ i =>
     cases j with
     | zero =>
      cases h2;obtain ⟨k',hk',h1'⟩:=mem i s h1
      exact H.sep k' k s r (fun e => hn.1 (e ▸ hk')) h1' hr
     | succ j => exact ih.sep i j s t (fun e => hij (by rw [e])) h1 h2
theorem ZAj (xs ys:List FV):vs (xs ++ ys) = vs xs ++ vs ys:=Y00 ..
theorem Z1H (xs:List FV):(vs xs).length = xs.length:=YY ..
theorem vs_get (xs:List FV) (j:Nat):(vs xs)[j]? = (xs[j]?).map .v:=YP ..
theorem vs_take (xs:List FV) (j:Nat):(vs xs).take j = vs (xs.take j):=(List.map_take ..).symm
theorem vs_drop (xs:List FV) (j:Nat):(vs xs).drop j = vs (xs.drop j):=(List.map_drop ..).symm
theorem Z0d {sz:Nat}:∀ {xs:List (List FV)},(∀ y ∈ xs,y.length = sz)→xs.flatten.length = xs.length * sz
 | [],_ => by simp
 | x :: xs,h => by
  have:=Z0d (xs:=xs) fun y hy => h y (YH _ hy)
  simp only [Y0E,Ym,this,h x YG,Yv,Nat.succ_mul];omega
theorem ZB1 {sz:Nat}:∀ {xs:List (List FV)},(∀ y ∈ xs,y.length = sz)→∀ {i:Nat} {y:List FV},xs[i]? = some y→xs.flatten.drop (i * sz) = y ++ (xs.drop (i + 1)).flatten
 | [],_,i,y,h => by simp at h
 | x :: xs,hs,0,y,h => by
  simp at h;subst h;simp
 | x :: xs,hs,i + 1,y,h => by
  have hx:=hs x YG
  have:=ZB1 (xs:=xs) (fun y hy => hs y (YH _ hy)) (i:=i) (y:=y) (by simpa using h)
  rw [Y0E,Nat.succ_mul,Nat.add_comm (i * sz) sz,← hx,← List.drop_drop,List.drop_left,hx,this]
  simp
theorem flat_part {sz:Nat} {xs:List (List FV)} (hs:∀ y ∈ xs,y.length = sz) {i:Nat} {y:List FV} (h:xs[i]? = some y):(xs.flatten.drop (i * sz)).take sz = y:=by
 rw [ZB1 hs h,Y0p (by rw [hs y (Y6 h)];exact YB _),Y0q (by rw [hs y (Y6 h)];exact YB _)]
theorem flat_get {sz:Nat} {xs:List (List FV)} (hs:∀ y ∈ xs,y.length = sz) {i j:Nat} {y:List FV} (h:xs[i]? = some y) (hj:j < sz):xs.flatten[i * sz + j]? = y[j]?:=by
 rw [← Ys,ZB1 hs h,YK (by rw [hs y (Y6 h)];exact hj)]
theorem flat_le {sz:Nat} {xs:List (List FV)} (hs:∀ y ∈ xs,y.length = sz) {i:Nat} {y:List FV} (h:xs[i]? = some y):i * sz + sz≤xs.flatten.length:=by
 have hi:i < xs.length:=by
  rcases YI i xs.length with h1 | h1
  ·exact h1
  ·rw [YZ h1] at h;cases h
 rw [Z0d hs,← Nat.succ_mul]
 exact YL _ hi
theorem flat_splice {sz:Nat}:∀ {xs:List (List FV)},(∀ y ∈ xs,y.length = sz)→∀ {i:Nat} {y:List FV},xs[i]? = some y→∀ {off:Nat} {zs:List FV},off + zs.length≤sz →
  splice (vs xs.flatten) (i * sz + off) (vs zs) = vs (xs.set i (y.take off ++ zs ++ y.drop (off + zs.length))).flatten:=by
 intro xs hs i y h off zs hle
 have hy:=hs y (Y6 h)
 have hi:i < xs.length:=by
  rcases YI i xs.length with h1 | h1
  ·exact h1
  ·rw [YZ h1] at h;cases h
 have e1:xs.flatten = (xs.take i).flatten ++ (y ++ (xs.drop (i + 1)).flatten):=by
  conv => lhs;rw [← Y0u i xs]
  rw [List.flatten_append,List.drop_eq_getElem_cons hi,Y0E];rw [Y2 hi] at h;cases h;rfl
 have e2:xs.set i (y.take off ++ zs ++ y.drop (off + zs.length)) = xs.take i ++ (y.take off ++ zs ++ y.drop (off + zs.length)) :: xs.drop (i + 1):=by
  rw [List.set_eq_take_append_cons_drop,if_pos hi]
 have hl:(xs.take i).flatten.length = i * sz:=by
  rw [Z0d (sz:=sz) fun y hy => hs y (Yq hy),YS,Nat.min_eq_left (by omega)]
 rw [e2]
 unfold splice
 rw [vs_take,vs_drop,← ZAj,← ZAj,Z1H]
 congr 1
 rw [e1,List.flatten_append,Y0E]
 have t1:List.take (i * sz + off) ((xs.take i).flatten ++ (y ++ (xs.drop (i + 1)).flatten)) = (xs.take i).flatten ++ y.take off:=by
  rw [List.take_append,hl,Y0q (by omega),Y0p (by omega)]
  congr 2;omega
 have t2:List.drop (i * sz + off + zs.length) ((xs.take i).flatten ++ (y ++ (xs.drop (i + 1)).flatten)) = y.drop (off + zs.length) ++ (xs.drop (i + 1)).flatten:=by
  rw [List.drop_append,hl,List.drop_eq_nil_of_le (by omega),List.nil_append,List.drop_append_of_le_length (by omega)]
  congr 2;omega
 rw [t1,t2]
 simp only [Y01]
theorem at?_map {α β:Type} {f:α→β} {l:List α} {i:Int} {a:α} (h:at? l i = some a):at? (l.map f) i = some (f a):=by
 obtain ⟨h0,h1⟩:=at?_some h
 rw [at?,if_pos h0,YP,h1];rfl
def set? {α:Type} (l:List α) (i:Int) (a:α):Option (List α):=if 0≤i∧i.toNat < l.length then some (l.set i.toNat a) else none
def app? {α:Type} (by_:Nat) (l m:List α):Option (List α):=if (l.length + m.length) * by_≤room then some (l ++ m) else none
def new? {α:Type} (by_:Nat) (n:Int) (z:α):Option (List α):=if 0≤n∧n.toNat * by_≤room then some (List.replicate n.toNat z) else none
def cut? {α:Type} (l:List α) (i j:Int):Option (List α):=if 0≤i∧i≤j∧j≤l.length then some ((l.take j.toNat).drop i.toNat) else none
section
variable {X:Ctx} {n:Nat} {dr:Bool} {fn:FuncId} {ops:Array Oper} {base i:Nat} {l:List Oper} {e:Env} {σ:Heap} {K:Env→Heap→Prop} {Q:Ex→Env→Heap→Prop} {c a b:Code}
variable {d:Nat} {t t1 t2:TypeId} {p:String} {af:Array Edge} {x y z:Operand} {v:PV} {lo hi:Nat} {L:List Res}
theorem noBuf {x:PV} (h:Z6f x = false):Z6X x = []:=by
 cases x with
 | agg cs =>
  simp only [Z6f,Z6X,List.any_eq_false] at h ⊢;rw [List.flatMap_eq_nil_iff];intro x hx;have:=h x hx
  cases x <;> first | rfl | (simp [isRef] at this)
 | _ => first | rfl | cases h
theorem ask_build {parts:Array (Nat × Operand)} {len:Nat} {pp:List (Nat × PV)} (hp:Z3v X e parts.toList = some pp) (h:(pp.all fun p => !Z6f p.2) = true):Zp X ops base i ⟨some d,.buildSlice t1 len parts,t,p,af,none⟩ e = true:=by
 refine ask0 ?_
 have:frozen X e (.buildSlice t1 len parts) = []:=by
  simp only [frozen,hp];cases X.hold t1 parts.toList <;> first | rfl | skip
  show pp.flatMap _ = []
  rw [List.flatMap_eq_nil_iff];intro q hq;have:=List.all_eq_true.1 h q hq
  simp only [YV] at this;exact noBuf this
 simp only [Zj,Zs,this]
 rfl
theorem frz_none:∀ {ps:List (Nat × PV)} {σ:Heap},(ps.all fun p => !Z6f p.2) = true→Z0f σ ps = some (ps,σ)
 | [],σ,_ => rfl
 | p :: ps,σ,h => by
  simp only [Yw,Y9,YV] at h;simp only [Z0f,h.1,YA,if_false,frz_none h.2,Y0]
theorem frzPs_none {b:Bool} {ps:List (Nat × PV)} {σ:Heap} (h:(ps.all fun p => !Z6f p.2) = true):Z95 b σ ps = some (ps,σ):=by
 cases b with
 | false => exact frz_none h
 | true => rfl
theorem Ops.Z3o {parts:Array (Nat × Operand)} {len sz:Nat} {el:TypeId} {zs:List PV} {pp:List (Nat × PV)} (xs:List (List FV)) (H:Has σ lo hi L) (hlo:lo≤base + i) (hhi:base + i < hi)
  (ht:tslice X.P t1 = some el) (hp:Z3v X e parts.toList = some pp) (hs:tsize X.P el = some sz) (hz:tzero X.P el = some zs) (hc:(zs.length == sz && sz != 0 && Nat.ble (len * sz) 1000000) = true)
  (hf:Z7b (fun i => some (i * sz,sz)) (List.replicate len zs).flatten pp = some (vs xs.flatten)) (hl:xs.length = len) (hx:xs.all (fun y => y.length == sz) = true) (hd:Nat.blt d n = true)
  (hk:∀ σ',Has σ' (base + i + 1) hi (.sl (.buf (base + i) len sz) el sz xs true :: L)→Ops X n dr ops base (i + 1) l (set e d (.buf (base + i) len sz)) σ' K) (hfr:(pp.all fun p => !Z6f p.2) = true:=by rfl) (hlit:(X.lit && len != 0) = false:=by first | rfl | exact Bool.and_false _) :
  Ops X n dr ops base i (⟨some d,.buildSlice t1 len parts,t,p,af,none⟩ :: l) e σ K:=by
 simp only [Y9,beq_iff_eq,bne_iff_ne,ne_eq,Nat.ble_eq] at hc
 refine .plain (x:=.buf (base + i) len sz) (σ1:=σ.put (base + i) (.blk el (vs xs.flatten) true)) ?_ (fun _ => ask_build hp hfr) hd (hk _ (H.push hlo hhi (r':=.sl (.buf (base + i) len sz) el sz xs true) ?_ rfl))
 ·simp only [Z5,Z1e,hp,Y0,frzPs_none hfr,Z2W,ht,hs,hz];rw [if_pos ⟨hc.1.1,hc.1.2,hc.2⟩,hf];simp only [litR,hlit];rfl
 ·exact ⟨fun y hy => by have:=List.all_eq_true.1 hx y hy;simpa using this,.inr ⟨base + i,by rw [hl],Z2D⟩⟩
theorem Ops.lenS {el et:TypeId} {sz:Nat} {xs:List (List FV)} {lv:Bool} (H:Has σ lo hi L) (k:Nat) (hk:L[k]? = some (.sl v et sz xs lv)) (hx:Z0 X e x = some v) (ht:tslice X.P t1 = some el)
  (ha:dr = true→∀ id,v.owner = some id→Seen ops base i id false) (hd:Nat.blt d n = true)
  (hk':Ops X n dr ops base (i + 1) l (set e d (.v (.int .i64 xs.length))) σ K):Ops X n dr ops base i (⟨some d,.call { callee:=.builtin .len,args:=#[x],argTypes:=#[t1] },t,p,af,none⟩ :: l) e σ K:=by
 obtain ⟨hs,hv⟩:=H.sl hk
 refine .plain (x:=.v (.int .i64 xs.length)) (σ1:=σ) ?_ (fun h => Z38 rfl rfl ?_) hd hk'
 ·simp only [Z5,Zx,ZY,hx,Y0,Z0X,lenD,ht]
  rcases hv with ⟨rfl,rfl⟩ | ⟨id,rfl,hb⟩
  ·rfl
  ·have:σ.cur id (xs.length * sz) = true:=by simp only [Heap.cur,hb,Z1H,Z0d hs,beq_self_eq_true]
   simp only [this,if_true,Y8]
 ·intro id hid;simp only [touched,Zf,YO,YT,hx,YQ] at hid
  rcases hv with ⟨rfl,rfl⟩ | ⟨id',rfl,hb⟩
  ·simp [vids] at hid
  ·simp [vids] at hid;subst hid;exact ha h _ rfl
theorem Ops.Z5B {el et:TypeId} {sz:Nat} {xs:List (List FV)} {u:List FV} {iv:Int} {ik:IntKind} {lv:Bool} (H:Has σ lo hi L) (k:Nat) (hk:L[k]? = some (.sl v et sz xs lv)) (hx:Z0 X e x = some v)
  (hy:Z0 X e y = some (.v (.int ik iv))) (hu:at? xs iv = some u) (ht:tslice X.P t1 = some el) (hs:tsize X.P el = some sz)
  (ha:dr = true→∀ id,v.owner = some id→Seen ops base i id false) (hd:Nat.blt d n = true)
  (hk':∀ id,v = .buf id xs.length sz→Ops X n dr ops base (i + 1) l (set e d (.ptr id (xs.length * sz) (iv.toNat * sz))) σ K):Ops X n dr ops base i (⟨some d,.indexAddr t1 x y,t,p,af,none⟩ :: l) e σ K:=by
 obtain ⟨hsz,hv⟩:=H.sl hk
 obtain ⟨h0,hu⟩:=at?_some hu
 have hlt:iv.toNat < xs.length:=by
  rcases YI iv.toNat xs.length with h1 | h1
  ·exact h1
  ·rw [YZ h1] at hu;cases hu
 rcases hv with ⟨rfl,rfl⟩ | ⟨id,rfl,hb⟩
 ·simp at hu
 ·have hcur:σ.cur id (xs.length * sz) = true:=by simp only [Heap.cur,hb,Z1H,Z0d hsz,beq_self_eq_true]
  refine .plain (x:=.ptr id (xs.length * sz) (iv.toNat * sz)) (σ1:=σ) ?_ (fun h => Z38 rfl rfl ?_) hd (hk' id rfl)
  ·simp only [Z5,hx,hy,Z1A,Z49,if_pos h0,ht,hcur,hs,Bool.true_and,beq_self_eq_true,decide_eq_true hlt,if_true,Y8]
  ·intro id' hid;simp only [touched,Zf,YO,YT,hx,YQ] at hid;simp [vids] at hid;subst hid;exact ha h _ rfl
theorem Ops.Z65 {id:Nat} {et ft:TypeId} {sz f fo m off ver:Nat} {xs:List (List FV)} {lv:Bool} (H:Has σ lo hi L) (k:Nat) (hk:L[k]? = some (.sl v et sz xs lv)) (hv:v = .buf id xs.length sz) (hver:ver = xs.length * sz)
  (hx:Z0 X e x = some (.ptr id ver off)) (hf:tfield X.P t1 f = some (fo,ft)) (hs:tsize X.P ft = some (m + 1)) (ha:dr = true→Seen ops base i id false) (hd:Nat.blt d n = true)
  (hk':Ops X n dr ops base (i + 1) l (set e d (.ptr id ver (off + fo))) σ K):Ops X n dr ops base i (⟨some d,.fieldAddr t1 x f,t,p,af,none⟩ :: l) e σ K:=by
 subst hver
 obtain ⟨hsz,hv'⟩:=H.sl hk
 rcases hv' with ⟨rfl,rfl⟩ | ⟨id',rfl,hb⟩
 ·cases hv
 ·cases hv;have hcur:σ.cur id (xs.length * sz) = true:=by simp only [Heap.cur,hb,Z1H,Z0d hsz,beq_self_eq_true]
  refine .plain (x:=.ptr id (xs.length * sz) (off + fo)) (σ1:=σ) ?_ (fun h => Z38 (ids:=[id]) rfl ?_ (fun j hj => by simp at hj;subst hj;exact ha h)) hd hk'
  ·simp only [Z5,hx,Y0,Z1P,hf,hs,hcur,if_true,Y8]
  ·simp only [touched,Zf,YO,YT,hx,vids,YQ]
theorem Ops.loadS {id:Nat} {et:TypeId} {sz j off ver:Nat} {xs:List (List FV)} {u:List FV} {w:FV} {iv:Int} {lv:Bool} (H:Has σ lo hi L) (k:Nat) (hk:L[k]? = some (.sl v et sz xs lv)) (hv:v = .buf id xs.length sz) (hver:ver = xs.length * sz)
  (hu:at? xs iv = some u) (hx:Z0 X e x = some (.ptr id ver off)) (hoff:off = iv.toNat * sz + j) (hg:tagg X.P t1 = some false) (hj:Nat.blt j sz = true) (hw:u[j]? = some w) (ha:dr = true→Seen ops base i id false) (hd:Nat.blt d n = true)
  (hk':Ops X n dr ops base (i + 1) l (set e d (.v w)) σ K):Ops X n dr ops base i (⟨some d,.load t1 x,t,p,af,none⟩ :: l) e σ K:=by
 subst hver;subst hoff
 obtain ⟨hsz,hv'⟩:=H.sl hk
 obtain ⟨h0,hu⟩:=at?_some hu
 rcases hv' with ⟨rfl,rfl⟩ | ⟨id',rfl,hb⟩
 ·cases hv
 ·cases hv;refine .plain (x:=.v w) (σ1:=σ) ?_ (fun h => Z38 (ids:=[id]) rfl ?_ (fun j hj => by simp at hj;subst hj;exact ha h)) hd hk'
  ·simp only [Z5,hx,Y0,Z4A,hb,Z1H,Z0d hsz,if_true,hg,vs_get,flat_get hsz hu (ZAs hj),hw,Y8]
  ·simp only [touched,Zf,YO,YT,hx,vids,YQ]
theorem Ops.loadSA {id:Nat} {et:TypeId} {sz off ver:Nat} {xs:List (List FV)} {u:List FV} {iv:Int} {lv:Bool} (H:Has σ lo hi L) (k:Nat) (hk:L[k]? = some (.sl v et sz xs lv)) (hv:v = .buf id xs.length sz) (hver:ver = xs.length * sz)
  (hu:at? xs iv = some u) (hx:Z0 X e x = some (.ptr id ver off)) (hoff:off = iv.toNat * sz) (hg:tagg X.P t1 = some true) (hj:tsize X.P t1 = some sz) (ha:dr = true→Seen ops base i id false) (hd:Nat.blt d n = true)
  (hk':Ops X n dr ops base (i + 1) l (set e d (.agg (vs u))) σ K):Ops X n dr ops base i (⟨some d,.load t1 x,t,p,af,none⟩ :: l) e σ K:=by
 subst hver;subst hoff
 obtain ⟨hsz,hv'⟩:=H.sl hk
 obtain ⟨h0,hu⟩:=at?_some hu
 rcases hv' with ⟨rfl,rfl⟩ | ⟨id',rfl,hb⟩
 ·cases hv
 ·cases hv;refine .plain (x:=.agg (vs u)) (σ1:=σ) ?_ (fun h => Z38 (ids:=[id]) rfl ?_ (fun j hj => by simp at hj;subst hj;exact ha h)) hd hk'
  ·have hle:iv.toNat * sz + sz≤xs.length * sz:=by rw [← Z0d hsz];exact flat_le hsz hu
   simp only [Z5,hx,Y0,Z4A,hb,Z1H,Z0d hsz,if_true,hg,hj,if_pos hle,vs_drop,vs_take,flat_part hsz hu,Y8]
  ·simp only [touched,Zf,YO,YT,hx,vids,YQ]
theorem Ops.storeS {id:Nat} {et:TypeId} {sz j m off ver:Nat} {xs:List (List FV)} {u zs u':List FV} {iv:Int} {w:PV} (H:Has σ lo hi L) (k:Nat) (hk:L[k]? = some (.sl v et sz xs true)) (hv:v = .buf id xs.length sz) (hver:ver = xs.length * sz)
  (hu:at? xs iv = some u) (hx:Z0 X e x = some (.ptr id ver off)) (hoff:off = iv.toNat * sz + j) (hy:Z0 X e y = some w) (hw:w.cells = some (vs zs)) (hm:tsize X.P t1 = some m) (hz:zs.length = m) (hj:Nat.ble (j + m) sz = true)
  (hu':u.take j ++ zs ++ u.drop (j + zs.length) = u') (ha:dr = true→Seen ops base i id true)
  (hk':∀ σ',Has σ' lo hi (L.set k (.sl v et sz (xs.set iv.toNat u') true))→Ops X n dr ops base (i + 1) l e σ' K):Ops X n dr ops base i (⟨none,.store t1 x y,t,p,af,none⟩ :: l) e σ K:=by
 subst hver;subst hoff;subst hu'
 obtain ⟨hsz,hv'⟩:=H.sl hk
 obtain ⟨h0,hu⟩:=at?_some hu
 have hj:j + m≤sz:=Y04 hj
 have hul:=hsz u (Y6 hu)
 rcases hv' with ⟨rfl,rfl⟩ | ⟨id',rfl,hb⟩
 ·cases hv
 ·cases hv;have hsp:=flat_splice hsz hu (off:=j) (zs:=zs) (by omega)
  have hle:iv.toNat * sz + j + m≤(vs xs.flatten).length:=by
   have:=flat_le hsz hu
   rw [Z1H];omega
  refine .plain0 (x:=.undef) (σ1:=σ.put id (.blk et (vs (xs.set iv.toNat (u.take j ++ zs ++ u.drop (j + zs.length))).flatten) true)) ?_ (fun h => ZCD (ids:=[id]) rfl ?_ (fun j hj => by simp at hj;subst hj;exact ha h))
   (hk' _ (H.put hk rfl (r':=.sl _ et sz _ true) ⟨?_,.inr ⟨id,?_,Z2D⟩⟩ rfl))
  ·have hl2:(vs xs.flatten).length = xs.length * sz:=by rw [Z1H,Z0d hsz]
   simp only [Z5,hx,hy,Z5i,hb,hl2,if_true,hm,hw,Z1H,hz];rw [if_pos ⟨trivial,by rw [← hl2];exact hle⟩,hsp,hz]
   rfl
  ·simp only [touched,Zf,YO,YT,hx,vids,YQ]
  ·intro y hy
   rcases List.mem_or_eq_of_mem_set hy with h | rfl
   ·exact hsz y h
   ·simp only [Ym,YS,List.length_drop,hul];omega
  ·rw [List.length_set]
inductive Bring (L:List Res) (sz:Nat):PV→List (List FV)→Prop
 | p {xs:List (List FV)} (h:xs.all (fun y => y.length == sz) = true):Bring L sz (.v (.sl xs)) xs
 | m {α:Type} {c:α→List FV} {xs:List α} (h:∀ a,(c a).length = sz):Bring L sz (.v (.sl (xs.map c))) (xs.map c)
 | s {v:PV} {et:TypeId} {xs:List (List FV)} {lv:Bool} (k:Nat) (h:L[k]? = some (.sl v et sz xs lv)):Bring L sz v xs
theorem brought {sz:Nat} {w:PV} {ys:List (List FV)} (H:Has σ lo hi L) (h:Bring L sz w ys):Z4E σ sz w = some (vs ys.flatten,ys.length)∧∀ y ∈ ys,y.length = sz:=by
 cases h with
 | p h =>
  refine ⟨by simp only [Z4E,h,if_true],fun y hy => by have:=List.all_eq_true.1 h y hy;simpa using this⟩
 | @m α c xs h =>
  have h1:(xs.map c).all (fun y => y.length == sz) = true:=by simp [h]
  refine ⟨by simp only [Z4E,h1,if_true],fun y hy => by have:=List.all_eq_true.1 h1 y hy;simpa using this⟩
 | s k h =>
  obtain ⟨hs,hv⟩:=H.sl h
  refine ⟨?_,hs⟩
  rcases hv with ⟨rfl,rfl⟩ | ⟨id,rfl,hb⟩
  ·rfl
  ·simp only [Z4E,hb,Z1H,Z0d hs,and_self,if_true]
theorem Ops.appendS0 {el:TypeId} {sz by_:Nat} {w:PV} {xs ys:List (List FV)} {zs:List PV} (H:Has σ lo hi L) (hlo:lo≤base + i) (hhi:base + i < hi) (k:Nat) (hk:L[k]? = some (.sl v el sz xs true))
  (hx:Z0 X e x = some v) (hy:Z0 X e y = some w) (hb:Bring L sz w ys) (ht:tslice X.P t1 = some el) (hs:tsize X.P el = some sz) (hby:tbytes X.P el = some by_) (hz:tzero X.P el = some zs)
  (hc:(sz != 0 && by_ != 0 && zs.length == sz) = true) (hroom:(xs.length + ys.length) * by_≤room)
  (ask:dr = true→Zp X ops base i ⟨some d,.call { callee:=.builtin .append,args:=#[x,y],argTypes:=#[t1,t1] },t,p,af,none⟩ e = true) (hd:Nat.blt d n = true)
  (hk':∀ v' σ',Has σ' (base + i + 1) hi (L.set k (.sl v' el sz (xs ++ ys) true))→Ops X n dr ops base (i + 1) l (set e d v') σ' K) :
  Ops X n dr ops base i (⟨some d,.call { callee:=.builtin .append,args:=#[x,y],argTypes:=#[t1,t1] },t,p,af,none⟩ :: l) e σ K:=by
 simp only [Y9,beq_iff_eq,bne_iff_ne,ne_eq] at hc
 obtain ⟨hb1,hb2⟩:=brought H hb
 obtain ⟨hsz,hv⟩:=H.sl hk
 have hall:∀ y ∈ xs ++ ys,y.length = sz:=fun y hy => (List.mem_append.1 hy).elim (hsz y) (hb2 y)
 have hn:¬(sz = 0∨by_ = 0∨(some zs).map List.length ≠ some sz):=by
  rintro (h | h | h)
  ·exact hc.1.1 h
  ·exact hc.1.2 h
  ·exact h (by rw [Y8,hc.2])
 have start:Z5 X (Z0M X) e σ (base + i) (.call { callee:=.builtin .append,args:=#[x,y],argTypes:=#[t1,t1] }) = Z2E X.P σ (base + i) t1 v w:=by
  simp only [Z5,Zx,ZY,hx,hy,Y0,Z0X,if_true]
 rcases hv with ⟨rfl,rfl⟩ | ⟨id,rfl,hbl⟩
 ·by_cases h0:ys = []
  ·subst h0;refine .plain (x:=.nils) (σ1:=σ) ?_ ask hd (hk' _ _ ((H.weak (Yd hlo (Nat.le_succ _)) (YB _)).say hk (r':=.sl .nils el sz ([] ++ []) true) ⟨by simp,.inl ⟨rfl,rfl⟩⟩ rfl))
   rw [start];simp only [Z2E,ht,hs,hby,hb1,hz,if_neg hn,Yt,if_true]
  ·have hl:ys.length ≠ 0:=fun h => h0 (List.length_eq_zero_iff.1 h)
   refine .plain (x:=.buf (base + i) ys.length sz) (σ1:=σ.put (base + i) (.blk el (vs ys.flatten) true)) ?_ ask hd
    (hk' _ _ (H.renew hk hlo hhi (r':=.sl (.buf (base + i) ys.length sz) el sz ([] ++ ys) true) ⟨hall,.inr ⟨base + i,rfl,Z2D⟩⟩ rfl))
   rw [start];simp only [Yt,Y0d] at hroom;simp only [Z2E,ht,hs,hby,hb1,hz,if_neg hn,if_neg hl,if_pos hroom]
 ·refine .plain (x:=.buf id (xs.length + ys.length) sz) (σ1:=σ.put id (.blk el (vs xs.flatten ++ vs ys.flatten) true)) ?_ ask hd
   (hk' _ _ ((H.put hk rfl (r':=.sl (.buf id (xs.length + ys.length) sz) el sz (xs ++ ys) true) ⟨hall,.inr ⟨id,by rw [Ym],?_⟩⟩ rfl).weak (Yd hlo (Nat.le_succ _)) (YB _)))
  ·rw [start];simp only [Z2E,ht,hs,hby,hb1,hz,if_neg hn,hbl];rw [if_pos ⟨trivial,trivial,by rw [Z1H,Z0d hsz],hroom⟩]
  ·rw [Z2D,List.flatten_append,ZAj]
def RO (v:PV) (xs:List (List FV)):Prop:=(v = .nils∧xs = [])∨v = .v (.sl xs)
inductive ExpC:List Res→PV→FV→List Res→Prop
 | v {L:List Res} (y:FV):ExpC L (.v y) y L
 | n {L:List Res}:ExpC L .nils (.sl []) L
 | full {L:List Res} (xs:List (List FV)):ExpC L (.full xs) (.sl xs) L
 | ro {L:List Res} {v:PV} {xs:List (List FV)} (h:RO v xs):ExpC L v (.sl xs) L
 | s {L:List Res} {v:PV} {et:TypeId} {sz:Nat} {xs:List (List FV)} {lv:Bool} (k:Nat) (h:L[k]? = some (.sl v et sz xs lv)):ExpC L v (.sl xs) (L.set k (.sl v et sz xs false))
inductive ExpCs:List Res→List PV→List FV→List Res→Prop
 | nil {L:List Res}:ExpCs L [] [] L
 | cons {L L1 L2:List Res} {x:PV} {y:FV} {xs:List PV} {ys:List FV} (h:ExpC L x y L1) (t:ExpCs L1 xs ys L2):ExpCs L (x :: xs) (y :: ys) L2
inductive ExpV:List Res→PV→PV→List Res→Prop
 | c {L L':List Res} {x:PV} {y:FV} (h:ExpC L x y L'):ExpV L x (.v y) L'
 | a {L L':List Res} {xs:List PV} {ys:List FV} (h:ExpCs L xs ys L'):ExpV L (.agg xs) (.agg (vs ys)) L'
 | p {L:List Res} {x:PV} (h:x.pure = true):ExpV L x x L
inductive ExpVs:List Res→List PV→List PV→List Res→Prop
 | nil {L:List Res}:ExpVs L [] [] L
 | cons {L L1 L2:List Res} {x y:PV} {xs ys:List PV} (h:ExpV L x y L1) (t:ExpVs L1 xs ys L2):ExpVs L (x :: xs) (y :: ys) L2
theorem Ops.appendS {el:TypeId} {sz by_:Nat} {w:PV} {xs ys:List (List FV)} {zs:List PV} (H:Has σ lo hi L) (hlo:lo≤base + i) (hhi:base + i < hi) (k:Nat) (hk:L[k]? = some (.sl v el sz xs true))
  (hx:Z0 X e x = some v) (hy:Z0 X e y = some w) (hb:Bring L sz w ys) (ht:tslice X.P t1 = some el) (hs:tsize X.P el = some sz) (hby:tbytes X.P el = some by_) (hz:tzero X.P el = some zs)
  (hc:(sz != 0 && by_ != 0 && zs.length == sz) = true) (hroom:(xs.length + ys.length) * by_≤room)
  (ha:dr = true→∀ id ∈ vids v ++ vids w,Seen ops base i id true) (hd:Nat.blt d n = true)
  (hk':∀ v' σ',Has σ' (base + i + 1) hi (L.set k (.sl v' el sz (xs ++ ys) true))→Ops X n dr ops base (i + 1) l (set e d v') σ' K) :
  Ops X n dr ops base i (⟨some d,.call { callee:=.builtin .append,args:=#[x,y],argTypes:=#[t1,t1] },t,p,af,none⟩ :: l) e σ K :=
 .appendS0 H hlo hhi k hk hx hy hb ht hs hby hz hc hroom (fun h => ZCD rfl (by simp only [touched,Zf,YO,YT,hx,hy,YQ]) (ha h)) hd hk'
theorem Z9b {sz:Nat}:∀ {xs:List (List FV)},(∀ y ∈ xs,y.length = sz)→chunk sz xs.length xs.flatten = xs
 | [],_ => rfl
 | x :: xs,h => by
  have hx:=h x YG
  have:=Z9b (xs:=xs) fun y hy => h y (YH _ hy)
  simp only [Yv,chunk,Y0E];rw [← hx,List.take_left,List.drop_left,hx,this]
theorem expCells_vs {d:Nat} {σ:Heap} (cs:List FV):Z0I (Z02 (d + 1)) σ (vs cs) = some (cs,σ):=by
 induction cs with
 | nil => rfl
 | cons c cs ih =>
  simp only [vs,Y0B,Z0I,Z02,Y0] at ih ⊢;rw [ih];rfl
theorem expCell_bufs {d:Nat} {σ:Heap} {id len sz:Nat} {elem:TypeId} {cells:List PV} {lv:Bool} (h:σ.ent id = .blk elem cells lv) (hl:cells.length = len * sz) :
  Z02 (d + 1) σ (.buf id len sz) = (Z0I (Z02 d) (σ.put id (.blk elem cells false)) cells).bind fun r => some (.sl (chunk sz len r.1),r.2):=by
 rw [Z02]
 simp only [h,hl,if_true]
theorem expC_ok {x:PV} {y:FV} {L':List Res} (H:Has σ lo hi L) (h:ExpC L x y L'):∃ σ',Z02 6 σ x = some (y,σ')∧Has σ' lo hi L'∧σ'.nx = σ.nx:=by
 cases h with
 | v y => exact ⟨σ,rfl,H,rfl⟩
 | n => exact ⟨σ,rfl,H,rfl⟩
 | full xs => exact ⟨σ,rfl,H,rfl⟩
 | ro h => rcases h with ⟨rfl,rfl⟩ | rfl <;> exact ⟨σ,rfl,H,rfl⟩
 | @s _ et sz xs lv k h =>
  obtain ⟨hs,hv⟩:=H.sl h
  rcases hv with ⟨rfl,rfl⟩ | ⟨id,rfl,hb⟩
  ·exact ⟨σ,rfl,H.say h ⟨by simp,.inl ⟨rfl,rfl⟩⟩ rfl,rfl⟩
  ·refine ⟨σ.put id (.blk et (vs xs.flatten) false),?_,H.put h rfl (r':=.sl (.buf id xs.length sz) et sz xs false) ⟨hs,.inr ⟨id,rfl,Z2D⟩⟩ rfl,rfl⟩
   rw [expCell_bufs hb (by rw [Z1H,Z0d hs]),expCells_vs (d:=4)]
   simp only [Y0,Z9b hs]
theorem expCs_ok:∀ {xs:List PV} {σ:Heap} {L L':List Res} {ys:List FV},Has σ lo hi L→ExpCs L xs ys L'→∃ σ',Z8T σ xs = some (ys,σ')∧Has σ' lo hi L'∧σ'.nx = σ.nx
 | [],σ,L,L',ys,H,h => by cases h;exact ⟨σ,rfl,H,rfl⟩
 | x :: xs,σ,L,L',ys,H,h => by
  cases h with
  | cons h t =>
   obtain ⟨σ1,q1,q2,q3⟩:=expC_ok H h
   obtain ⟨σ2,p1,p2,p3⟩:=expCs_ok q2 t
   refine ⟨σ2,?_,p2,p3.trans q3⟩;unfold Z8T at p1 ⊢;simp only [Z0I,q1,Y0,p1]
theorem expV_ok {x y:PV} {L':List Res} (H:Has σ lo hi L) (h:ExpV L x y L'):∃ σ',Z1Q σ x = some (y,σ')∧Has σ' lo hi L'∧σ'.nx = σ.nx:=by
 cases h with
 | c h =>
  obtain ⟨σ',q1,q2,q3⟩:=expC_ok H h
  refine ⟨σ',?_,q2,q3⟩;cases h with
  | v y => simp only [Z1Q,q1,Y0]
  | n => simp only [Z1Q,q1,Y0]
  | full xs => simp only [Z1Q,q1,Y0]
  | ro h => rcases h with ⟨rfl,rfl⟩ | rfl <;> simp only [Z1Q,q1,Y0]
  | s k h =>
   obtain ⟨_,⟨rfl,rfl⟩ | ⟨id,rfl,hb⟩⟩:=H.sl h
   ·simp only [Z1Q,q1,Y0]
   ·simp only [Z1Q,q1,Y0]
 | a h =>
  obtain ⟨σ',q1,q2,q3⟩:=expCs_ok H h
  exact ⟨σ',by simp only [Z1Q,q1,Y0],q2,q3⟩
 | p h => exact ⟨σ,Z56 h,H,rfl⟩
theorem expArg_val {x y:PV} {σ':Heap} (h:Z1Q σ x = some (y,σ')) (hp:∀ (id ver off:Nat),x ≠ .ptr id ver off) (hc:∀ (f:FuncId) (a c:List PV),x ≠ .clo f a c) (hy:∀ id,x ≠ .yld id):Z4S σ x = some (y,σ'):=by
 cases x <;> first | exact h | exact absurd rfl (hp _ _ _) | exact absurd rfl (hc _ _ _) | exact absurd rfl (hy _)
theorem ZCo {x y:PV} {L':List Res} (H:Has σ lo hi L) (h:ExpV L x y L'):(∀ (id ver off:Nat),x ≠ .ptr id ver off)∧(∀ (f:FuncId) (a c:List PV),x ≠ .clo f a c)∧(∀ id,x ≠ .yld id)∧(∀ xs,x ≠ .tup xs)∧y.pure = true:=by
 cases h with
 | c h =>
  cases h with
  | v y => exact ⟨by intros;simp,by intros;simp,by intros;simp,by intros;simp,rfl⟩
  | n => exact ⟨by intros;simp,by intros;simp,by intros;simp,by intros;simp,rfl⟩
  | full xs => exact ⟨by intros;simp,by intros;simp,by intros;simp,by intros;simp,rfl⟩
  | ro h => rcases h with ⟨rfl,rfl⟩ | rfl <;> exact ⟨by intros;simp,by intros;simp,by intros;simp,by intros;simp,rfl⟩
  | s k h =>
   obtain ⟨_,⟨rfl,rfl⟩ | ⟨id,rfl,hb⟩⟩:=H.sl h
   ·exact ⟨by intros;simp,by intros;simp,by intros;simp,by intros;simp,rfl⟩
   ·exact ⟨by intros;simp,by intros;simp,by intros;simp,by intros;simp,rfl⟩
 | a h => exact ⟨by intros;simp,by intros;simp,by intros;simp,by intros;simp,by simp [PV.pure,vs,PV.isV]⟩
 | p h => cases x <;> simp [PV.pure] at h ⊢;all_goals simp_all
theorem Z9n:∀ {xs:List PV} {σ:Heap} {L L':List Res} {ys:List PV},Has σ lo hi L→ExpVs L xs ys L'→∃ σ',Z2g σ xs = some (ys,σ')∧Z13 σ xs = some (ys,σ')∧Has σ' lo hi L'∧σ'.nx = σ.nx∧ys.all PV.pure = true
 | [],σ,L,L',ys,H,h => by cases h;exact ⟨σ,rfl,rfl,H,rfl,rfl⟩
 | x :: xs,σ,L,L',ys,H,h => by
  cases h with
  | cons h t =>
   obtain ⟨σ1,q1,q2,q3⟩:=expV_ok H h
   obtain ⟨s1,s2,s3,_,s4⟩:=ZCo H h
   obtain ⟨σ2,p1,p1',p2,p3,p4⟩:=Z9n q2 t
   refine ⟨σ2,?_,?_,p2,p3.trans q3,by simp [s4,p4]⟩
   ·simp only [Z2g,q1,Y0,p1]
   ·simp only [Z13,expArg_val q1 s1 s2 s3,Y0,p1']
inductive ExpR (L:List Res):List PV→PV→List Res→Prop
 | one {x y:PV} {L':List Res} (h:ExpV L x y L'):ExpR L [x] y L'
 | two {x x':PV} {xs ys:List PV} {L':List Res} (h:ExpVs L (x :: x' :: xs) ys L'):ExpR L (x :: x' :: xs) (.tup ys) L'
 | zero:ExpR L [] (.tup []) L
theorem expR_ok {xs:List PV} {y:PV} {L':List Res} (H:Has σ lo hi L) (h:ExpR L xs y L'):∃ σ',Z1C σ (Z1r xs) = some (y,σ')∧Has σ' lo hi L':=by
 cases h with
 | @one x _ _ h =>
  obtain ⟨σ',q1,q2,_⟩:=expV_ok H h
  obtain ⟨_,_,_,s4,_⟩:=ZCo H h
  refine ⟨σ',?_,q2⟩
  show Z1C σ x = _
  cases x <;> first | exact q1 | exact absurd rfl (s4 _)
 | two h =>
  obtain ⟨σ',q1,_,q2,_⟩:=Z9n H h
  exact ⟨σ',by simp only [Z1r,Z1C,q1,Y0],q2⟩
 | zero => exact ⟨σ,rfl,H⟩
theorem callL_exp {f:FuncId} {args args':List PV} {r:PV} {σ':Heap} (hF:Fn X f args' r) (hi0:X.intr f args = none) (ht:X.thaw f = false∨σ' = σ) (he:Z13 σ args = some (args',σ')):Z0M X (.fn f) args σ = some (r,σ'):=by
 obtain ⟨k,hk⟩:=Z2O.1 (hF.call σ')
 refine Z2O.2 ⟨k,?_⟩
 cases k with
 | zero => simp [Z0b] at hk
 | succ k =>
  simp only [Z0b,hF.keep,YA,if_false,Z3T hF.pure,hF.opn,hF.pure,if_true] at hk;simp only [Z0b,hi0,hF.keep,YA,if_false,he,hF.opn,hF.pure,if_true];cases hi1:X.intr f args' with
  | some r' => simp only [hi1] at hk ⊢;exact hk
  | none =>
   simp only [hi1,ite_self] at hk ⊢
   rcases ht with ht | rfl
   ·simp only [ht,Y0m,YA,if_false];exact hk
   ·simp only [ite_self];exact hk
theorem Ops.callX {f:FuncId} {args:Array Operand} {ts:Array TypeId} {xs ys:List PV} {r:PV} {L':List Res} (H:Has σ lo hi L) (ha:ZY X e args.toList = some xs) (hE:ExpVs L xs ys L') (hf:Fn X f ys r) (hi0:X.intr f xs = none) (hi1:X.thaw f = false) (hdr:dr = true→Z34 (Region.before ops) ops i = true) (hd:Nat.blt d n = true)
  (hk:∀ σ',Has σ' lo hi L'→Ops X n dr ops base (i + 1) l (set e d r) σ' K) :
  Ops X n dr ops base i (⟨some d,.call { callee:=.value (.func f),args:=args,argTypes:=ts },t,p,af,none⟩ :: l) e σ K:=by
 obtain ⟨σ',q1,q2,q3,_⟩:=Z9n H hE
 exact .plain (x:=r) (σ1:=σ') (by simp only [Z5,Zx,ha,Z0,callL_exp hf hi0 (.inl hi1) q2]) (fun h => Z5O (hdr h)) hd (hk σ' q3)
abbrev Hs (σ:Heap) (L:List Res):Prop:=Has σ σ.nx σ.nx L
def ZE (e:Env):List (Nat × PV)→Prop
 | [] => True
 | (k,v) :: l => e k = v∧ZE e l
def sets (e:Env):List (Nat × PV)→Env
 | [] => e
 | (k,v) :: l => set (sets e l) k v
theorem ZE.eq:∀ {l:List (Nat × PV)} {e:Env},ZE e l→e = sets e l
 | [],e,_ => rfl
 | (k,v) :: l,e,⟨h,t⟩ => by
  have ih:=ZE.eq t
  funext j
  simp only [sets,set];cases hj:Nat.beq j k with
  | true => rw [Y0N hj];exact h
  | false => exact congrFun ih j
theorem ZE.ex {l:List (Nat × PV)} {e:Env} (h:ZE e l):∃ e0,e = sets e0 l:=⟨e,h.eq⟩
theorem holds_ent {r:Res} {σ σ':Heap} (h:r.holds σ) (he:σ'.ent = σ.ent) (hn:σ.nx≤σ'.nx):r.holds σ':=by
 cases r with
 | blk id t cells => show σ'.ent id = _;rw [he];exact h
 | sl v e sz xs live => exact ⟨h.1,h.2.imp (fun h => h) fun ⟨id,hv,hb⟩ => ⟨id,hv,by rw [he];exact hb⟩⟩
 | floor m => exact Yd h hn
 | hole id => trivial
 | loop id fn e n ps as_ bo st pd => show σ'.ent id = _;rw [he];exact h
 | mp id kv => show σ'.ent id = _;rw [he];exact h
 | fix id en => show σ'.ent id = _;rw [he];exact h
theorem Has.enter (H:Hs σ L) (m:Nat):Has ⟨σ.nx + m,σ.ent⟩ σ.nx (σ.nx + m) L :=
 ⟨fun k r hk => holds_ent (H.holds k r hk) rfl (Y0z _ _),fun k r hk id ho => ⟨.inl (H.lt k r hk id ho).2,YU (H.lt k r hk id ho).2 (Y0z _ _)⟩,H.sep,YB _⟩
theorem Runs.ZJ {id:Nat} {os:List Oper} (m:Nat) (hm:os.length = m) (H:Hs σ L) (h:∀ base σ',Has σ' base (base + m) L→Ops X n false os.toArray base 0 os e σ' (Q .normal)):Runs X n fn (.region id os.toArray false) e σ Q:=by
 subst hm
 have h:=h σ.nx _ (H.enter os.length)
 exact Runs.region (m':=σ.nx + os.length) rfl h
theorem Runs.Z0P {id:Nat} {os:List Oper} (m:Nat) (hm:os.length = m) (hd:Z4Y os.toArray = true) (H:Hs σ L) (h:∀ base σ',Has σ' base (base + m) L→(∀ (k:Nat) (r:Res),L[k]? = some r→∀ id,r.owner = some id→id < base)→Ops X n true os.toArray base 0 os e σ' (Q .normal)):Runs X n fn (.region id os.toArray true) e σ Q:=by
 subst hm
 have h:=h σ.nx _ (H.enter os.length) (fun k r hk id ho => (H.lt k r hk id ho).2)
 exact Runs.drawn (m':=σ.nx + os.length) hd rfl h
theorem Z8z {call:Z05}:∀ (l1 l2:List Oper) (i:Nat) (e:Env) (σ:Heap),Z2Q X call n ops base i (l1 ++ l2) e σ = (Z2Q X call n ops base i l1 e σ).bind fun r => Z2Q X call n ops base (i + l1.length) l2 r.1 r.2
 | [],l2,i,e,σ => rfl
 | o :: l1,l2,i,e,σ => by
  simp only [Y0k,Z2Q,Yv];cases Z0s X call n ops base i o e σ with
  | none => rfl
  | some r =>
   simp only [Y0];rw [Z8z l1 l2 (i + 1) r.1 r.2,show i + 1 + l1.length = i + (l1.length + 1) by omega]
theorem Z7u {call:Z05}:∀ (l1 l2:List Oper) (i:Nat) (e:Env) (σ:Heap),Z1U X call n ops base i (l1 ++ l2) e σ = (Z1U X call n ops base i l1 e σ).bind fun r => Z1U X call n ops base (i + l1.length) l2 r.1 r.2
 | [],l2,i,e,σ => rfl
 | o :: l1,l2,i,e,σ => by
  simp only [Y0k,Z1U,Yv];cases Z0c X call n ops base i o e σ with
  | none => rfl
  | some r =>
   simp only [Y0];rw [Z7u l1 l2 (i + 1) r.1 r.2,show i + 1 + l1.length = i + (l1.length + 1) by omega]
theorem Ops.mid (k:Nat) {K1:Env→Heap→Prop} (hk:Nat.ble k l.length = true) (h1:Ops X n dr ops base i (l.take k) e σ K1) (h2:∀ e σ,K1 e σ→Ops X n dr ops base (i + k) (l.drop k) e σ K):Ops X n dr ops base i l e σ K:=by
 obtain ⟨e1,σ1,q1,q2⟩:=h1.run
 obtain ⟨e2,σ2,p1,p2⟩:=(h2 e1 σ1 q2).run
 have hl:(l.take k).length = k:=by rw [YS];have:=Y04 hk;omega
 refine ⟨⟨e2,σ2,?_,p2⟩⟩
 cases dr with
 | false =>
  simp only [YA,if_false] at q1 p1 ⊢;rw [← Y0u k l,Z8z,q1,Y0,hl];exact p1
 | true =>
  simp only [if_true] at q1 p1 ⊢;rw [← Y0u k l,Z7u,q1,Y0,hl];exact p1
def Z4N {S R:Type} (step:S→Option (S ⊕ R)):Nat→S→Option R
 | 0,_ => none
 | k + 1,s => match step s with
  | some (.inl s') => Z4N step k s'
  | some (.inr r) => some r
  | none => none
def LoopEnd {S R:Type} (I:S→Env→Heap→Prop) (J:R→Ex→Env→Heap→Prop):S ⊕ R→Ex→Env→Heap→Prop
 | .inl s,x,e,σ => x = .normal∧I s e σ
 | .inr r,x,e,σ => x ≠ .normal∧J r x e σ
theorem Runs.loopO {S R:Type} {step:S→Option (S ⊕ R)} {s:S} {y:R} {k:Nat} (h:Z4N step k s = some y) (I:S→Env→Heap→Prop) (J:R→Ex→Env→Heap→Prop) (h0:I s e σ)
  (hs:∀ s e σ,I s e σ→∀ z,step s = some z→Runs X n fn c e σ (LoopEnd I J z)):Runs X n fn (.loop c) e σ (J y):=by
 refine Runs.loop (fun m e σ => ∃ s,Z4N step m s = some y∧I s e σ) (m:=k) ⟨s,h,h0⟩ ?_
 rintro m e σ ⟨s,h1,h2⟩
 cases m with
 | zero => cases h1
 | succ m =>
  simp only [Z4N] at h1
  split at h1
  ·rename_i s' hst;refine (hs s e σ h2 _ hst).mono ?_;rintro x e' σ' ⟨rfl,hI⟩;exact ⟨m,Nat.lt_succ_self m,s',h1,hI⟩
  ·rename_i r hst;cases h1;refine (hs s e σ h2 _ hst).mono ?_;rintro x e' σ' ⟨hx,hJ⟩;cases x with
   | normal => exact absurd rfl hx
   | exit id => exact hJ
   | ret => exact hJ
  ·cases h1
end
noncomputable def loopO {S R:Type} (step:S→Option (S ⊕ R)) (s:S):Option R :=
 open Classical in if h:∃ r,∃ k,Z4N step k s = some r then some h.choose else none
theorem Z9G {S R:Type} {step:S→Option (S ⊕ R)}:∀ {k:Nat} {s:S} {r:R},Z4N step k s = some r→∀ {m:Nat},k≤m→Z4N step m s = some r
 | 0,s,r,h,_,_ => by cases h
 | k + 1,s,r,h,m,hm => by
  obtain ⟨m,rfl⟩ : ∃ j,m = j + 1:=⟨m - 1,by omega⟩
  simp only [Z4N] at h ⊢
  split at h
  ·rename_i s' hs;exact Z9G h (by omega)
  ·exact h
  ·cases h
theorem ZR {S R:Type} {step:S→Option (S ⊕ R)} {s:S} {r:R}:loopO step s = some r ↔ ∃ k,Z4N step k s = some r:=by
 unfold loopO
 constructor
 ·intro h
  split at h
  ·rename_i hex;cases h;exact hex.choose_spec
  ·cases h
 ·rintro ⟨k,h⟩;have hex:∃ r,∃ k,Z4N step k s = some r:=⟨r,k,h⟩
  rw [dif_pos hex];obtain ⟨k',h'⟩:=hex.choose_spec
  have e1:=Z9G h (Y14 k k')
  have e2:=Z9G h' (Y10 k k')
  rw [e1] at e2;exact e2.symm
theorem Z71 {S R:Type} (step:S→Option (S ⊕ R)) (s:S):loopO step s = match step s with | some (.inl s') => loopO step s' | some (.inr r) => some r | none => none:=by
 cases hs:step s with
 | none =>
  cases h:loopO step s with
  | none => rfl
  | some r =>
   obtain ⟨k,hk⟩:=ZR.1 h
   cases k with
   | zero => cases hk
   | succ k => simp [Z4N,hs] at hk
 | some z =>
  cases z with
  | inr r => exact ZR.2 ⟨1,by simp [Z4N,hs]⟩
  | inl s' =>
   simp only;cases h:loopO step s' with
   | some r =>
    obtain ⟨k,hk⟩:=ZR.1 h
    exact ZR.2 ⟨k + 1,by simp only [Z4N,hs];exact hk⟩
   | none =>
    cases h2:loopO step s with
    | none => rfl
    | some r =>
     obtain ⟨k,hk⟩:=ZR.1 h2
     cases k with
     | zero => cases hk
     | succ k =>
      simp only [Z4N,hs] at hk;rw [ZR.2 ⟨k,hk⟩] at h;cases h
inductive Jx (A R:Type) where
 | go (a:A)
 | ret (r:R)
theorem bind_some {α β:Type} {x:Option α} {f:α→Option β} {b:β} (h:x.bind f = some b):∃ a,x = some a∧f a = some b:=Option.bind_eq_some_iff.1 h
theorem cond_T {α:Type} {c:Bool} {a b r:α} (hc:c = true) (h:(bif c then a else b) = r):a = r:=by rw [hc] at h;exact h
theorem cond_F {α:Type} {c:Bool} {a b r:α} (hc:c = false) (h:(bif c then a else b) = r):b = r:=by rw [hc] at h;exact h
section
variable {X:Ctx} {n:Nat} {fn:FuncId} {e:Env} {σ:Heap} {lo hi:Nat} {L:List Res}
inductive ResD (P:Program) (e:Env) (L:List Res):List ResultVar→List PV→Prop
 | nil:ResD P e L [] []
 | tmp {t:Nat} {v:PV} {rs:List ResultVar} {xs:List PV} (h:e t = v) (k:ResD P e L rs xs):ResD P e L (.tmp t :: rs) (v :: xs)
 | cell {a:Nat} {t:TypeId} {id off ver:Nat} {te:TypeId} {cells:List PV} {v:PV} {rs:List ResultVar} {xs:List PV} (i:Nat) (hi:L[i]? = some (.blk id te cells)) (h:e a = .ptr id ver off) (hv:cells.length = ver) (hg:tagg P t = some false) (hc:cells[off]? = some v) (k:ResD P e L rs xs):ResD P e L (.cell a t :: rs) (v :: xs)
 | agg {a:Nat} {t:TypeId} {id off ver m:Nat} {te:TypeId} {cells cs:List PV} {rs:List ResultVar} {xs:List PV} (i:Nat) (hi:L[i]? = some (.blk id te cells)) (h:e a = .ptr id ver off) (hv:cells.length = ver) (hg:tagg P t = some true) (hm:tsize P t = some m) (hl:Nat.ble (off + m) cells.length = true) (hc:(cells.drop off).take m = cs) (k:ResD P e L rs xs):ResD P e L (.cell a t :: rs) (.agg cs :: xs)
theorem Z4J {P:Program} {rs:List ResultVar} {xs:List PV} (H:Has σ lo hi L) (h:ResD P e L rs xs):Z0H P e σ rs = some xs:=by
 induction h with
 | nil => rfl
 | tmp h k ih => simp only [Z0H,ih,Y8,h]
 | cell i hi h hv hg hc k ih => simp only [Z0H,h,Z4A,H.blk hi,hv,if_true,hg,hc,Y0,ih,Y8]
 | agg i hi h hv hg hm hl hc k ih =>
  have h2:=Y04 hl
  rw [hv] at h2;simp only [Z0H,h,Z4A,H.blk hi,hv,if_true,hg,hm,if_pos h2,hc,Y0,ih,Y8]
theorem Ends.H {rs:List ResultVar} {xs:List PV} {r:PV} {x:Ex} {L':List Res} (hx:x = .normal∨x = .ret) (H:Has σ lo hi L) (h:ResD X.P e L rs xs) (hr:ExpR L xs r L'):Ends X rs r x e σ:=by
 obtain ⟨σ',q,_⟩:=expR_ok H hr
 exact ⟨hx,xs,σ',Z4J H h,q⟩
structure EndsH (X:Ctx) (rs:List ResultVar) (r:PV) (L:List Res) (x:Ex) (e:Env) (σ:Heap):Prop where
 out:(x = .normal∨x = .ret)∧∃ xs σ' lo hi,Z0H X.P e σ rs = some xs∧Z1C σ (Z1r xs) = some (r,σ')∧Has σ' lo hi L
theorem Has.drop (H:Has σ lo hi L):∀ n:Nat,Has σ lo hi (L.drop n)
 | 0 => H
 | n + 1 => by
  have h1:=(Has.drop H n).erase 0
  rwa [List.eraseIdx_zero,List.tail_drop] at h1
theorem EndsH.H {rs:List ResultVar} {xs:List PV} {r:PV} {x:Ex} {L' L0:List Res} (hx:x = .normal∨x = .ret) (H:Has σ lo hi L) (h:ResD X.P e L rs xs) (hr:ExpR L xs r L') (k:Nat) (hk:L'.drop k = L0):EndsH X rs r L0 x e σ:=by
 obtain ⟨σ',q,H'⟩:=expR_ok H hr
 exact ⟨hx,xs,σ',lo,hi,Z4J H h,q,hk ▸ H'.drop k⟩
end
end Go.Dn

namespace Go.Dn
open Go
def Z1J {S T:Type} (yb:S→T→Option (S × Nat)):S × Nat→T→Option ((S × Nat) × Bool):=fun s t => if s.2 = 0 then (yb s.1 t).map fun r => (r,r.2 == 0) else none
def cI (k:IntKind) (x:Int):List FV:=[.int k x]
def cB (x:Bool):List FV:=[.bool x]
def cS (x:ByteArray):List FV:=[.str x]
def cL {α:Type} (c:α→List FV) (x:List α):List FV:=[.sl (x.map c)]
abbrev w64 (x:Int):Int:=IntKind.i64.wrap x
def nz? (b:Int):Option Unit:=if b = 0 then none else some ()
theorem Z6D {b:Int} {u:Unit} (h:nz? b = some u):b ≠ 0:=by
 unfold nz? at h
 split at h
 ·cases h
 ·assumption
abbrev iAnd (k:IntKind) (x y:Int):Int:=k.wrap (BitVec.ofInt k.bits x &&& BitVec.ofInt k.bits y).toNat
abbrev iOr (k:IntKind) (x y:Int):Int:=k.wrap (BitVec.ofInt k.bits x ||| BitVec.ofInt k.bits y).toNat
abbrev iXor (k:IntKind) (x y:Int):Int:=k.wrap (BitVec.ofInt k.bits x ^^^ BitVec.ofInt k.bits y).toNat
abbrev iAndNot (k:IntKind) (x y:Int):Int:=k.wrap (BitVec.ofInt k.bits x &&& ~~~ BitVec.ofInt k.bits y).toNat
abbrev iMin (x y:Int):Int:=if y < x then y else x
abbrev iMax (x y:Int):Int:=if y > x then y else x
def winA (n:Int) (m:Nat):Option Unit:=if 0≤n∧n.toNat < m then some () else none
def winB (n:Int) (m:Nat):Option Unit:=if 0 < n∧n.toNat≤m then some () else none
def dbl {α:Type} (xs:List α) (a:Nat):List α:=xs.take a ++ (xs.take a).take (xs.length - a) ++ xs.drop (a + min a (xs.length - a))
def some? {α:Type} (l:List α):Option Unit:=match l with | [] => none | _ :: _ => some ()
def back? (l:List Bool) (i:Int):Option Unit:=if at? l i = some false then some () else none
def clone? {α:Type} (by_:Nat) (l:List α):Option (List α):=if l.length * by_≤room then some l else none
theorem clone_some {α:Type} {by_:Nat} {l r:List α} (h:clone? by_ l = some r):l.length * by_≤room∧r = l:=by
 unfold clone? at h
 split at h
 ·cases h;exact ⟨by assumption,rfl⟩
 ·cases h
def gcd? (a b:Int):Option Int:=if (0≤a∧a≤18446744073709551615)∧0≤b∧b≤18446744073709551615 then some (Int.gcd a b) else none
def Jx.elim {A R B:Type} (j:Jx A R) (g:R→Option B) (f:A→Option B):Option B:=match j with | .go a => f a | .ret r => g r
theorem jgo {A R B:Type} {a:A} {g:R→Option B} {f:A→Option B} {b:B} (h:(Jx.go a:Jx A R).elim g f = some b):f a = some b:=h
theorem jret {A R B:Type} {r:R} {g:R→Option B} {f:A→Option B} {b:B} (h:(Jx.ret r:Jx A R).elim g f = some b):g r = some b:=h
theorem or_T {c t:Bool} (h:c = true):PV.v (.bool true) = .v (.bool (c || t)):=by rw [h];rfl
theorem or_F {c t:Bool} (h:c = false):PV.v (.bool t) = .v (.bool (c || t)):=by rw [h];rfl
theorem Z3C {c t:Bool} (h:c = true):PV.v (.bool t) = .v (.bool (c && t)):=by rw [h];rfl
theorem Z3B {c t:Bool} (h:c = false):PV.v (.bool false) = .v (.bool (c && t)):=by rw [h];rfl
section
variable {X:Ctx} {n:Nat} {dr:Bool} {fn:FuncId} {ops:Array Oper} {base i:Nat} {l:List Oper} {e:Env} {σ:Heap} {K:Env→Heap→Prop} {Q:Ex→Env→Heap→Prop} {c a b:Code}
variable {d:Nat} {t t1 t2:TypeId} {p:String} {af:Array Edge} {x y z:Operand} {v:PV} {lo hi:Nat} {L:List Res}
theorem Ops.lenPt {α:Type} {c:α→List FV} {xs:List α} {el:TypeId} (hx:Z0 X e x = some (.v (.sl (xs.map c)))) (ht:tslice X.P t1 = some el) (hd:Nat.blt d n = true)
  (hk':Ops X n dr ops base (i + 1) l (set e d (.v (.int .i64 xs.length))) σ K):Ops X n dr ops base i (⟨some d,.call { callee:=.builtin .len,args:=#[x],argTypes:=#[t1] },t,p,af,none⟩ :: l) e σ K:=by
 refine Ops.lenP (af2:=#[]) hx ht hd ?_
 rw [YY];exact hk'
theorem Ops.Z8t {α:Type} {c:α→List FV} {xs:List α} {el et:TypeId} {sz:Nat} {lv:Bool} (H:Has σ lo hi L) (k:Nat) (hk:L[k]? = some (.sl v et sz (xs.map c) lv)) (hx:Z0 X e x = some v) (ht:tslice X.P t1 = some el)
  (ha:dr = true→∀ id,v.owner = some id→Seen ops base i id false) (hd:Nat.blt d n = true)
  (hk':Ops X n dr ops base (i + 1) l (set e d (.v (.int .i64 xs.length))) σ K):Ops X n dr ops base i (⟨some d,.call { callee:=.builtin .len,args:=#[x],argTypes:=#[t1] },t,p,af,none⟩ :: l) e σ K:=by
 refine Ops.lenS H k hk hx ht ha hd ?_
 rw [YY];exact hk'
theorem Z7O {v:PV} {id:Nat} (h:id ∈ vids v) (hv:∀ i v' o,v ≠ .ptr i v' o):v.owner = some id:=by
 cases v <;> simp [vids] at h
 ·exact h ▸ rfl
 ·exact absurd rfl (hv _ _ _)
 ·exact h ▸ rfl
theorem ZBg {sz:Nat} {w:PV} {ys:List (List FV)} (H:Has σ lo hi L) (h:Bring L sz w ys):∀ i v' o,w ≠ .ptr i v' o:=by
 intro i v' o e
 subst e
 cases h with
 | s k h => obtain ⟨_,⟨h,_⟩ | ⟨_,h,_⟩⟩:=H.sl h <;> cases h
theorem Ops.Z3Z {α:Type} {c:α→List FV} {xs ys r:List α} {el:TypeId} {sz by_:Nat} {w:PV} {zs:List PV} (H:Has σ lo hi L) (hlo:lo≤base + i) (hhi:base + i < hi) (k:Nat) (hk:L[k]? = some (.sl v el sz (xs.map c) true))
  (hx:Z0 X e x = some v) (hy:Z0 X e y = some w) (hb:Bring L sz w (ys.map c)) (hr:app? by_ xs ys = some r) (ht:tslice X.P t1 = some el) (hs:tsize X.P el = some sz) (hby:tbytes X.P el = some by_) (hz:tzero X.P el = some zs)
  (hc:(sz != 0 && by_ != 0 && zs.length == sz) = true)
  (ha:dr = true→(∀ id,v.owner = some id→Seen ops base i id true)∧(∀ id,w.owner = some id→Seen ops base i id true)) (hd:Nat.blt d n = true)
  (hk':∀ v' σ',Has σ' (base + i + 1) hi (L.set k (.sl v' el sz (r.map c) true))→Ops X n dr ops base (i + 1) l (set e d v') σ' K) :
  Ops X n dr ops base i (⟨some d,.call { callee:=.builtin .append,args:=#[x,y],argTypes:=#[t1,t1] },t,p,af,none⟩ :: l) e σ K:=by
 unfold app? at hr
 split at hr
 ·rename_i hroom;cases hr;refine Ops.appendS H hlo hhi k hk hx hy hb ht hs hby hz hc (by simpa using hroom) (fun h id hid => ?_) hd ?_
  ·rcases List.mem_append.1 hid with hid | hid
   ·refine (ha h).1 id (Z7O hid ?_);intro i v' o e;subst e;obtain ⟨_,⟨h,_⟩ | ⟨_,h,_⟩⟩:=H.sl hk <;> cases h
   ·exact (ha h).2 id (Z7O hid (ZBg H hb))
  ·rw [Y00] at hk';exact hk'
 ·cases hr
def cpy {α:Type} (xs ys:List α):List α:=ys.take (min ys.length xs.length) ++ xs.drop (min ys.length xs.length)
theorem Ops.storeSt {α:Type} {c:α→List FV} {xs:List α} {u u':α} {id:Nat} {et:TypeId} {sz j m off ver:Nat} {zs:List FV} {iv:Int} {w:PV} (H:Has σ lo hi L) (k:Nat) (hk:L[k]? = some (.sl v et sz (xs.map c) true)) (hv:v = .buf id (xs.map c).length sz) (hver:ver = (xs.map c).length * sz)
  (hu:at? xs iv = some u) (hx:Z0 X e x = some (.ptr id ver off)) (hoff:off = iv.toNat * sz + j) (hy:Z0 X e y = some w) (hw:w.cells = some (vs zs)) (hm:tsize X.P t1 = some m) (hz:zs.length = m) (hj:Nat.ble (j + m) sz = true)
  (hu':(c u).take j ++ zs ++ (c u).drop (j + zs.length) = c u') (ha:dr = true→Seen ops base i id true)
  (hk':∀ σ',Has σ' lo hi (L.set k (.sl v et sz ((xs.set iv.toNat u').map c) true))→Ops X n dr ops base (i + 1) l e σ' K):Ops X n dr ops base i (⟨none,.store t1 x y,t,p,af,none⟩ :: l) e σ K:=by
 refine Ops.storeS H k hk hv hver (at?_map hu) hx hoff hy hw hm hz hj hu' ha ?_
 rw [List.map_set] at hk'
 exact hk'
theorem Ops.binA {op:BinOp} {u w:PV} {r:FV} (hx:Z0 X e x = some u) (hy:Z0 X e y = some w) (hr:binD X.P σ op t1 u w = some r) (ha:dr = true→Zp X ops base i ⟨some d,.binOp op t1 x y t2,t,p,af,none⟩ e = true) (hd:Nat.blt d n = true)
  (hk:Ops X n dr ops base (i + 1) l (set e d (.v r)) σ K):Ops X n dr ops base i (⟨some d,.binOp op t1 x y t2,t,p,af,none⟩ :: l) e σ K :=
 .plain (x:=.v r) (σ1:=σ) (by simp only [Z5,hx,hy,hr,Y8]) ha hd hk
theorem ask_eqA {op:BinOp} {us ws:List PV} {o:Oper} (hx:Z0 X e x = some (.agg us)) (hy:Z0 X e y = some (.agg ws)) (hop:Zs (.binOp op t1 x y t2) = .read) (ho:o.op = .binOp op t1 x y t2):Zp X ops base i o e = true :=
 Z4W (by rw [ho];exact hop) (by rw [ho];simp only [touched,Zf,YO,YT,hx,hy,vids,YQ])
theorem Ops.buildA {parts:Array (Nat × Operand)} {cs:List PV} (hb:ZAh X e t1 parts.toList = some (.agg cs)) (hd:Nat.blt d n = true) (hk:Ops X n dr ops base (i + 1) l (set e d (.agg cs)) σ K):Ops X n dr ops base i (⟨some d,.build t1 parts,t,p,af,none⟩ :: l) e σ K :=
 .plain (x:=.agg cs) (σ1:=σ) (by simp only [Z5,hb,Y8]) (fun _ => Z16 rfl) hd hk
theorem Ops.Z7M {f:FuncId} {first caps:Array Operand} {fs cs:List PV} (hf:ZY X e first.toList = some fs) (hc:ZY X e caps.toList = some cs) (hn:(fs.isEmpty && cs.isEmpty) = false) (hd:Nat.blt d n = true)
  (hk:Ops X n dr ops base (i + 1) l (set e d (.clo f fs cs)) σ K):Ops X n dr ops base i (⟨some d,.makeFunc (.func f) first caps,t,p,af,none⟩ :: l) e σ K:=by
 refine .plain (x:=.clo f fs cs) (σ1:=σ) ?_ (fun _ => Z16 rfl) hd hk
 simp only [Z5,hf,hc]
 cases fs <;> cases cs <;> first | rfl | cases hn
theorem Ops.min2 {k:IntKind} {u w:Int} {ts:Array TypeId} (hx:Z0 X e x = some (.v (.int k u))) (hy:Z0 X e y = some (.v (.int k w))) (hd:Nat.blt d n = true) (hk:Ops X n dr ops base (i + 1) l (set e d (.v (.int k (iMin u w)))) σ K) :
  Ops X n dr ops base i (⟨some d,.call { callee:=.builtin .min,args:=#[x,y],argTypes:=ts },t,p,af,none⟩ :: l) e σ K :=
 .plain (x:=.v (.int k (iMin u w))) (σ1:=σ) (by simp only [Z5,Zx,ZY,hx,hy,Y0,Z0X,Z40,if_true,Y8]) (fun _ => Z16 rfl) hd hk
theorem Ops.max2 {k:IntKind} {u w:Int} {ts:Array TypeId} (hx:Z0 X e x = some (.v (.int k u))) (hy:Z0 X e y = some (.v (.int k w))) (hd:Nat.blt d n = true) (hk:Ops X n dr ops base (i + 1) l (set e d (.v (.int k (iMax u w)))) σ K) :
  Ops X n dr ops base i (⟨some d,.call { callee:=.builtin .max,args:=#[x,y],argTypes:=ts },t,p,af,none⟩ :: l) e σ K :=
 .plain (x:=.v (.int k (iMax u w))) (σ1:=σ) (by simp only [Z5,Zx,ZY,hx,hy,Y0,Z0X,Z40,if_true,Y8]) (fun _ => Z16 rfl) hd hk
theorem cut?_some {α:Type} {xs r:List α} {i j:Int} (h:cut? xs i j = some r):0≤i∧i≤j∧j≤xs.length∧r = (xs.take j.toNat).drop i.toNat:=by
 unfold cut? at h
 split at h
 ·rename_i h1;cases h;exact ⟨h1.1,h1.2.1,h1.2.2,rfl⟩
 ·cases h
theorem ZAt {α:Type} {c:α→List FV} {xs r:List α} {i0 j0:Int} {P:Program} {el:TypeId} {m:Nat} {lo hi:Option PV} (h:cut? xs i0 j0 = some r) (ht:tslice P t1 = some el) (hs:tsize P el = some m) (hm:∀ u,(c u).length = m)
  (hlo:(match lo with | none => some 0 | some v => Z49 v) = some i0.toNat) (hhi:(match hi with | none => some xs.length | some v => Z49 v) = some j0.toNat):Z8G P t1 (.v (.sl (xs.map c))) lo hi none = some (.v (.sl (r.map c))):=by
 obtain ⟨h1,h2,h3,rfl⟩:=cut?_some h
 have hc:i0.toNat≤j0.toNat∧j0.toNat≤xs.length∧Z6F (xs.map c) i0.toNat m = true:=by
  refine ⟨by omega,by omega,?_⟩
  simp only [Z6F,YP];cases xs[i0.toNat]? with
  | none => rfl
  | some u => simp [hm]
 have hc':xs.length = j0.toNat→i0.toNat≤j0.toNat∧j0.toNat≤j0.toNat∧Z6F (xs.map c) i0.toNat m = true:=fun _ => ⟨hc.1,YB _,hc.2.2⟩
 cases lo <;> cases hi <;> simp only [Y5] at hlo hhi <;> simp only [Z8G,ht,Y0,hs,YY,hlo,hhi,List.map_drop,List.map_take] <;> first | rw [if_pos hc] | rw [if_pos (hc' hhi)]
theorem Z6s {k:IntKind} {m:Int} (h:0≤m):Z49 (.v (.int k m)) = some m.toNat:=by simp [Z49,h]
theorem Ops.sliceP10 {α:Type} {c:α→List FV} {xs r:List α} {el:TypeId} {m:Nat} {k:IntKind} {i0:Int} (h:cut? xs i0 xs.length = some r) (hx:Z0 X e x = some (.v (.sl (xs.map c)))) (hl:Z0 X e y = some (.v (.int k i0))) (ht:tslice X.P t1 = some el) (hs:tsize X.P el = some m) (hm:∀ u,(c u).length = m) (hd:Nat.blt d n = true)
  (hk:Ops X n dr ops base (i + 1) l (set e d (.v (.sl (r.map c)))) σ K):Ops X n dr ops base i (⟨some d,.slice t1 x (some y) none none,t,p,af,none⟩ :: l) e σ K:=by
 refine .plain (x:=.v (.sl (r.map c))) (σ1:=σ) ?_ (fun _ => ?_) hd hk
 ·simp only [Z5,hx,hl,optD,Y8,ZAt h ht hs hm (lo:=some (.v (.int k i0))) (hi:=none) (Z6s (cut?_some h).1) (by simp)]
 ·exact ask0 (by simp only [Zj,Zs,hx])
theorem Ops.sliceP01 {α:Type} {c:α→List FV} {xs r:List α} {el:TypeId} {m:Nat} {k:IntKind} {j0:Int} (h:cut? xs 0 j0 = some r) (hx:Z0 X e x = some (.v (.sl (xs.map c)))) (hl:Z0 X e y = some (.v (.int k j0))) (ht:tslice X.P t1 = some el) (hs:tsize X.P el = some m) (hm:∀ u,(c u).length = m) (hd:Nat.blt d n = true)
  (hk:Ops X n dr ops base (i + 1) l (set e d (.v (.sl (r.map c)))) σ K):Ops X n dr ops base i (⟨some d,.slice t1 x none (some y) none,t,p,af,none⟩ :: l) e σ K:=by
 refine .plain (x:=.v (.sl (r.map c))) (σ1:=σ) ?_ (fun _ => ?_) hd hk
 ·have h':=cut?_some h
  simp only [Z5,hx,hl,optD,Y8,ZAt h ht hs hm (lo:=none) (hi:=some (.v (.int k j0))) rfl (Z6s (by omega))]
 ·exact ask0 (by simp only [Zj,Zs,hx])
end
inductive Sub:List Res→List Res→Prop
 | nil {L:List Res}:Sub [] L
 | cons {c:Res} {C L:List Res} (k:Nat) (h:L[k]? = some c) (t:Sub C L):Sub (c :: C) L
theorem Sub.push {C L:List Res} {r:Res} (h:Sub C L):Sub C (r :: L):=by
 induction h with
 | nil => exact .nil
 | cons k h t ih => exact .cons (k + 1) h ih
theorem Sub.inv {c:Res} {C L:List Res} (h:Sub (c :: C) L):∃ k:Nat,L[k]? = some c∧Sub C L:=by
 cases h with
 | cons k h t => exact ⟨k,h,t⟩
noncomputable def callV (X:Ctx) (cv:PV) (args:List PV) (σ:Heap):Option (PV × Heap) :=
 match cv with
 | .v (.fn f) => Z0M X (.fn f) args σ
 | .clo f first caps => Z0M X (.fn f) (first ++ args ++ caps) σ
 | _ => none
def FnH (X:Ctx) (f:FuncId) (args:List PV) (r:PV) (C:List Res):Prop :=
 ∀ σ lo hi L,Sub C L→Has σ lo hi L→∃ σ',Z0M X (.fn f) args σ = some (r,σ')∧Has σ' lo hi L
def CloH (X:Ctx) (cv:PV) (args:List PV) (r:PV) (C:List Res):Prop :=
 ∀ σ lo hi L,Sub C L→Has σ lo hi L→∃ σ',callV X cv args σ = some (r,σ')∧Has σ' lo hi L
section
variable {X:Ctx} {f:FuncId} {args:List PV} {r:PV} {C:List Res}
theorem Fn.toH (h:Fn X f args r) (C:List Res):FnH X f args r C:=fun σ lo hi L _ H => ⟨σ,h.call σ,H⟩
theorem CloH.fn (h:FnH X f args r C):CloH X (.v (.fn f)) args r C:=h
theorem CloH.clo {first caps:List PV} (h:FnH X f (first ++ args ++ caps) r C):CloH X (.clo f first caps) args r C:=h
theorem CloH.weak {cv:PV} (h:CloH X cv args r []):CloH X cv args r C:=fun σ lo hi L _ H => h σ lo hi L .nil H
theorem all_nil {α:Type} {p:α→Bool}:([] : List α).all p = true:=rfl
theorem Z5J {α:Type} {p:α→Bool} {x:α} {l:List α} (h:p x = true) (t:l.all p = true):(x :: l).all p = true:=by rw [Yw,h,t];rfl
theorem Z4s {α:Type} {p:α→Bool} {x:α} {l:List α} (h:l.all p = true) (i:Nat) (hx:l[i]? = some x):p x = true:=List.all_eq_true.1 h x (Y6 hx)
def PV.still:PV→Bool
 | .ptr _ _ _ => true
 | .clo _ _ _ => true
 | .yld _ => true
 | x => x.pure
theorem expArg_still {σ:Heap} {x:PV} (h:x.still = true):Z4S σ x = some (x,σ):=by
 cases x <;> first | rfl | exact Z7p h
theorem Z6S {σ:Heap}:∀ {xs:List PV},xs.all PV.still = true→Z13 σ xs = some (xs,σ)
 | [],_ => rfl
 | x :: xs,h => by
  simp only [Yw,Y9] at h;simp only [Z13,expArg_still h.1,Y0,Z6S h.2]
theorem FnH.of {fu:Func} {c:Code} {m:Nat} (hf:X.P.funcs[f]? = some fu) (hb:fu.body = some c) (hi:X.intr f args = none) (hk:X.keep f = false) (ho:X.opn f = false) (hs:args.all PV.still = true) (hm:max fu.ntmps args.length = m)
  (hp:args.all PV.pure = true→C = [])
  (h:∀ σ L,Sub C L→Hs σ L→Runs X m f c (Z72 args) σ (EndsH X fu.results.toList r L)):FnH X f args r C:=by
 subst hm
 intro σ lo hi' L hC H
 by_cases hpu:args.all PV.pure = true
 ·have hC0:=hp hpu
  subst hC0;obtain ⟨lf,x,e',σ1,h1,hE⟩:=(h Heap.empty [] .nil (Has.nil (YB _))).run
  obtain ⟨hx,xs,σ2,_,_,h2,h3,_⟩:=hE.out
  refine ⟨σ,Z36 (lf:=lf) ?_,H⟩
  have hbody:Z1R X (Z0M X) lf f args Heap.empty = some (Z1r xs,σ1):=by
   simp only [Z1R,hf,hb,h1]
   rcases hx with rfl | rfl <;> simp only [h2,Y8]
  simp only [Z5Z,hi,hk,YA,if_false,Z3T hpu,ho,hpu,if_true,hbody,Y0,h3,Y8,ite_self]
 ·obtain ⟨lf,x,e',σ1,h1,hE⟩:=(h σ (.floor hi' :: L) hC.push (H.all.floor hi' H.le)).run
  obtain ⟨hx,xs,σ2,lo2,hi2,h2,h3,H2⟩:=hE.out
  refine ⟨σ2,Z36 (lf:=lf) ?_,?_⟩
  ·have hbody:Z1R X (Z0M X) lf f args σ = some (Z1r xs,σ1):=by
    simp only [Z1R,hf,hb,h1]
    rcases hx with rfl | rfl <;> simp only [h2,Y8]
   simp only [Z5Z,hi,hk,Y0m,YA,if_false,Z6S hs,ho,if_neg hpu,hbody,Y0,h3]
  ·have hfl:hi'≤σ2.nx:=H2.holds 0 _ rfl
   have H3:=H2.erase 0
   exact ⟨H3.holds,fun k r hk id ho => ⟨(H.lt k r hk id ho).1,(H3.lt k r hk id ho).2⟩,H.sep,hfl⟩
end
section
variable {X:Ctx} {n:Nat} {dr:Bool} {fn:FuncId} {ops:Array Oper} {base i:Nat} {l:List Oper} {e:Env} {σ:Heap} {K:Env→Heap→Prop}
variable {d:Nat} {t:TypeId} {p:String} {af:Array Edge} {x:Operand} {lo hi:Nat} {L C:List Res}
theorem Ops.callH {f:FuncId} {args:Array Operand} {ts:Array TypeId} {ys:List PV} {r:PV} (H:Has σ lo hi L) (ha:ZY X e args.toList = some ys) (hf:FnH X f ys r C) (hs:Sub C L)
  (hdr:dr = true→(ys.all PV.pure && !X.opn f && !X.keep f) = true∨Z34 (Region.before ops) ops i = true) (hd:Nat.blt d n = true)
  (hk:∀ σ',Has σ' lo hi L→Ops X n dr ops base (i + 1) l (set e d r) σ' K) :
  Ops X n dr ops base i (⟨some d,.call { callee:=.value (.func f),args:=args,argTypes:=ts },t,p,af,none⟩ :: l) e σ K:=by
 obtain ⟨σ',q1,q2⟩:=hf σ lo hi L hs H
 refine .plain (x:=r) (σ1:=σ') (by simp only [Z5,Zx,ha,Z0,q1]) (fun h => ?_) hd (hk σ' q2)
 rcases hdr h with this | this
 case inr => exact Z5O this
 simp only [Y9,YV] at this
 exact ask0 (by simp only [Zj,Zs,ha,Z6G,Z0,ZBI this.1.1,this.1.2,this.2,Y0l,Y0P])
theorem Ops.callV {cv:PV} {args:Array Operand} {ts:Array TypeId} {ys:List PV} {r:PV} (H:Has σ lo hi L) (hx:Z0 X e x = some cv) (ha:ZY X e args.toList = some ys) (hf:CloH X cv ys r C) (hs:Sub C L)
  (hdr:dr = true→Z34 (Region.before ops) ops i = true) (hd:Nat.blt d n = true)
  (hk:∀ σ',Has σ' lo hi L→Ops X n dr ops base (i + 1) l (set e d r) σ' K) :
  Ops X n dr ops base i (⟨some d,.call { callee:=.value x,args:=args,argTypes:=ts },t,p,af,none⟩ :: l) e σ K:=by
 obtain ⟨σ',q1,q2⟩:=hf σ lo hi L hs H
 refine .plain (x:=r) (σ1:=σ') ?_ (fun h => Z5O (hdr h)) hd (hk σ' q2)
 simp only [Z5,Zx,ha,hx]
 unfold Dn.callV at q1
 split at q1
 ·exact q1
 ·exact q1
 ·cases q1
end
end Go.Dn

namespace Go.Dn
open Go Go.ChangeShapes
def consec (P:Program):Nat→List Field→Option Nat
 | o,[] => some o
 | o,f :: fs => if f.offset = o then consec P (o + P.cellsOf f.type) fs else none
def supp (P:Program):Nat→TypeId→Bool
 | 0,_ => false
 | d + 1,t =>
  match P.underlying t with
  | some .bool => P.cellsOf t == 1
  | some (.int _) => P.cellsOf t == 1
  | some .string => P.cellsOf t == 1
  | some (.slice e) => P.cellsOf t == 1 && P.cellsOf e != 0 && supp P d e
  | some (.struct fs) => fs.toList.all (fun f => supp P d f.type) && (consec P 0 fs.toList == some (P.cellsOf t))
  | _ => false
def OKC (P:Program):Nat→TypeId→List FV→Prop
 | 0,_,_ => False
 | d + 1,t,ys =>
  match P.underlying t with
  | some .bool => ∃ b,ys = [.bool b]
  | some (.int k) => ∃ m,ys = [.int k m]∧(Lit.int k m).wf = true
  | some .string => ∃ s,ys = [.str s]∧s.size≤maxLen
  | some (.slice e) => ∃ xs,ys = [.sl xs]∧xs.length * P.bytesOf e≤reachBytes∧∀ x ∈ xs,OKC P d e x
  | some (.struct fs) => ys.length = P.cellsOf t∧∀ f ∈ fs.toList,OKC P d f.type ((ys.drop f.offset).take (P.cellsOf f.type))
  | _ => False
section
variable {H:Type} {enc:TypeId × Value→H} {P:Program} {w:World} {base:Nat} {spare:Nat→Bool} {held:Bool} {Im:Nat→Prop}
def Cov (w:World) (Im:Nat→Prop) (ys:List FV) (cs:List Value):Prop:=ys.length = cs.length∧∀ (i:Nat) (y:FV) (v:Value),ys[i]? = some y→cs[i]? = some v→FVR w Im y v
theorem Cov.one {y:FV} {v:Value} (h:FVR w Im y v):Cov w Im [y] [v]:=⟨rfl,fun i y' v' hy hv => by
 cases i with
 | zero => cases hy;cases hv;exact h
 | succ i => simp at hy⟩
theorem consec_le:∀ {fs:List Field} {o m:Nat},consec P o fs = some m→o≤m
 | [],o,m,h => by simp [consec] at h;omega
 | f :: fs,o,m,h => by
  simp only [consec] at h
  split at h
  ·have:=consec_le h;omega
  ·cases h
theorem fields_ok {d n:Nat} {cs:List Value} (ih:∀ (t:TypeId) (cs:List Value) (x:DataW H × List MemPlace),supp P d t = true→DataW.trod enc P w base spare held n t cs = some x→(∀ p ∈ x.2,Im p.block)→(∀ n ∈ x.1.weights P t,n≤reachBytes)→∃ ys,Cov w Im ys cs∧OKC P d t ys) :
  ∀ (fs:List Field) (o m:Nat),consec P o fs = some m→m≤cs.length→(∀ f ∈ fs,supp P d f.type = true) →
   (∀ f ∈ fs,∃ x,DataW.trod enc P w base spare held n f.type ((cs.drop f.offset).take (P.cellsOf f.type)) = some x∧(∀ p ∈ x.2,Im p.block)∧∀ n ∈ x.1.weights P f.type,n≤reachBytes) →
   ∃ ys,Cov w Im ys ((cs.drop o).take (m - o))∧∀ f ∈ fs,o≤f.offset∧OKC P d f.type ((ys.drop (f.offset - o)).take (P.cellsOf f.type))
 | [],o,m,hc,hm,_,_ => by
  simp [consec] at hc;subst hc;exact ⟨[],⟨by simp,by simp⟩,by simp⟩
 | f :: fs,o,m,hc,hm,hs,hx => by
  simp only [consec] at hc
  split at hc
  ·rename_i ho;subst ho;obtain ⟨x,hx1,hx2,hx3⟩:=hx f YG
   obtain ⟨ys,⟨hl,hv⟩,hok⟩:=ih f.type _ x (hs f YG) hx1 hx2 hx3
   have hle:=consec_le hc
   obtain ⟨zs,⟨hl2,hv2⟩,hok2⟩:=fields_ok ih fs _ m hc hm (fun g hg => hs g (YH _ hg)) (fun g hg => hx g (YH _ hg))
   simp only [YS,List.length_drop] at hl hl2;have hy:ys.length = P.cellsOf f.type:=by omega
   refine ⟨ys ++ zs,⟨by simp only [Ym,YS,List.length_drop];omega,fun i y v h1 h2 => ?_⟩,fun g hg => ?_⟩
   ·by_cases hi:i < ys.length
    ·rw [YK hi] at h1;refine hv i y v h1 ?_;rw [YR] at h2 ⊢;rw [if_pos (by omega)] at h2 ⊢
     exact h2
    ·rw [YN (by omega)] at h1
     have hi2:i - ys.length < zs.length:=by
      rcases YI (i - ys.length) zs.length with h | h
      ·exact h
      ·rw [YZ h] at h1;cases h1
     refine hv2 (i - ys.length) y v h1 ?_;rw [YR,Ys] at h2 ⊢;rw [if_pos (by omega)] at h2 ⊢
     rw [← h2]
     congr 1;omega
   ·rcases List.mem_cons.1 hg with rfl | hg
    ·refine ⟨YB _,?_⟩;rw [Nat.sub_self,List.drop_zero,Y0p (by omega),Y0q (by omega)]
     exact hok
    ·obtain ⟨h1,h2⟩:=hok2 g hg
     refine ⟨by omega,?_⟩
     have:(ys ++ zs).drop (g.offset - f.offset) = zs.drop (g.offset - (f.offset + P.cellsOf f.type)):=by
      rw [List.drop_append,List.drop_eq_nil_of_le (by omega),List.nil_append]
      congr 1;omega
     rw [this];exact h2
  ·cases hc
theorem ZBd {e:TypeId}:∀ {ds:List (DataW H)} {d:DataW H},d ∈ ds→∀ n ∈ d.weights P e,n ∈ DataW.weightsAll P e ds
 | d0 :: ds,d,h,n,hn => by
  simp only [DataW.weightsAll,Yu]
  rcases List.mem_cons.1 h with rfl | h
  ·exact .inl hn
  ·exact .inr (ZBd h n hn)
def Sized (P:Program) (t:TypeId) (d:DataW H):Prop:=∀ n ∈ d.weights P t,n≤reachBytes
theorem OKC.length:∀ {d:Nat} {t:TypeId} {ys:List FV},supp P d t = true→OKC P d t ys→ys.length = P.cellsOf t
 | 0,t,ys,h,_ => by simp [supp] at h
 | d + 1,t,ys,h,ho => by
  unfold supp at h;unfold OKC at ho
  split at h
  all_goals (rename_i hu;simp only [hu] at ho)
  ·obtain ⟨b,rfl⟩:=ho;simp at h;simp [h]
  ·obtain ⟨b,rfl,_⟩:=ho;simp at h;simp [h]
  ·obtain ⟨b,rfl,_⟩:=ho;simp at h;simp [h]
  ·obtain ⟨b,rfl,_⟩:=ho;simp at h;simp [h]
  ·exact ho.1
theorem Z68:∀ (d n:Nat) (t:TypeId) (cs:List Value) (x:DataW H × List MemPlace),supp P d t = true→DataW.trod enc P w base spare held n t cs = some x→(∀ p ∈ x.2,Im p.block)→(∀ n ∈ x.1.weights P t,n≤reachBytes)→∃ ys,Cov w Im ys cs∧OKC P d t ys
 | 0,n,t,cs,x,hs,h,hp,hw => by simp [supp] at hs
 | d + 1,n,t,cs,x,hs,h,hp,hw => by
  unfold supp at hs
  split at hs
  ·rename_i hu;cases n with
   | zero => simp [DataW.trod] at h
   | succ n =>
    simp only [DataW.trod,hu] at h
    split at h <;> simp_all
    rename_i b;exact ⟨[.bool b],Cov.one (.bool b),by simp [OKC,hu]⟩
  ·rename_i k hu;cases n with
   | zero => simp [DataW.trod] at h
   | succ n =>
    simp only [DataW.trod,hu] at h
    split at h <;> try (simp_all;done)
    rename_i k2 m he1 ;simp only [Y5,TypeDesc.int.injEq] at he1;subst he1
    split at h
    ·rename_i k' n' hk;obtain ⟨rfl,hwf⟩:=hk
     exact ⟨[.int _ _],Cov.one (.int _ _),by simp [OKC,hu,hwf]⟩
    ·cases h
  ·rename_i hu;cases n with
   | zero => simp [DataW.trod] at h
   | succ n =>
    simp only [DataW.trod,hu] at h
    split at h <;> try (simp_all;done)
    split at h
    ·rename_i s hk;exact ⟨[.str _],Cov.one (.str _),by simp [OKC,hu,hk]⟩
    ·cases h
  ·rename_i e hu;simp only [Y9,beq_iff_eq,bne_iff_ne,ne_eq] at hs
   rcases DataW.trod_slice hu h with ⟨rfl,rfl⟩ | ⟨a,len,cap,elems,rest,m,rfl,rfl,rfl,hb,hl,hm,hlen,hel,hsp,hns⟩
   ·exact ⟨[.sl []],Cov.one .nil,by simp [OKC,hu]⟩
   ·by_cases h0:len = 0
    ·subst h0;exact ⟨[.sl []],Cov.one (.empty a cap),by simp [OKC,hu]⟩
    ·have each:∀ i,i < len→∃ cs' ys,w.cells? base (a.add (i * P.cellsOf e)) (P.cellsOf e) = some cs'∧Cov w Im ys cs'∧OKC P d e ys:=by
      intro i hi;have h1:=hel i hi
      obtain ⟨y,hy⟩ : ∃ y,elems[i]? = some y:=⟨_,Y2 (by omega)⟩
      rw [hy,Y4] at h1;obtain ⟨cs',hcs,ht⟩:=h1
      obtain ⟨ys,h2,h3⟩:=Z68 d m e cs' y hs.2 ht (fun p hpm => hp p (by
       refine Yn _ (List.mem_flatMap.2 ⟨y,Yf _ (Y6 hy),hpm⟩))) (fun n hn => hw n (by
       simp only [DataW.weights,hu,List.mem_cons,Yu];exact .inr (.inl (ZBd (List.mem_map.2 ⟨y,Y6 hy,rfl⟩) n hn))))
      exact ⟨cs',ys,hcs,h2,h3⟩
     let F:Nat→List FV:=fun i => if hi:i < len then (each i hi).choose_spec.choose else []
     let C:Nat→List Value:=fun i => if hi:i < len then (each i hi).choose else []
     have hF:∀ i,i < len→w.cells? base (a.add (i * P.cellsOf e)) (P.cellsOf e) = some (C i)∧Cov w Im (F i) (C i)∧OKC P d e (F i):=by
      intro i hi;simp only [F,C,dif_pos hi];exact (each i hi).choose_spec.choose_spec
     have hFl:∀ i,i < len→(F i).length = P.cellsOf e:=fun i hi => OKC.length hs.2 (hF i hi).2.2
     have hxs:∀ y ∈ (List.range len).map F,∃ i,i < len∧y = F i:=fun y hy => by
      obtain ⟨i,hi,rfl⟩:=List.mem_map.1 hy
      exact ⟨i,List.mem_range.1 hi,rfl⟩
     refine ⟨[.sl ((List.range len).map F)],Cov.one ?_,?_⟩
     ·by_cases hz:P.cellsOf e = 0
      ·exact absurd hz hs.1.2
      ·have hsp0:a.spot = none:=by
        have h1:=(World.cells?_some (hF 0 (by omega)).1).2.2 0 (by omega)
        have hl0:=(World.cells?_some (hF 0 (by omega)).1).2.1
        simp only [Nat.zero_mul,Addr.add,if_true] at h1;unfold World.cell? at h1
        split at h1
        ·split at h1
         ·have:(C 0)[0]? = none:=h1.symm
          rw [List.getElem?_eq_none_iff] at this;omega
         ·rename_i hq;simpa using hq
        ·have:(C 0)[0]? = none:=h1.symm
         rw [List.getElem?_eq_none_iff] at this;omega
       obtain ⟨bl,off,spot⟩:=a
       simp only at hsp0;subst hsp0;have hcov:=FVR.sl (w:=w) (Imm:=Im) ((List.range len).map F) bl off cap (P.cellsOf e) (fun i j => (C i).getD j Go.undef) ?_ (by simpa using hl) (fun y hy => by
        obtain ⟨i,hi,rfl⟩:=hxs y hy;exact hFl i hi) (fun i j hi hj => ?_) (fun i j y x h1 h2 => ?_)
       ·simpa using hcov
       ·refine hp (.cell bl (off + 0)) (Yf _ ?_);simp only [MemPlace.row,List.mem_map,List.mem_range];refine ⟨0,?_,rfl⟩;exact Nat.mul_pos (by omega) (by omega)
       ·simp only [YY,Y0C] at hi;have h1:=(World.cells?_some (hF i hi).1).2.2 j hj
        have hl0:=(World.cells?_some (hF i hi).1).2.1
        have e1:(Addr.add (Addr.add ⟨bl,off,none⟩ (i * P.cellsOf e)) j) = ⟨bl,off + i * P.cellsOf e + j,none⟩:=by
         simp only [Z46]
        rw [e1] at h1;rw [h1,Y2 (by omega)]
        simp [List.getD,Y2 (show j < (C i).length by omega)]
       ·rw [YP,Y1] at h1;obtain ⟨i',hi',rfl⟩:=h1
        have hi2:=List.mem_range.1 (Y6 hi')
        have:i' = i:=by
         rw [List.getElem?_eq_some_iff] at hi';obtain ⟨q1,q2⟩:=hi'
         simpa using q2.symm
        subst this;have hj:j < (C i').length:=by
         rw [← (hF i' hi2).2.1.1];exact (List.getElem?_eq_some_iff.1 h2).1
        refine (hF i' hi2).2.1.2 j x _ h2 ?_;rw [Y2 hj];simp [List.getD,Y2 hj]
     ·simp only [OKC,hu];refine ⟨_,rfl,?_,fun y hy => ?_⟩
      ·have h1:=hw ((elems.length + rest.length) * P.bytesOf e) (by simp [DataW.weights,hu])
       refine Yd (YL _ ?_) h1
       simp;omega
      obtain ⟨i,hi,rfl⟩:=hxs y hy
      exact (hF i hi).2.2
  ·rename_i fs hu;simp only [Y9,beq_iff_eq,YJ] at hs;obtain ⟨xs,m,rfl,rfl,hl,hx,hf⟩:=DataW.trod_struct hu h
   obtain ⟨ys,hc,ho⟩:=fields_ok (cs:=cs) (fun t cs x h1 h2 h3 h4 => Z68 d m t cs x h1 h2 h3 h4) fs.toList 0 (P.cellsOf t) hs.2 (by omega) hs.1 (fun f hfm => by
    obtain ⟨i,hi⟩:=YC hfm
    have hi':fs[i]? = some f:=by simpa using hi
    have h1:=hf i f hi'
    have hlt:i < xs.length:=by
     have:=(Array.getElem?_eq_some_iff.1 hi').1
     omega
    rw [Y2 hlt] at h1;exact ⟨_,h1,fun p hpm => hp p (List.mem_flatMap.2 ⟨_,YW hlt,hpm⟩),fun n hn => hw n (by
     simp only [DataW.weights,hu];exact DataW.weights_mem_each (j:=i) (t:=f.type) (d:=(xs[i]).1) (by simp [hi]) (by simp [hlt]) n hn)⟩)
   rw [List.drop_zero,Nat.sub_zero,Y0q (by omega)] at hc
   refine ⟨ys,hc,?_⟩;simp only [OKC,hu];exact ⟨hc.1.trans hl,fun f hfm => by simpa using (ho f hfm).2⟩
  ·cases hs
end
def okI (k:IntKind) (x:Int):Prop:=k.min≤x∧x≤k.max
def okB (_:Bool):Prop:=True
def okS (x:ByteArray):Prop:=x.size≤maxLen
def okL {α:Type} (b:Nat) (p:α→Prop) (xs:List α):Prop:=xs.length * b≤reachBytes∧∀ x ∈ xs,p x
def Dec (P:Program) {α:Type} (t:TypeId) (c:α→List FV) (ok:α→Prop):Prop:=∀ d ys,OKC P d t ys→∃ x,ys = c x∧ok x
section
variable {P:Program} {t e:TypeId}
theorem Dec.int {k:IntKind} (h:P.underlying t = some (.int k)):Dec P t (cI k) (okI k):=fun d ys ho => by
 cases d with
 | zero => exact ho.elim
 | succ d =>
  simp only [OKC,h] at ho;obtain ⟨m,rfl,hw⟩:=ho
  exact ⟨m,rfl,by simpa [Lit.wf,okI] using hw⟩
theorem Dec.bool (h:P.underlying t = some .bool):Dec P t cB okB:=fun d ys ho => by
 cases d with
 | zero => exact ho.elim
 | succ d =>
  simp only [OKC,h] at ho;obtain ⟨m,rfl⟩:=ho
  exact ⟨m,rfl,trivial⟩
theorem Dec.str (h:P.underlying t = some .string):Dec P t cS okS:=fun d ys ho => by
 cases d with
 | zero => exact ho.elim
 | succ d =>
  simp only [OKC,h] at ho;obtain ⟨m,rfl,hw⟩:=ho
  exact ⟨m,rfl,hw⟩
theorem Dec.sl {α:Type} {c:α→List FV} {ok:α→Prop} {b:Nat} (h:P.underlying t = some (.slice e)) (hb:P.bytesOf e = b) (he:Dec P e c ok):Dec P t (cL c) (okL b ok):=fun d ys ho => by
 cases d with
 | zero => exact ho.elim
 | succ d =>
  simp only [OKC,h] at ho;obtain ⟨xs,rfl,hl,hx⟩:=ho
  have:∀ xs:List (List FV),(∀ x ∈ xs,OKC P d e x)→∃ as_:List α,xs = as_.map c∧∀ a ∈ as_,ok a:=by
   intro xs
   induction xs with
   | nil => intro _;exact ⟨[],rfl,by simp⟩
   | cons x xs ih =>
    intro hx;obtain ⟨a,rfl,ha⟩:=he d x (hx x YG)
    obtain ⟨as_,rfl,has⟩:=ih fun y hy => hx y (YH _ hy)
    exact ⟨a :: as_,rfl,fun b hb => by
     rcases List.mem_cons.1 hb with rfl | hb
     ·exact ha
     ·exact has b hb⟩
  obtain ⟨as_,rfl,has⟩:=this xs hx
  exact ⟨as_,rfl,by subst hb;simpa using hl,has⟩
theorem fld (ys:List FV) (o s:Nat):(ys.drop o).take s ++ ys.drop (o + s) = ys.drop o:=by
 rw [← List.drop_drop];exact Y0u s (ys.drop o)
theorem fld_nil {ys:List FV} {n:Nat} (h:ys.length = n):ys.drop n = []:=List.drop_eq_nil_of_le (by omega)
end
theorem pvr_agg {P:Program} {t:TypeId} {W:World} {base:Nat} {v:Value} {s:St} {ys:List FV} {fs:Array Field} (hu:P.underlying t = some (.struct fs)) (hval:Value.okWide P W .any base t v) (hs:s.w = W) (hc:Cov W s.imm ys v.cells.toList):PVR s (.agg (vs ys)) v:=by
 unfold Value.okWide at hval
 rw [hu] at hval
 obtain ⟨cs,rfl,_,_⟩:=hval
 obtain ⟨hl,hc⟩:=hc
 subst hs
 simp only [Value.cells,Y0I] at hl hc
 have each:∀ (i:Nat) (u:Value),cs[i]? = some u→∃ y,ys[i]? = some y∧FVR s.w s.imm y u:=fun i u hu => by
  have hi:=(Array.getElem?_eq_some_iff.1 hu).1
  exact ⟨ys[i],Y2 (by omega),hc i _ u (Y2 (by omega)) (by simpa using hu)⟩
 refine .agg (by rw [Z1H];exact hl) (fun i x hx => ?_) (fun i u hu => (each i u hu).choose_spec.2.Z6B)
 rw [vs_get,Y1] at hx
 obtain ⟨y,hy,rfl⟩:=hx
 have hi:=(List.getElem?_eq_some_iff.1 hy).1
 refine .v (hc i y _ hy ?_)
 rw [Y0L,Yh (by omega),Y7,Yh (by omega)]
 rfl
theorem Z9y {P:Program} {t:TypeId} {W:World} {base:Nat} {v:Value} {s:St} {y:FV} (hu:(match P.underlying t with | some .bool | some (.int _) | some .string | some (.slice _) => true | _ => false) = true) (hval:Value.okWide P W .any base t v) (hs:s.w = W) (hc:Cov W s.imm [y] v.cells.toList):PVR s (.v y) v:=by
 subst hs
 have hv:v.cells.toList = [v]:=by
  unfold Value.okWide Cell.okWide Cell.ok at hval
  split at hu
  all_goals (first | (rename_i h1;rw [h1] at hval) | skip)
  ·cases v <;> first | rfl | exact hval.elim
  ·cases v <;> first | rfl | exact hval.elim
  ·cases v <;> first | rfl | exact hval.elim
  ·cases v <;> first | rfl | exact hval.elim
  ·cases hu
 rw [hv] at hc
 exact .v (hc.2 0 y v rfl rfl)
end Go.Dn

namespace Go.Dn
open Go
def cloneA (t b : TypeId) : Code := .region 0 #[{ dst := some 2, op := .assign (.const (.slice none 0 0)), type := t, pos := "slices.go:355", after := #[], guard := none }] false
def Z4w (t b : TypeId) : Array Oper := #[{ dst := some 3, op := .move (.tmp 0), type := t, pos := "slices.go:357", after := #[], guard := none },
 { dst := some 4, op := .binOp .eql t (.tmp 3) (.const (.slice none 0 0)) t, type := b, pos := "slices.go:357", after := #[{ on := 0, ground := .data }], guard := none }]
def cloneC (t : TypeId) : Code := .cond (.tmp 4) ((Code.region 2 #[{ dst := some 2, op := .assign (.const (.slice none 0 0)), type := t, pos := "slices.go:358", after := #[], guard := none }] false).seq .ret) .skip
def cloneD (t:TypeId):Code:=(Code.region 3
 #[{ dst := some 5, op := .buildSlice t 0 #[], type := t, pos := "slices.go:362", after := #[], guard := none },
  { dst := some 6, op := .move (.tmp 0), type := t, pos := "slices.go:362", after := #[], guard := none },
  { dst := some 7, op := .call { callee := .builtin .append, args := #[.tmp 5, .tmp 6], argTypes := #[t, t] }, type := t, pos := "slices.go:362", after := #[{ on := 0, ground := .data }, { on := 1, ground := .data }], guard := none },
  { dst := some 2, op := .assign (.tmp 7), type := t, pos := "slices.go:362", after := #[{ on := 2, ground := .data }, { on := 2, ground := .chain }, { on := 0, ground := .phase }, { on := 1, ground := .phase }, { on := 2, ground := .phase }], guard := none }] false).seq .ret
def cloneBody (t b:TypeId):Code:=(cloneA t b).seq (((Code.region 1 (Z4w t b) false).seq (cloneC t)).seq (cloneD t))
structure CloneT (P:Program) (t el:TypeId) (sz by_:Nat) (zs:List PV):Prop where
 ht:tslice P t = some el
 hs:tsize P el = some sz
 hb:tbytes P el = some by_
 hz:tzero P el = some zs
 hc:(sz != 0 && by_ != 0 && zs.length == sz) = true
variable {X:Ctx} {fn:FuncId} {t b el:TypeId} {sz by_:Nat} {zs:List PV}
theorem cloneD_runs (hT:CloneT X.P t el sz by_ zs) {xs:List (List FV)} (hl:xs.all (fun y => y.length == sz) = true) (hroom:xs.length * by_≤room) {e:Env} {σ:Heap} (h0:e 0 = .v (.sl xs)) :
  Runs X 8 fn (cloneD t) e σ fun x e' σ' => x = .ret∧∃ (lo hi:Nat) (L:List Res) (k:Nat),Has σ' lo hi L∧L[k]? = some (.sl (e' 2) el sz xs true):=by
 have hc:=hT.hc
 simp only [Y9,beq_iff_eq,bne_iff_ne,ne_eq] at hc
 have H:Hs σ []:=Has.nil (YB _)
 obtain ⟨e0,rfl⟩:=(show ZE e [(0,.v (.sl xs))] from ⟨h0,trivial⟩).ex
 show Runs X 8 fn (Code.seq _ _) _ _ _
 apply Runs.then
 refine Runs.ZJ 4 rfl H ?_;intro b1 σ H
 refine Ops.Z3o (zs:=zs) (sz:=sz) (pp:=[]) [] H (by omega) (by omega) hT.ht rfl hT.hs hT.hz (by simp only [Y9,beq_iff_eq,bne_iff_ne,ne_eq];exact ⟨⟨hc.2,hc.1.1⟩,by simp⟩) rfl rfl rfl rfl ?_;intro σ H
 refine Ops.move (v:=.v (.sl xs)) rfl rfl ?_
 refine Ops.appendS (v:=.buf (b1 + 0) 0 sz) (w:=.v (.sl xs)) (xs:=[]) (ys:=xs) H (by omega) (by omega) 0 rfl rfl rfl (.p hl) hT.ht hT.hs hT.hb hT.hz hT.hc (by simpa using hroom) nofun rfl ?_;intro w σ H
 refine Ops.assign (v:=w) rfl rfl ?_
 apply Ops.nil
 apply Runs.ret
 exact ⟨rfl,_,_,_,0,H,rfl⟩
theorem cloneOps_wp {s:St} {e:Env} {a:Act} (hX:CtxOK X) (hG:Z0W X s) (hi:Inv s) (he:EnvR s 8 e a) (hT:CloneT X.P t el sz by_ zs) {xs:List (List FV)} (h0:e 0 = .v (.sl xs)) {Q:Exit→Act→World→Prop}
  (hQ:∀ (o:Option Addr) (a':Act) (w':World) (ι':Nat→Nat),(o = none→xs = [])→Then s 8 a (putD 8 (putD 8 e (some 3) (.v (.sl xs))) (some 4) (.v (.bool o.isNone))) ⟨s.σ.nx + 2,s.σ.ent⟩ a' w' ι'→Q .normal a' w') :
  (Code.region 1 (Z4w t b) false).wp X.P Q a s.w:=by
 refine (wpIn_wide (n:=0)).1 (wpIn_region ?_)
 have hi':=Z81 hi 2
 have he':=he.mono (Z3Q (s:=s) 2)
 have hG':=hG.mono (Z3Q (s:=s) 2)
 have st : Z0s X (Z0M X) 8 (Z4w t b) s.σ.nx 0 { dst := some 3, op := .move (.tmp 0), type := t, pos := "slices.go:357", after := #[], guard := none } e (s.more 2).σ = some (putD 8 e (some 3) (.v (.sl xs)), (s.more 2).σ) := by
  simp only [Z0s,Zz,Z5,Z0,h0,Y8,Y0]
 have first:=stepO_ok (m:=0) (Q:=Q) (rd:=none) (s:=s.more 2) (a:=a) (callL_ok hX) hG' hi' he' (hi.nx _ (by omega)) (by simp only [St.more];omega) st (K:=wpOpsIn (Fw none) 0 X.P (Z4w t b) Q [1]) ?_
 ·have h0' : (Z4w t b)[0]? = some { dst := some 3, op := .move (.tmp 0), type := t, pos := "slices.go:357", after := #[], guard := none } := rfl
  have hr:List.range (Z4w t b).size = [0,1]:=rfl
  rw [hr];simp only [wpOpsIn,h0'];exact first
 ·intro a1 w1 ι1 ht;have hn:=ht.env
  have hw : Region.wanted ⟨some 4, .binOp .eql t (.tmp 3) (.const (.slice none 0 0)) t, b, "slices.go:357", #[{ on := 0, ground := .data }], none⟩ (yielded (Z4w t b) a1.tmps) = true := rfl
  have h1' : (Z4w t b)[1]? = some ⟨some 4, .binOp .eql t (.tmp 3) (.const (.slice none 0 0)) t, b, "slices.go:357", #[{ on := 0, ground := .data }], none⟩ := rfl
  simp only [wpOpsIn,h1'];rw [if_pos hw];have hp:PVR ⟨w1,(s.more 2).Y,(s.more 2).σ,ι1⟩ (.v (.sl xs)) (a1.eval (.tmp 3)):=by
   refine ZB (X:=X) (hG.mono ((Z3Q (s:=s) 2).trans ht.ev)) hn ?_
   simp [Z0,putD,upd]
  obtain ⟨o,cap,hv,hcap,hf⟩:=sl_inv hp
  have hs : ∀ o4 : Oper, o4 = ⟨some 4, .binOp .eql t (.tmp 3) (.const (.slice none 0 0)) t, b, "slices.go:357", #[{ on := 0, ground := .data }], none⟩ → o4.uponIn (Fw none) 0 X.P a1 (Z88 ⟨w1, (s.more 2).Y, (s.more 2).σ, ι1⟩ a1 (some 4) (.v (.bool o.isNone)) (s.more 2).σ) Q ((o4.semAt (Fw none).round a1.eval).run X.P w1) := by
   intro o4 ho4;have hop:o4.op = .binOp .eql t (.tmp 3) (.const (.slice none 0 0)) t:=by rw [ho4]
   have hd4:o4.dst = some 4:=by rw [ho4]
   rw [Oper.semAt_eq _ _ _ (by intro c hc;rw [hop] at hc;cases hc)]
   simp only [execOp,hop];rw [← hd4];refine Z1z (s:=⟨w1,(s.more 2).Y,(s.more 2).σ,ι1⟩) ht.inv ?_
   rw [hv];have hg:(eqGuard .eql t (.tmp 3) (.const (.slice none 0 0)) (.slice o xs.length cap) (.slice none 0 0)).run X.P w1 = .ok () w1:=by simp [eqGuard]
   refine ⟨.bool o.isNone,?_,.v (.bool _)⟩
   show (do eqGuard .eql t (.tmp 3) (.const (.slice none 0 0)) (.slice o xs.length cap) (.slice none 0 0);binOp .eql t (.slice o xs.length cap) (.slice none 0 0):Sem Value).run X.P w1 = _
   simp only [Sem.run_bind,hg,Result.andThen_ok];exact (Z5d (eqNil 9999 (Z1M hT.ht) o xs.length cap w1) (.inr (.inr ⟨_,_,_,_,_,_,rfl,rfl⟩))).1
  refine Oper.wpIn_mono (K:=Z88 ⟨w1,(s.more 2).Y,(s.more 2).σ,ι1⟩ a1 (some 4) (.v (.bool o.isNone)) (s.more 2).σ) (fun a' w' hh => ?_) ⟨fun _ _ => trivial,hs _ rfl⟩
  obtain ⟨v,rfl,ι',h2,h3,h4⟩:=hh
  refine hQ o _ w' ι' (fun ho => ?_) ⟨h2,((Z3Q (s:=s) 2).trans ht.ev).trans h3,(hn.mono h3).put h4,(Z9C _ _ _).trans ht.defers⟩
  subst ho;generalize hz:Value.slice none xs.length cap = z at hf;cases hf with
  | nil => rfl
  | empty => rfl
  | sl => cases hz
theorem clone_calls (hX:CtxOK X) {f:FuncId} {fu:Func} (hf:X.P.funcs[f]? = some fu) (hb:fu.body = some (cloneBody t b)) (hn:fu.ntmps = 8) (hr:fu.results = #[.tmp 2]) (hg:∀ g,X.glob g = none)
  (hT:CloneT X.P t el sz by_ zs) {s:St} (hi:Inv s) {xs:List (List FV)} {v:Value} (hl:xs.all (fun y => y.length == sz) = true) (hroom:xs.length * by_≤room) (hv:PVR s (.v (.sl xs)) v) :
  Calls X.P f #[v] s.w fun en w' => ∃ v',en = .returned v'∧Post s (.v (.sl xs)) s.σ v' w':=by
 have hv1:PVRs s.under [.v (.sl xs)] #[v]:=⟨rfl,fun i x hx => by
  cases i with
  | zero => cases hx;exact ZB9 rfl hv
  | succ i => simp at hx⟩
 have hiu:=Z8Q hi
 have he:=env_of (s:=s.under) (k:=8) hv1
 have hG:∀ s,Z0W X s:=fun s g cells h => by rw [hg] at h;cases h
 refine (callsIn_wide (n:=0)).1 (callsIn_of_wp_marks hf hb trivial ?_ rfl)
 rw [hn]
 refine wpIn_wide.2 ?_
 have fin:∀ e σ a' w ι (σ3:Heap),Aft s.under 8 { tmps:=#[v] ++ Array.replicate (8 - (#[v] : Array Value).size) undef,defers:=[] } e σ a' w ι→Z1C σ (e 2) = some (.v (.sl xs),σ3) →
   bodyPostM Fence.wide 0 X.P fu (fun en w' => ∃ v',en = .returned v'∧Post s (.v (.sl xs)) s.σ v' w') .ret a' w:=by
  intro e σ a' w ι σ3 ht h4;refine leaves_ok (X:=X) (fu:=fu) (xs:=[e 2]) rfl ht (by rw [hr];rfl) fun v w' hp => ⟨v,rfl,?_⟩
  exact Z9F hi hp h4
 refine wp_seq ?_
 refine wp_mono (Z8W (X:=X) (s:=s.under) hX (fn:=f) (hG _) hiu he (Q:=fun ex e' σ' => ex = .normal∧e' 0 = .v (.sl xs)) ?_) ?_
 ·show Runs X 8 f (Code.region 0 (List.toArray [_]) false) _ ⟨0,fun _ => .none⟩ _
  refine Runs.region rfl ?_;refine Ops.assign (v:=.nils) rfl rfl ?_
  exact Ops.nil ⟨rfl,rfl⟩
 rintro ex a1 w1 ⟨x1,e1,σ1,ι1,⟨rfl,k0⟩,rfl,ht1⟩
 simp only [Ex.out,Exit.then]
 refine wp_seq (wp_seq ?_)
 refine cloneOps_wp (s:=⟨w1,s.under.Y,σ1,ι1⟩) hX (hG _) ht1.inv ht1.env hT k0 ?_
 intro o a2 w2 ι2 ho ht2
 have ht12:=ht1.trans ht2.aft
 simp only [Exit.then]
 generalize he2:putD 8 (putD 8 e1 (some 3) (.v (.sl xs))) (some 4) (.v (.bool o.isNone)) = e2 at ht2 ht12
 have q0:e2 0 = .v (.sl xs):=by rw [← he2];simpa [putD,upd] using k0
 have q4:e2 4 = .v (.bool o.isNone):=by rw [← he2];simp [putD,upd]
 refine wp_mono (Z8W (X:=X) (s:=⟨w2,s.under.Y,⟨σ1.nx + 2,σ1.ent⟩,ι2⟩) hX (fn:=f) (hG _) ht2.inv ht2.env (Q:=fun ex e' σ' => (xs = []∧ex = .ret∧e' 2 = .nils)∨(ex = .normal∧e' 0 = .v (.sl xs))) ?_) ?_
 ·cases o with
  | none =>
   refine Runs.yes (by simp only [Z0,q4];rfl) ?_
   refine Runs.then ?_;refine Runs.region (l:=[_]) rfl ?_
   refine Ops.assign (v:=.nils) rfl rfl ?_
   refine Ops.nil ?_;refine Runs.ret ?_;exact .inl ⟨ho rfl,rfl,rfl⟩
  | some o =>
   refine Runs.no (by simp only [Z0,q4];rfl) ?_
   exact Runs.skip (.inr ⟨rfl,q0⟩)
 rintro ex a3 w3 ⟨x3,e3,σ3,ι3,hq,rfl,ht3⟩
 have ht13:=ht12.trans ht3
 rcases hq with ⟨rfl,rfl,k2⟩ | ⟨rfl,k3⟩
 ·simp only [Ex.out,Exit.then];exact fin e3 σ3 a3 w3 ι3 σ3 ht13 (by rw [k2];rfl)
 ·simp only [Ex.out,Exit.then];refine wp_mono (Z8W (X:=X) (s:=⟨w3,s.under.Y,σ3,ι3⟩) hX (fn:=f) (hG _) ht3.inv ht3.env (cloneD_runs hT hl hroom k3)) ?_
  rintro ex a4 w4 ⟨x4,e4,σ4,ι4,⟨rfl,lo,hi4,L,k,H4,hk⟩,rfl,ht4⟩;obtain ⟨σ5,q,_⟩:=expR_ok H4 (ExpR.one (.c (.s k hk)))
  exact fin e4 σ4 a4 w4 ι4 σ5 (ht13.trans ht4) q
end Go.Dn

namespace Go.Dn
open Go
theorem Has.perm {σ:Heap} {lo hi:Nat} {L L':List Res} (H:Has σ lo hi L) (hp:L.Perm L'):Has σ lo hi L':=by
 have mem:∀ {A:List Res},(∀ (k:Nat) (r:Res),A[k]? = some r→r.holds σ) ↔ ∀ r ∈ A,r.holds σ:=fun {A} =>
  ⟨fun h r hr => by obtain ⟨k,hk⟩:=YC hr;exact h k r hk,fun h k r hk => h r (Y6 hk)⟩
 have pw:L.Pairwise (fun r s => ∀ id,r.owner = some id→s.owner ≠ some id):=by
  rw [Yr];intro i j hi' hj hij;exact H.sep i j _ _ (by omega) (Y2 hi') (Y2 hj)
 have pw':L'.Pairwise (fun r s => ∀ id,r.owner = some id→s.owner ≠ some id):=(hp.pairwise_iff (fun {a b} h id h1 h2 => h id h2 h1)).1 pw
 refine ⟨mem.2 fun r hr => mem.1 H.holds r (hp.mem_iff.2 hr),fun k r hk => ?_,fun i j r s hij h1 h2 => ?_,H.le⟩
 ·obtain ⟨k',hk'⟩:=YC (hp.mem_iff.2 (Y6 hk))
  exact H.lt k' r hk'
 ·obtain ⟨hi',rfl⟩:=List.getElem?_eq_some_iff.1 h1
  obtain ⟨hj',rfl⟩:=List.getElem?_eq_some_iff.1 h2
  rw [Yr] at pw'
  rcases YI i j with h | h
  ·exact pw' i j hi' hj' h
  ·intro id h3 h4;exact pw' j i hj' hi' (by omega) id h4 h3
def pdOf:Ex→Option Code
 | .normal => none
 | .exit t => some (.exit t)
 | .ret => some .ret
theorem Has.slCells {σ:Heap} {lo hi:Nat} {L:List Res} {k:Nat} {v:PV} {et:TypeId} {sz:Nat} {xs:List (List FV)} {lv:Bool} (H:Has σ lo hi L) (h:L[k]? = some (.sl v et sz xs lv)):v.cells = some [v]:=by
 rcases (H.holds k _ h).2 with ⟨rfl,_⟩ | ⟨id,rfl,_⟩ <;> rfl
theorem Runs.env {X:Ctx} {n:Nat} {fn:FuncId} {c:Code} {e:Env} {σ:Heap} {Q:Ex→Env→Heap→Prop} (l:List (Nat × PV)) (he:ZE e l) (h:∀ e0,Runs X n fn c (sets e0 l) σ Q):Runs X n fn c e σ Q:=by
 obtain ⟨e0,rfl⟩:=he.ex
 exact h e0
section
variable {X:Ctx}
def YldH (X:Ctx) (id:Nat) {S T:Type} (C:S→List Res→Prop) (pvT:T→List PV) (y:S→T→Option (S × Bool)):Prop :=
 ∀ s t s' b,y s t = some (s',b)→∀ σ lo hi O L,C s L→Has σ lo hi (O ++ L)→∃ σ' L',Z0M X (.yld id) (pvT t) σ = some (.v (.bool b),σ')∧C s' L'∧Hs σ' (O ++ L')
def ItF (X:Ctx) (f:FuncId) (args:List PV) {S:Type} (C:S→List Res→Prop) (s s':S):Prop :=
 ∀ σ L,C s L→Hs σ L→∃ σ' L',Z0M X (.fn f) args σ = some (.tup [],σ')∧C s' L'∧Hs σ' L'
structure EndsI {S:Type} (C:S→List Res→Prop) (s:S) (x:Ex) (e:Env) (σ:Heap):Prop where
 out:(x = .normal∨x = .ret)∧∃ L,C s L∧Hs σ L
theorem EndsI.H {S:Type} {C:S→List Res→Prop} {s:S} {x:Ex} {e:Env} {σ:Heap} {lo hi:Nat} {L L0:List Res} (hx:x = .normal∨x = .ret) (H:Has σ lo hi L) (k:Nat) (hk:L.drop k = L0) (hC:C s L0):EndsI C s x e σ :=
 ⟨hx,L0,hC,(hk ▸ H.drop k:Has σ lo hi L0).all⟩
theorem ItF.of {f:FuncId} {args:List PV} {S:Type} {C:S→List Res→Prop} {s s':S} {fu:Func} {c:Code} {m:Nat} (hf:X.P.funcs[f]? = some fu) (hb:fu.body = some c) (hr:fu.results = #[]) (hi:X.intr f args = none) (hk:X.keep f = false) (ho:X.opn f = false) (hs:args.all PV.still = true)
  (hp:args.all PV.pure = false) (hm:max fu.ntmps args.length = m) (h:∀ σ L,C s L→Hs σ L→Runs X m f c (Z72 args) σ (EndsI C s')):ItF X f args C s s':=by
 subst hm
 intro σ L hC H
 obtain ⟨lf,x,e',σ1,h1,hE⟩:=(h σ L hC H).run
 obtain ⟨hx,L',hC',H'⟩:=hE.out
 refine ⟨σ1,L',Z36 (lf:=lf) ?_,hC',H'⟩
 have hbody:Z1R X (Z0M X) lf f args σ = some (.tup [],σ1):=by
  simp only [Z1R,hf,hb,h1]
  rcases hx with rfl | rfl <;> simp [hr,Z0H,Z1r]
 simp only [Z5Z,hi,hk,Y0m,YA,if_false,Z6S hs,ho,hp,hbody,Y0]
 rfl
section
variable {n:Nat} {dr:Bool} {fn:FuncId} {ops:Array Oper} {base i:Nat} {l:List Oper} {e:Env} {σ:Heap} {K:Env→Heap→Prop} {Q:Ex→Env→Heap→Prop}
variable {d:Nat} {t:TypeId} {p:String} {af:Array Edge} {x:Operand} {lo hi:Nat} {L:List Res}
theorem Ops.callY {S T:Type} {C:S→List Res→Prop} {pvT:T→List PV} {y:S→T→Option (S × Bool)} {id:Nat} {args:Array Operand} {ts:Array TypeId} {s s':S} {z:T} {b:Bool} (O:List Res) (H:Has σ lo hi (O ++ L)) (hC:C s L) (hx:Z0 X e x = some (.yld id)) (ha:ZY X e args.toList = some (pvT z))
  (hy:YldH X id C pvT y) (hq:y s z = some (s',b)) (hdr:dr = false) (hd:Nat.blt d n = true)
  (hk:∀ σ' L',C s' L'→Hs σ' (O ++ L')→Ops X n dr ops base (i + 1) l (set e d (.v (.bool b))) σ' K) :
  Ops X n dr ops base i (⟨some d,.call { callee:=.value x,args:=args,argTypes:=ts },t,p,af,none⟩ :: l) e σ K:=by
 obtain ⟨σ',L',q1,q2,q3⟩:=hy _ _ _ _ hq σ lo hi O L hC H
 exact .plain (x:=.v (.bool b)) (σ1:=σ') (by simp only [Z5,Zx,ha,hx,q1]) (fun h => by rw [hdr] at h;cases h) hd (hk σ' L' q2 q3)
end
def RangeC (id:Nat) (fn:FuncId) (e:Env) (n:Nat) (ps:List Nat) (as_ bo:Code) {S:Type} (Co:S→List Res→Prop) (pd:Nat→Option Code):S × Nat→List Res→Prop :=
 fun s L => ∃ M,Co s.1 M∧L = .loop id fn e n ps as_ bo (if s.2 = 0 then .ready else .done) (pd s.2) :: M
variable {n:Nat} {fn:FuncId} {e:Env} {σ:Heap} {Q:Ex→Env→Heap→Prop}
def BodyOK (X:Ctx) (n:Nat) (fn:FuncId) (e:Env) (ps:List Nat) (as_ bo:Code) {S T:Type} (Co:S→List Res→Prop) (pvT:T→List PV) (yb:S→T→Option (S × Nat)) (pd:Nat→Option Code):Prop :=
 ∀ (R0 R1:Res) s t s' p,yb s t = some (s',p)→∀ σ M O,Co s M→Hs σ (R0 :: (M ++ O)) →
  Runs X n fn as_ (Z4v e n ps (pvT t)) σ fun x e1 σ1 => x = .normal∧∃ M1,Hs σ1 (R0 :: (M1 ++ O)) ∧
   ∀ σ2,Hs σ2 (R1 :: (M1 ++ O))→Runs X n fn bo e1 σ2 fun x e2 σ3 => (pdOf x = pd p∧(x = .normal ↔ p = 0))∧∃ M2,Co s' M2∧Hs σ3 (R1 :: (M2 ++ O))
theorem rangeY_ok {S T:Type} {ps:List Nat} {as_ bo:Code} {Co:S→List Res→Prop} {pvT:T→List PV} {yb:S→T→Option (S × Nat)} {pd:Nat→Option Code} (hpd:pd 0 = none) (hlen:∀ t,ps.length = (pvT t).length) (hpure:∀ t,(pvT t).all PV.pure = true)
  (hbody:BodyOK X n fn e ps as_ bo Co pvT yb pd) (id:Nat):YldH X id (RangeC id fn e n ps as_ bo Co pd) pvT (Z1J yb):=by
 rintro ⟨s,p⟩ t ⟨s',p'⟩ b hy σ lo hi O L ⟨M,hM,rfl⟩ H
 unfold Z1J at hy
 simp only at hy hM
 split at hy
 ·rename_i hp0;subst hp0;rw [Y1] at hy;obtain ⟨r,hr,he⟩:=hy
  simp only [Y3] at he;obtain ⟨rfl,rfl⟩:=he
  simp only [if_true,hpd] at H;have H1:Hs σ (.loop id fn e n ps as_ bo .ready none :: (M ++ O)):=(H.perm (by rw [← Y0k];exact List.perm_append_comm)).all
  obtain ⟨l1,x1,e1,σ1,r1,rfl,M1,H2,hb⟩:=(hbody (.loop id fn e n ps as_ bo .ready none) (.loop id fn e n ps as_ bo .busy none) s t s' p' hr σ M O hM H1).run
  have hent:σ1.ent id = .loop fn e n ps as_ bo .ready none:=H2.holds 0 _ rfl
  have H3:Hs (σ1.put id (.loop fn e n ps as_ bo .busy none)) (.loop id fn e n ps as_ bo .busy none :: (M1 ++ O)):=(H2.put (k:=0) rfl rfl (r':=.loop id fn e n ps as_ bo .busy none) Z2D rfl).all
  obtain ⟨l2,x2,e2,σ3,r2,⟨hx,hx0⟩,M2,hM2,H4⟩:=(hb _ H3).run
  have hent0:σ.ent id = .loop fn e n ps as_ bo .ready none:=H1.holds 0 _ rfl
  have fin:∀ (st:LoopState) (pc:Option Code),Hs (σ3.put id (.loop fn e n ps as_ bo st pc)) (O ++ (.loop id fn e n ps as_ bo st pc :: M2)):=fun st pc =>
   ((H4.put (k:=0) rfl rfl (r':=.loop id fn e n ps as_ bo st pc) Z2D rfl).perm (by rw [List.set_cons_zero,← Y0k];exact List.perm_append_comm)).all
  have call:∀ (st:LoopState) (pc:Option Code) (b:Bool),(match x2 with
    | .normal => some (PV.v (.bool true),σ3.put id (.loop fn e n ps as_ bo .ready none))
    | .exit t => some (PV.v (.bool false),σ3.put id (.loop fn e n ps as_ bo .done (some (.exit t))))
    | .ret => some (PV.v (.bool false),σ3.put id (.loop fn e n ps as_ bo .done (some .ret)))) = some (.v (.bool b),σ3.put id (.loop fn e n ps as_ bo st pc)) →
    Z0M X (.yld id) (pvT t) σ = some (.v (.bool b),σ3.put id (.loop fn e n ps as_ bo st pc)):=by
   intro st pc b hm;refine Z36 (lf:=max l1 l2) ?_
   simp only [Z5Z,hent0,hlen t,if_true,Z3T (hpure t),Z1L (Y14 l1 l2) r1,hent,Z1L (Y10 l1 l2) r2];exact hm
  cases x2 with
  | normal =>
   have hp0:=hx0.1 rfl
   subst hp0;exact ⟨_,_,call .ready none true rfl,⟨M2,hM2,by simp [hpd]⟩,fin .ready none⟩
  | exit t' =>
   have hp0:p' ≠ 0:=fun h => by have:=hx0.2 h;cases this
   have hbeq:(p' == 0) = false:=by simpa using hp0
   rw [hbeq];exact ⟨_,_,call .done (some (.exit t')) false rfl,⟨M2,hM2,by simp only [if_neg hp0,← hx,pdOf]⟩,fin .done _⟩
  | ret =>
   have hp0:p' ≠ 0:=fun h => by have:=hx0.2 h;cases this
   have hbeq:(p' == 0) = false:=by simpa using hp0
   rw [hbeq];exact ⟨_,_,call .done (some .ret) false rfl,⟨M2,hM2,by simp only [if_neg hp0,← hx,pdOf]⟩,fin .done _⟩
 ·cases hy
theorem Runs.rangeH {S T:Type} {g:Operand} {ps:Array Tmp} {as_ bo:Code} {f:FuncId} {first caps:List PV} {M0:List Res} (H:Hs σ M0) (hg:Z0 X e g = some (.clo f first caps))
  (Co:S→List Res→Prop) (pvT:T→List PV) (yb:S→T→Option (S × Nat)) (pd:Nat→Option Code) (hpd:pd 0 = none) (hjd:∀ p,∃ x,Z6v (pd p) = some x) {s0:S} {r:S × Nat} (h0:Co s0 M0) (hlen:∀ t,ps.toList.length = (pvT t).length) (hpure:∀ t,(pvT t).all PV.pure = true)
  (hbody:BodyOK X n fn e ps.toList as_ bo Co pvT yb pd)
  (hit:∀ id,YldH X id (RangeC id fn e n ps.toList as_ bo Co pd) pvT (Z1J yb)→ItF X f (first ++ [.yld id] ++ caps) (RangeC id fn e n ps.toList as_ bo Co pd) (s0,0) r)
  (hq:∀ x σ' M',Z6v (pd r.2) = some x→Co r.1 M'→Hs σ' M'→Q x e σ'):Runs X n fn (.rangeFunc g ps as_ bo) e σ Q:=by
 obtain ⟨m,ent⟩:=σ
 let σ1:Heap:=⟨m + 1,upd ent m (.loop fn e n ps.toList as_ bo .ready none)⟩
 have H1:Hs σ1 (.loop m fn e n ps.toList as_ bo .ready none :: M0):=by
  have h1:Has (⟨m + 1,ent⟩ : Heap) m (m + 1) M0:=H.enter 1
  exact (h1.push (b:=m) (en:=.loop fn e n ps.toList as_ bo .ready none) (YB _) (Nat.lt_succ_self _) (r':=.loop m fn e n ps.toList as_ bo .ready none) Z2D rfl).all
 obtain ⟨σ2,L',hc,⟨M',hM',rfl⟩,H2⟩:=hit m (rangeY_ok hpd hlen hpure hbody m) σ1 _ ⟨M0,h0,by simp [hpd]⟩ H1
 have hent:σ2.ent m = .loop fn e n ps.toList as_ bo (if r.2 = 0 then .ready else .done) (pd r.2):=H2.holds 0 _ rfl
 have hnb:(if r.2 = 0 then LoopState.ready else LoopState.done) ≠ LoopState.busy:=by split <;> simp
 have Hf:Hs (σ2.put m (.loop fn e n ps.toList as_ bo .exhausted (pd r.2))) M':=((H2.put (k:=0) rfl rfl (r':=.loop m fn e n ps.toList as_ bo .exhausted (pd r.2)) Z2D rfl).erase 0).all
 obtain ⟨x,hx⟩:=hjd r.2
 refine ⟨0,x,e,_,?_,hq x _ M' hx hM' Hf⟩
 simp only [ZD,hg]
 rw [show Z0M X (.fn f) (first ++ [PV.yld m] ++ caps) ⟨m + 1,upd ent m (.loop fn e n ps.toList as_ bo .ready none)⟩ = some (.tup [],σ2) from hc]
 simp only [hent,if_neg hnb,hx]
theorem callO_of {f:FuncId} {args:List PV} {fu:Func} {c:Code} {m:Nat} {σ:Heap} {Post:PV→Heap→Prop} (hf:X.P.funcs[f]? = some fu) (hb:fu.body = some c) (hi:X.intr f args = none) (hk:X.keep f = false) (ho:X.opn f = true) (hp:args.all PV.pure = true) (hm:max fu.ntmps args.length = m)
  (h:Runs X m f c (Z72 args) σ fun x e σ' => (x = .normal∨x = .ret)∧∃ xs,Z0H X.P e σ' fu.results.toList = some xs∧Post (Z1r xs) σ'):∃ r σ',Z0M X (.fn f) args σ = some (r,σ')∧Post r σ':=by
 subst hm
 obtain ⟨lf,x,e',σ1,h1,hx,xs,h2,h3⟩:=h.run
 refine ⟨Z1r xs,σ1,Z36 (lf:=lf) ?_,h3⟩
 have hbody:Z1R X (Z0M X) lf f args σ = some (Z1r xs,σ1):=by
  simp only [Z1R,hf,hb,h1]
  rcases hx with rfl | rfl <;> simp only [h2,Y8]
 simp only [Z5Z,hi,hk,YA,if_false,Z3T hp,ho,if_true,hbody]
theorem Ops.callO {n:Nat} {dr:Bool} {ops:Array Oper} {base i:Nat} {l:List Oper} {e:Env} {σ:Heap} {K:Env→Heap→Prop} {d:Nat} {t:TypeId} {p:String} {af:Array Edge}
  {f:FuncId} {args:Array Operand} {ts:Array TypeId} {ys:List PV} {Post:PV→Heap→Prop} (ha:ZY X e args.toList = some ys) (hf:∃ r σ',Z0M X (.fn f) ys σ = some (r,σ')∧Post r σ') (hdr:dr = true→Z34 (Region.before ops) ops i = true) (hd:Nat.blt d n = true)
  (hk:∀ r σ',Post r σ'→Ops X n dr ops base (i + 1) l (set e d r) σ' K) :
  Ops X n dr ops base i (⟨some d,.call { callee:=.value (.func f),args:=args,argTypes:=ts },t,p,af,none⟩ :: l) e σ K:=by
 obtain ⟨r,σ',q1,q2⟩:=hf
 exact .plain (x:=r) (σ1:=σ') (by simp only [Z5,Zx,ha,Z0,q1]) (fun h => Z5O (hdr h)) hd (hk r σ' q2)
end
end Go.Dn

namespace Go.Dn
open Go
theorem Has.pickT {σ:Heap} {lo hi:Nat} {T:List Res} (A:List Res) (ks:List Nat) (hn:ks.Nodup) (hk:ks.all (Nat.blt · A.length) = true) (H:Has σ lo hi (A ++ T)):Has σ lo hi (Dn.pick A ks ++ T):=by
 have hk':∀ k ∈ ks,k < A.length:=fun k h => by
  have:=List.all_eq_true.1 hk k h
  exact Y04 this
 have h:=H.pick (ks ++ (List.range T.length).map (A.length + ·)) (by
  refine List.nodup_append.2 ⟨hn,?_,?_⟩
  ·exact List.Pairwise.map _ (fun a b hab => by omega) List.nodup_range
  ·intro a ha b hb;obtain ⟨j,_,rfl⟩:=List.mem_map.1 hb
   have:=hk' a ha
   omega)
 have fc:∀ (f g:Nat→Option Res) (l:List Nat),(∀ k ∈ l,f k = g k)→l.filterMap f = l.filterMap g:=by
  intro f g l
  induction l with
  | nil => intro _;rfl
  | cons k l ih =>
   intro h;rw [List.filterMap_cons,List.filterMap_cons,h k YG,ih fun k hk => h k (YH _ hk)]
 have fr:∀ (T:List Res),List.filterMap (fun j => T[j]?) (List.range T.length) = T:=by
  intro T
  induction T with
  | nil => rfl
  | cons r T ih =>
   rw [Yv,List.range_succ_eq_map,List.filterMap_cons,List.filterMap_map];simp only [List.getElem?_cons_zero]
   congr 1
 have e:Dn.pick (A ++ T) (ks ++ (List.range T.length).map (A.length + ·)) = Dn.pick A ks ++ T:=by
  unfold Dn.pick;rw [List.filterMap_append]
  congr 1
  ·exact fc _ _ _ fun k hm => YK (hk' k hm)
  ·rw [List.filterMap_map];refine Eq.trans (fc _ _ _ fun j _ => ?_) (fr T)
   simp [Function.comp,YN]
 rw [← e];exact h
theorem Has.mem {σ:Heap} {lo hi:Nat} {L:List Res} (H:Has σ lo hi L):∀ r ∈ L,r.holds σ∧∀ id,r.owner = some id→(id < lo∨hi≤id)∧id < σ.nx:=fun r hr => by
 obtain ⟨k,hk⟩:=YC hr
 exact ⟨H.holds k r hk,H.lt k r hk⟩
abbrev Apart (r s:Res):Prop:=∀ id,r.owner = some id→s.owner ≠ some id
theorem Has.pw {σ:Heap} {lo hi:Nat} {L:List Res} (H:Has σ lo hi L):L.Pairwise Apart:=by
 rw [Yr]
 intro i j hi' hj hij
 exact H.sep i j _ _ (by omega) (Y2 hi') (Y2 hj)
theorem Has.mk' {σ:Heap} {lo hi:Nat} {L:List Res} (hm:∀ r ∈ L,r.holds σ∧∀ id,r.owner = some id→(id < lo∨hi≤id)∧id < σ.nx) (hp:L.Pairwise Apart) (hle:hi≤σ.nx):Has σ lo hi L:=by
 refine ⟨fun k r hk => (hm r (Y6 hk)).1,fun k r hk => (hm r (Y6 hk)).2,fun i j r s hij h1 h2 => ?_,hle⟩
 obtain ⟨hi',rfl⟩:=List.getElem?_eq_some_iff.1 h1
 obtain ⟨hj',rfl⟩:=List.getElem?_eq_some_iff.1 h2
 rw [Yr] at hp
 rcases YI i j with h | h
 ·exact hp i j hi' hj' h
 ·intro id h3 h4;exact hp j i hj' hi' (by omega) id h4 h3
def holes (lo hi:Nat):List Res:=.floor hi :: (List.range (hi - lo)).map fun j => .hole (lo + j)
theorem mem_holes {lo hi:Nat} {r:Res} (h:r ∈ holes lo hi):r = .floor hi∨∃ id,r = .hole id∧lo≤id∧id < hi:=by
 rcases List.mem_cons.1 h with h | h
 ·exact .inl h
 ·obtain ⟨j,hj,rfl⟩:=List.mem_map.1 h
  have:=List.mem_range.1 hj
  exact .inr ⟨_,rfl,by omega,by omega⟩
theorem Has.holesIn {σ:Heap} {lo hi:Nat} {L:List Res} (H:Has σ lo hi L):Hs σ (L ++ holes lo hi):=by
 refine Has.mk' (fun r hr => ?_) ?_ (YB _)
 ·rcases List.mem_append.1 hr with h | h
  ·exact ⟨(H.mem r h).1,fun id ho => ⟨.inl ((H.mem r h).2 id ho).2,((H.mem r h).2 id ho).2⟩⟩
  ·rcases mem_holes h with rfl | ⟨id,rfl,h1,h2⟩
   ·exact ⟨H.le,fun id ho => by cases ho⟩
   ·refine ⟨trivial,fun id' ho => ?_⟩
    cases ho;have:=H.le
    exact ⟨.inl (by omega),by omega⟩
 ·refine List.pairwise_append.2 ⟨H.pw,?_,?_⟩
  ·refine List.pairwise_cons.2 ⟨fun r _ id ho => (by cases ho),?_⟩
   refine List.Pairwise.map _ ?_ List.nodup_range;intro a b hab id h1 h2;have h1:lo + a = id:=Option.some.inj h1
   have h2:lo + b = id:=Option.some.inj h2
   omega
  ·intro r hr s hs id h1 h2;have:=((H.mem r hr).2 id h1).1
   rcases mem_holes hs with rfl | ⟨id',rfl,h3,h4⟩
   ·cases h2
   ·cases h2;omega
theorem Has.holesOut {σ:Heap} {lo hi:Nat} {A L:List Res} (H:Hs σ (A ++ (L ++ holes lo hi))):Has σ lo hi (A ++ L):=by
 rw [← Y01] at H
 have hp:=List.pairwise_append.1 H.pw
 refine Has.mk' (fun r hr => ?_) hp.1 ?_
 ·have h1:=H.mem r (Yf _ hr)
  refine ⟨h1.1,fun id ho => ⟨?_,(h1.2 id ho).2⟩⟩
  rcases YI id lo with h | h
  ·exact .inl h
  ·rcases YI id hi with h' | h'
   ·exact absurd rfl (hp.2.2 r hr (.hole id) (YH _ (List.mem_map.2 ⟨id - lo,List.mem_range.2 (by omega),by congr 1;omega⟩)) id ho)
   ·exact .inr h'
 ·exact (H.mem (.floor hi) (Yn _ YG)).1
section
variable {X:Ctx} {f:FuncId} {fu:Func} {c:Code} {m:Nat} {σ:Heap} {cv:PV} {ys args:List PV} {L:List Res} {PostA:PV→List Res→Prop}
def CallI (X:Ctx) (cv:PV) (ys:List PV) (σ:Heap) (T:List Res) (PostA:PV→List Res→Prop):Prop:=∃ r σ' A,callV X cv ys σ = some (r,σ')∧PostA r A∧Hs σ' (A ++ T)
theorem callI_of (hf:X.P.funcs[f]? = some fu) (hb:fu.body = some c) (hcv:∀ σ,callV X cv ys σ = Z0M X (.fn f) args σ) (hi:X.intr f args = none) (hk:X.keep f = true) (ho:X.opn f = true) (hm:max fu.ntmps args.length = m) {T:List Res}
  (h:Runs X m f c (Z72 args) σ fun x e σ' => (x = .normal∨x = .ret)∧∃ xs,Z0H X.P e σ' fu.results.toList = some xs∧∃ A,PostA (Z1r xs) A∧Hs σ' (A ++ T)):CallI X cv ys σ T PostA:=by
 subst hm
 obtain ⟨lf,x,e',σ1,h1,hx,xs,h2,A,h3,h4⟩:=h.run
 refine ⟨Z1r xs,σ1,A,?_,h3,h4⟩
 rw [hcv]
 refine Z36 (lf:=lf) ?_
 have hbody:Z1R X (Z0M X) lf f args σ = some (Z1r xs,σ1):=by
  simp only [Z1R,hf,hb,h1]
  rcases hx with rfl | rfl <;> simp only [h2,Y8]
 simp only [Z5Z,hi,hk,if_true,ho,hbody]
theorem callIO_of (hf:X.P.funcs[f]? = some fu) (hb:fu.body = some c) (hcv:∀ σ,callV X cv ys σ = Z0M X (.fn f) args σ) (hi:X.intr f args = none) (hk:X.keep f = false) (ho:X.opn f = true) (hp:args.all PV.pure = true) (hm:max fu.ntmps args.length = m) {T:List Res}
  (h:Runs X m f c (Z72 args) σ fun x e σ' => (x = .normal∨x = .ret)∧∃ xs,Z0H X.P e σ' fu.results.toList = some xs∧∃ A,PostA (Z1r xs) A∧Hs σ' (A ++ T)):CallI X cv ys σ T PostA:=by
 obtain ⟨r,σ',h1,A,h2,h3⟩:=callO_of (Post:=fun r σ' => ∃ A,PostA r A∧Hs σ' (A ++ T)) hf hb hi hk ho hp hm h
 exact ⟨r,σ',A,by rw [hcv];exact h1,h2,h3⟩
end
section
variable {X:Ctx} {n:Nat} {dr:Bool} {fn:FuncId} {ops:Array Oper} {base i:Nat} {l:List Oper} {e:Env} {σ:Heap} {K:Env→Heap→Prop}
variable {d:Nat} {t t1:TypeId} {p:String} {af:Array Edge} {x:Operand} {lo hi:Nat} {L:List Res}
theorem ZCQ {cv:PV} {args:List PV} {r:PV} {σ':Heap} {c:Call} {id0:Nat} (hc:c.callee = .value x) (hx:Z0 X e x = some cv) (ha:ZY X e c.args.toList = some args) (h:Dn.callV X cv args σ = some (r,σ')):Zx X (Z0M X) e σ id0 c = some (r,σ'):=by
 simp only [Zx,ha,hc,hx]
 unfold Dn.callV at h
 split at h
 ·exact h
 ·exact h
 ·cases h
theorem Sub.more {C L M:List Res} (h:Sub C L):Sub C (L ++ M):=by
 induction h with
 | nil => exact .nil
 | cons k h t ih =>
  refine .cons k ?_ ih;rw [YK (List.getElem?_eq_some_iff.1 h).1,h]
theorem callI_back {cv:PV} {ys:List PV} {PostA:PV→List Res→Prop} (A:List Res) (H:Has σ lo hi (A ++ L)) (hf:∀ T,(∀ C,Sub C L→Sub C T)→Hs σ (A ++ T)→CallI X cv ys σ T PostA) :
  ∃ r σ' A',Dn.callV X cv ys σ = some (r,σ')∧PostA r A'∧Has σ' lo hi (A' ++ L):=by
 have hsub:∀ C,Sub C L→Sub C (L ++ holes lo hi):=fun C h => h.more
 have H1:=H.holesIn
 rw [Y01] at H1
 obtain ⟨r,σ',A',h1,h2,h3⟩:=hf (L ++ holes lo hi) hsub H1
 exact ⟨r,σ',A',h1,h2,h3.holesOut⟩
theorem Ops.callI {cv:PV} {args:Array Operand} {ts:Array TypeId} {ys:List PV} {PostA:PV→List Res→Prop} (A:List Res) (H:Has σ lo hi (A ++ L)) (hx:Z0 X e x = some cv) (ha:ZY X e args.toList = some ys) (hf:∀ T,(∀ C,Sub C L→Sub C T)→Hs σ (A ++ T)→CallI X cv ys σ T PostA) (hdr:dr = true→Z34 (Region.before ops) ops i = true) (hd:Nat.blt d n = true)
  (hk:∀ r A' σ',PostA r A'→Has σ' lo hi (A' ++ L)→Ops X n dr ops base (i + 1) l (set e d r) σ' K) :
  Ops X n dr ops base i (⟨some d,.call { callee:=.value x,args:=args,argTypes:=ts },t,p,af,none⟩ :: l) e σ K:=by
 obtain ⟨r,σ',A',q1,q2,q3⟩:=callI_back A H hf
 exact .plain (x:=r) (σ1:=σ') (by simp only [Z5];exact ZCQ rfl hx ha q1) (fun h => Z5O (hdr h)) hd (hk r A' σ' q2 q3)
def FnO (X:Ctx) (f:FuncId) (args:List PV) (PostA:PV→List Res→Prop):Prop:=∀ σ T,Hs σ T→CallI X (.v (.fn f)) args σ T PostA
theorem FnO.of {f:FuncId} {fu:Func} {c:Code} {m:Nat} {args:List PV} {PostA:PV→List Res→Prop} (hf:X.P.funcs[f]? = some fu) (hb:fu.body = some c) (hi:X.intr f args = none) (hk:X.keep f = false) (ho:X.opn f = true) (hp:args.all PV.pure = true) (hm:max fu.ntmps args.length = m)
  (h:∀ σ T,Hs σ T→Runs X m f c (Z72 args) σ fun x e σ' => (x = .normal∨x = .ret)∧∃ xs,Z0H X.P e σ' fu.results.toList = some xs∧∃ A,PostA (Z1r xs) A∧Hs σ' (A ++ T)):FnO X f args PostA :=
 fun σ T H => callIO_of hf hb (fun _ => rfl) hi hk ho hp hm (h σ T H)
theorem Ops.callFO {f:FuncId} {args:Array Operand} {ts:Array TypeId} {ys:List PV} {PostA:PV→List Res→Prop} (H:Has σ lo hi L) (ha:ZY X e args.toList = some ys) (hf:FnO X f ys PostA) (hdr:dr = true→Z34 (Region.before ops) ops i = true) (hd:Nat.blt d n = true)
  (hk:∀ r A' σ',PostA r A'→Has σ' lo hi (A' ++ L)→Ops X n dr ops base (i + 1) l (set e d r) σ' K) :
  Ops X n dr ops base i (⟨some d,.call { callee:=.value (.func f),args:=args,argTypes:=ts },t,p,af,none⟩ :: l) e σ K :=
 Ops.callI [] H rfl ha (fun T _ H => hf σ T H) hdr hd hk
theorem Ops.callF {f:FuncId} {args:Array Operand} {ts:Array TypeId} {ys:List PV} {r:PV} (hx:Z0 X e x = some (.v (.fn f))) (ha:ZY X e args.toList = some ys) (hf:Fn X f ys r) (hd:Nat.blt d n = true) (hk:Ops X n dr ops base (i + 1) l (set e d r) σ K) :
  Ops X n dr ops base i (⟨some d,.call { callee:=.value x,args:=args,argTypes:=ts },t,p,af,none⟩ :: l) e σ K :=
 .plain (x:=r) (σ1:=σ) (by simp only [Z5,Zx,ha,hx,hf.call σ]) (fun _ => by
  exact ask0 (by simp only [Zj,Zs,ha,Z6G,hx,ZBI hf.pure,hf.opn,hf.keep,Y0l,Y0P])) hd hk
inductive ExpP:List Res→List (Nat × PV)→List (Nat × PV)→List Res→Prop
 | nil {L:List Res}:ExpP L [] [] L
 | keep {L L':List Res} {j:Nat} {x:PV} {ps qs:List (Nat × PV)} (h:Z6f x = false) (t:ExpP L ps qs L'):ExpP L ((j,x) :: ps) ((j,x) :: qs) L'
 | exp {L L1 L2:List Res} {j:Nat} {x y:PV} {ps qs:List (Nat × PV)} (h:ExpV L x y L1) (t:ExpP L1 ps qs L2):ExpP L ((j,x) :: ps) ((j,y) :: qs) L2
theorem ZCq {x:PV} {y:FV} {L':List Res} (H:Has σ lo hi L) (h:ExpC L x y L') (hr:isRef x = false):x = .v y∧L' = L:=by
 cases h with
 | v y => exact ⟨rfl,rfl⟩
 | n => cases hr
 | full xs => cases hr
 | ro h =>
  rcases h with ⟨rfl,rfl⟩ | rfl
  ·cases hr
  ·exact ⟨rfl,rfl⟩
 | s k h =>
  rcases (H.sl h).2 with ⟨rfl,_⟩ | ⟨id,rfl,_⟩ <;> cases hr
theorem ZBN:∀ {xs:List PV} {ys:List FV} {L L':List Res},Has σ lo hi L→ExpCs L xs ys L'→xs.any isRef = false→xs = vs ys∧L' = L
 | [],ys,L,L',H,h,_ => by cases h;exact ⟨rfl,rfl⟩
 | x :: xs,ys,L,L',H,h,hr => by
  simp only [List.any_cons,Bool.or_eq_false_iff] at hr;cases h with
  | cons h t =>
   obtain ⟨rfl,rfl⟩:=ZCq H h hr.1
   obtain ⟨rfl,rfl⟩:=ZBN H t hr.2
   exact ⟨rfl,rfl⟩
theorem expV_noref {x y:PV} {L':List Res} (H:Has σ lo hi L) (h:ExpV L x y L') (hr:Z6f x = false):y = x∧L' = L:=by
 cases h with
 | c h =>
  have:isRef x = false:=by cases x <;> first | rfl | exact hr
  obtain ⟨rfl,rfl⟩:=ZCq H h this
  exact ⟨rfl,rfl⟩
 | a h =>
  obtain ⟨rfl,rfl⟩:=ZBN H h hr
  exact ⟨rfl,rfl⟩
 | p h => exact ⟨rfl,rfl⟩
theorem fvsOf_vs (l:List FV):fvsOf (vs l) = some l:=by
 induction l with
 | nil => rfl
 | cons x l ih => show (fvsOf (vs l)).map (x :: ·) = _;rw [ih];rfl
theorem frzC_ok {x:PV} {y:FV} {L':List Res} (H:Has σ lo hi L) (h:ExpC L x y L'):∃ σ',Z4K σ x = some (.v y,σ')∧Has σ' lo hi L'∧σ'.nx = σ.nx:=by
 cases h with
 | v y => exact ⟨σ,rfl,H,rfl⟩
 | n => exact ⟨σ,rfl,H,rfl⟩
 | full xs => exact ⟨σ,rfl,H,rfl⟩
 | ro h => rcases h with ⟨rfl,rfl⟩ | rfl <;> exact ⟨σ,rfl,H,rfl⟩
 | @s _ et sz xs lv k h =>
  obtain ⟨hs,hv⟩:=H.sl h
  rcases hv with ⟨rfl,rfl⟩ | ⟨id,rfl,hb⟩
  ·exact ⟨σ,rfl,H.say h ⟨by simp,.inl ⟨rfl,rfl⟩⟩ rfl,rfl⟩
  ·refine ⟨σ.put id (.blk et (vs xs.flatten) false),?_,H.put h rfl (r':=.sl (.buf id xs.length sz) et sz xs false) ⟨hs,.inr ⟨id,rfl,Z2D⟩⟩ rfl,rfl⟩
   simp only [Z4K,hb];rw [if_pos (by rw [Z1H,Z0d hs]),fvsOf_vs,Y8,Z9b hs]
theorem frzCs_ok:∀ {xs:List PV} {σ:Heap} {L L':List Res} {ys:List FV},Has σ lo hi L→ExpCs L xs ys L'→∃ σ',Z3H σ xs = some (vs ys,σ')∧Has σ' lo hi L'∧σ'.nx = σ.nx
 | [],σ,L,L',ys,H,h => by cases h;exact ⟨σ,rfl,H,rfl⟩
 | x :: xs,σ,L,L',ys,H,h => by
  cases h with
  | cons h t =>
   obtain ⟨σ1,q1,q2,q3⟩:=frzC_ok H h
   obtain ⟨σ2,p1,p2,p3⟩:=frzCs_ok q2 t
   exact ⟨σ2,by simp only [Z3H,q1,Y0,p1];rfl,p2,p3.trans q3⟩
theorem frzV_ok {x y:PV} {L':List Res} (H:Has σ lo hi L) (h:ExpV L x y L') (hn:Z6f x = true):∃ σ',Z3E σ x = some (y,σ')∧Has σ' lo hi L'∧σ'.nx = σ.nx:=by
 cases h with
 | c h =>
  obtain ⟨σ',q1,q2,q3⟩:=frzC_ok H h
  refine ⟨σ',?_,q2,q3⟩;cases h with
  | v y => cases hn
  | n => simp only [Z3E,q1]
  | full xs => simp only [Z3E,q1]
  | ro h =>
   rcases h with ⟨rfl,rfl⟩ | rfl
   ·simp only [Z3E,q1]
   ·cases hn
  | s k h =>
   obtain ⟨_,⟨rfl,rfl⟩ | ⟨id,rfl,hb⟩⟩:=H.sl h
   ·simp only [Z3E,q1]
   ·simp only [Z3E,q1]
 | a h =>
  obtain ⟨σ',q1,q2,q3⟩:=frzCs_ok H h
  exact ⟨σ',by simp only [Z3E,q1,Y0],q2,q3⟩
 | p h =>
  exfalso
  cases x <;> simp [PV.pure] at h <;> simp [Z6f] at hn
  obtain ⟨z,hz,hz2⟩:=hn
  have:=h z hz
  cases z <;> simp [PV.isV] at this
  simp [isRef] at hz2
theorem expP_ok:∀ {ps qs:List (Nat × PV)} {σ:Heap} {L L':List Res},Has σ lo hi L→ExpP L ps qs L'→∃ σ',Z0f σ ps = some (qs,σ')∧Has σ' lo hi L'∧σ'.nx = σ.nx
 | [],qs,σ,L,L',H,h => by cases h;exact ⟨σ,rfl,H,rfl⟩
 | p :: ps,qs,σ,L,L',H,h => by
  cases h with
  | keep h t =>
   obtain ⟨σ1,q1,q2,q3⟩:=expP_ok H t
   exact ⟨σ1,by simp only [Z0f,h,YA,if_false,q1,Y0],q2,q3⟩
  | @exp _ L1 _ j x y ps qs h t =>
   by_cases hr:Z6f x = true
   ·obtain ⟨σ1,q1,q2,q3⟩:=frzV_ok H h hr
    obtain ⟨σ2,p1,p2,p3⟩:=expP_ok q2 t
    exact ⟨σ2,by simp only [Z0f,hr,if_true,q1,Y0,p1],p2,p3.trans q3⟩
   ·have hr:Z6f x = false:=by simpa using hr
    obtain ⟨rfl,rfl⟩:=expV_noref H h hr
    obtain ⟨σ2,p1,p2,p3⟩:=expP_ok H t
    exact ⟨σ2,by simp only [Z0f,hr,YA,if_false,Y0,p1],p2,p3⟩
def FrzOK (ops:Array Oper) (base i:Nat) (pp:List (Nat × PV)):Prop :=
 Z34 (Region.before ops) ops i = true∨∃ ms:List Nat,(pp.flatMap fun p => Z6X p.2) = ms.map (base + ·) ∧
  (ms.all fun m => Nat.blt m ops.size && ((Region.before ops).getD i 0).testBit m && (List.range ops.size).all fun j => !(unord (Region.before ops) i j && ((Region.before ops).getD j 0).testBit m)) = true
theorem ask_frz {parts:Array (Nat × Operand)} {len:Nat} {pp:List (Nat × PV)} (hp:Z3v X e parts.toList = some pp) (hh:X.hold t1 parts.toList = false) (h:FrzOK ops base i pp):Zp X ops base i ⟨some d,.buildSlice t1 len parts,t,p,af,none⟩ e = true:=by
 rcases h with h | ⟨ms,h1,h2⟩
 ·exact Z5O h
 ·refine ask0 ?_;have hf:frozen X e (.buildSlice t1 len parts) = ms.map (base + ·):=by simp only [frozen,hp,h1,hh]
  simp only [Zj,Zs,hf];refine List.all_eq_true.2 fun k hk => ?_
  obtain ⟨m,hm,rfl⟩:=List.mem_map.1 hk
  have:=List.all_eq_true.1 h2 m hm
  simp only [Y9] at this;simp only [Yi,Y9,decide_eq_true_eq];exact ⟨⟨⟨Y0z _ _,by have:=ZAs this.1.1;omega⟩,this.1.2⟩,this.2⟩
theorem Ops.buildSF {parts:Array (Nat × Operand)} {len sz:Nat} {el:TypeId} {zs:List PV} {pp qq:List (Nat × PV)} {L':List Res} (xs:List (List FV)) (H:Has σ lo hi L) (hlo:lo≤base + i) (hhi:base + i < hi)
  (ht:tslice X.P t1 = some el) (hp:Z3v X e parts.toList = some pp) (hE:ExpP L pp qq L') (hs:tsize X.P el = some sz) (hz:tzero X.P el = some zs) (hc:(zs.length == sz && sz != 0 && Nat.ble (len * sz) 1000000) = true)
  (hf:Z7b (fun i => some (i * sz,sz)) (List.replicate len zs).flatten qq = some (vs xs.flatten)) (hl:xs.length = len) (hx:xs.all (fun y => y.length == sz) = true) (hd:Nat.blt d n = true) (hdr:dr = true→FrzOK ops base i pp)
  (hk:∀ σ',Has σ' (base + i + 1) hi (.sl (.buf (base + i) len sz) el sz xs true :: L')→Ops X n dr ops base (i + 1) l (set e d (.buf (base + i) len sz)) σ' K) (hlit:X.lit = false:=by rfl) (hh:X.hold t1 parts.toList = false:=by rfl) :
  Ops X n dr ops base i (⟨some d,.buildSlice t1 len parts,t,p,af,none⟩ :: l) e σ K:=by
 simp only [Y9,beq_iff_eq,bne_iff_ne,ne_eq,Nat.ble_eq] at hc
 obtain ⟨σ1,q1,H1,q3⟩:=expP_ok H hE
 have hl0:(X.lit && len != 0) = false:=by rw [hlit];rfl
 refine .plain (x:=.buf (base + i) len sz) (σ1:=σ1.put (base + i) (.blk el (vs xs.flatten) true)) ?_ (fun h => ask_frz hp hh (hdr h)) hd (hk _ (H1.push hlo hhi (r':=.sl (.buf (base + i) len sz) el sz xs true) ?_ rfl))
 ·simp only [Z5,Z1e,hp,Y0,hh,Z95,q1,Z2W,ht,hs,hz];rw [if_pos ⟨hc.1.1,hc.1.2,hc.2⟩,hf];simp only [litR,hl0];rfl
 ·exact ⟨fun y hy => by have:=List.all_eq_true.1 hx y hy;simpa using this,.inr ⟨base + i,by rw [hl],Z2D⟩⟩
end
theorem loopD_up (step step':Env→Heap→Option Out) (hst:∀ e σ r,step e σ = some r→step' e σ = some r) (j j':Nat) (hj:j≤j') (e:Env) (σ:Heap) (r:Out) (h:Z1x step j e σ = some r):Z1x step' j' e σ = some r:=by
 induction j generalizing j' e σ r with
 | zero => simp [Z1x] at h
 | succ j ihj =>
  obtain ⟨j',rfl⟩ : ∃ i,j' = i + 1:=⟨j' - 1,by omega⟩
  simp only [Z1x] at h ⊢
  split at h
  ·rename_i h1;rw [hst _ _ _ h1];exact ihj j' (by omega) _ _ _ h
  ·rename_i hn;rw [hst _ _ _ h]
   split
   ·rename_i heq;rw [h] at hn;cases heq;exact absurd rfl (hn _ _)
   ·rfl
theorem Runs.again {X:Ctx} {n:Nat} {fn:FuncId} {c:Code} {e:Env} {σ:Heap} {Q:Ex→Env→Heap→Prop} (h:Runs X n fn c e σ (Then' (fun e σ => Runs X n fn (.loop c) e σ Q) Q)):Runs X n fn (.loop c) e σ Q:=by
 obtain ⟨l1,x,e1,σ1,h1,h2⟩:=h.run
 cases x with
 | normal =>
  obtain ⟨l2,y,e2,σ2,h3,h4⟩:=Runs.run h2
  refine ⟨max l1 l2 + 1,y,e2,σ2,?_,h4⟩;simp only [ZD] at h3 ⊢;simp only [Z1x,Z1L (show l1≤max l1 l2 + 1 by omega) h1]
  exact loopD_up _ _ (fun e σ r h => Z1L (show l2≤max l1 l2 + 1 by omega) h) l2 _ (by omega) _ _ _ h3
 | exit id =>
  refine ⟨l1 + 1,_,e1,σ1,?_,h2⟩;simp only [ZD,Z1x,Z1L (show l1≤l1 + 1 by omega) h1]
 | ret =>
  refine ⟨l1 + 1,_,e1,σ1,?_,h2⟩;simp only [ZD,Z1x,Z1L (show l1≤l1 + 1 by omega) h1]
end Go.Dn

namespace Go.Dn
open Go
section
variable {X:Ctx} {n:Nat} {fn:FuncId} {ops:Array Oper} {base i:Nat} {l:List Oper} {e:Env} {σ:Heap} {K:Env→Heap→Prop}
variable {d:Nat} {t t1:TypeId} {p:String} {af:Array Edge} {x y z:Operand} {lo hi k:Nat} {L:List Res}
theorem Ops.makeMapH (H:Has σ lo hi L) (hlo:lo≤base + i) (hhi:base + i < hi) (ht:tmap X.P t1 = true) (hd:Nat.blt d n = true)
  (hk:∀ σ',Has σ' (base + i + 1) hi (.mp (base + i) [] :: L)→Ops X n false ops base (i + 1) l (set e d (.mp (base + i))) σ' K) :
  Ops X n false ops base i (⟨some d,.makeMap t1 none,t,p,af,none⟩ :: l) e σ K :=
 .plain (x:=.mp (base + i)) (σ1:=σ.put (base + i) (.map [])) (by simp only [Z5,ht,if_true]) (fun h => by cases h) hd
  (hk _ (H.push hlo hhi (r':=.mp (base + i) []) Z2D rfl))
theorem Has.mpE (H:Has σ lo hi L) {id:Nat} {kv:List (Int × Int)} (hk:L[k]? = some (.mp id kv)):σ.ent id = .map kv:=H.holds k _ hk
theorem Ops.lookupH {id:Nat} {kv:List (Int × Int)} {a:Int} (H:Has σ lo hi L) (k:Nat) (hk:L[k]? = some (.mp id kv)) (hx:Z0 X e x = some (.mp id)) (hy:Z0 X e y = some (.v (.int .i64 a))) (ht:tmap X.P t1 = true) (hd:Nat.blt d n = true)
  (hk':Ops X n false ops base (i + 1) l (set e d (.v (.int .i64 (mget kv a)))) σ K):Ops X n false ops base i (⟨some d,.lookup t1 x y false,t,p,af,none⟩ :: l) e σ K :=
 .plain (x:=.v (.int .i64 (mget kv a))) (σ1:=σ) (by simp only [Z5,hx,hy,mgetD,ht,if_true,H.mpE hk,Y8]) (fun h => by cases h) hd hk'
theorem Ops.mapUpdateH {id:Nat} {kv:List (Int × Int)} {a b:Int} (H:Has σ lo hi L) (k:Nat) (hk:L[k]? = some (.mp id kv)) (hx:Z0 X e x = some (.mp id)) (hy:Z0 X e y = some (.v (.int .i64 a))) (hz:Z0 X e z = some (.v (.int .i64 b))) (ht:tmap X.P t1 = true)
  (hk':∀ σ',Has σ' lo hi (L.set k (.mp id (mput kv a b)))→Ops X n false ops base (i + 1) l e σ' K):Ops X n false ops base i (⟨none,.mapUpdate t1 x y z,t,p,af,none⟩ :: l) e σ K :=
 .plain0 (x:=.undef) (σ1:=σ.put id (.map (mput kv a b))) (by simp only [Z5,hx,hy,hz,mupdD,ht,if_true,H.mpE hk,Y8]) (fun h => by cases h)
  (hk' _ (H.put hk rfl (r':=.mp id (mput kv a b)) Z2D rfl))
end
theorem Ops.na {X:Ctx} {n:Nat} {dr:Bool} {ops:Array Oper} {base i:Nat} {e:Env} {σ:Heap} {K:Env→Heap→Prop} {lo hi:Nat} {L:List Res} (H:Has σ lo hi L) (h:Hs σ L→K e σ):Ops X n dr ops base i [] e σ K:=.nil (h H.all)
theorem Ops.callFX {X:Ctx} {n:Nat} {dr:Bool} {ops:Array Oper} {base i:Nat} {l:List Oper} {e:Env} {σ:Heap} {K:Env→Heap→Prop} {d:Nat} {t:TypeId} {p:String} {af:Array Edge} {x:Operand} {lo hi:Nat} {L:List Res}
  {f:FuncId} {args:Array Operand} {ts:Array TypeId} {xs ys:List PV} {r:PV} {L':List Res} (H:Has σ lo hi L) (hx:Z0 X e x = some (.v (.fn f))) (ha:ZY X e args.toList = some xs) (hE:ExpVs L xs ys L') (hf:Fn X f ys r) (hi0:X.intr f xs = none) (hi1:X.thaw f = false) (hdr:dr = true→Z34 (Region.before ops) ops i = true) (hd:Nat.blt d n = true)
  (hk:∀ σ',Has σ' lo hi L'→Ops X n dr ops base (i + 1) l (set e d r) σ' K) :
  Ops X n dr ops base i (⟨some d,.call { callee:=.value x,args:=args,argTypes:=ts },t,p,af,none⟩ :: l) e σ K:=by
 obtain ⟨σ',q1,q2,q3,_⟩:=Z9n H hE
 exact .plain (x:=r) (σ1:=σ') (by simp only [Z5,Zx,ha,hx,callL_exp hf hi0 (.inl hi1) q2]) (fun h => Z5O (hdr h)) hd (hk σ' q3)
section
variable {X:Ctx} {n:Nat} {dr:Bool} {ops:Array Oper} {base i:Nat} {l:List Oper} {e:Env} {σ:Heap} {K:Env→Heap→Prop}
variable {d:Nat} {t t1:TypeId} {p:String} {af:Array Edge} {x y z:Operand} {lo hi k:Nat} {L:List Res}
theorem sliceF_ok {α:Type} {c:α→List FV} {xs r:List α} {i0 j0:Int} {P:Program} {el:TypeId} {m:Nat} {lo:Option PV} {hi mx:PV} (h:cut? xs i0 j0 = some r) (ht:tslice P t1 = some el) (hs:tsize P el = some m) (hm:∀ u,(c u).length = m)
  (hlo:(match lo with | none => some 0 | some v => Z49 v) = some i0.toNat) (hhi:Z49 hi = some j0.toNat) (hmx:Z49 mx = some j0.toNat):Z8G P t1 (.v (.sl (xs.map c))) lo (some hi) (some mx) = some (.full (r.map c)):=by
 obtain ⟨h1,h2,h3,rfl⟩:=cut?_some h
 have hc:i0.toNat≤j0.toNat∧j0.toNat≤xs.length∧Z6F (xs.map c) i0.toNat m = true:=by
  refine ⟨by omega,by omega,?_⟩
  simp only [Z6F,YP];cases xs[i0.toNat]? with
  | none => rfl
  | some u => simp [hm]
 cases lo <;> simp only [Y5] at hlo <;> simp only [Z8G,ht,Y0,hs,YY,hlo,hhi,hmx,List.map_drop,List.map_take,Option.isSome_some,and_self,if_true] <;> rw [if_pos hc]
theorem buf_exp {α:Type} {c:α→List FV} {xs:List α} {el:TypeId} {id m sz:Nat} {lv:Bool} (H:Has σ lo hi L) (hk:L[k]? = some (.sl (.buf id m sz) el sz (xs.map c) lv)) :
  ∃ σ',Z02 6 σ (.buf id m sz) = some (.sl (xs.map c),σ')∧Has σ' lo hi (L.set k (.sl (.buf id m sz) el sz (xs.map c) false)):=by
 obtain ⟨σ',a,b,_⟩:=expC_ok H (.s k hk)
 exact ⟨σ',a,b⟩
theorem Ops.sliceS {α:Type} {c:α→List FV} {xs r:List α} {el:TypeId} {m id m0:Nat} {k1:IntKind} {j0:Int} {lv:Bool} (h:cut? xs 0 j0 = some r) (H:Has σ lo hi L) (k:Nat) (hk:L[k]? = some (.sl (.buf id m0 m) el m (xs.map c) lv)) (hx:Z0 X e x = some (.buf id m0 m)) (hl:Z0 X e y = some (.v (.int k1 j0))) (ht:tslice X.P t1 = some el) (hs:tsize X.P el = some m) (hm:∀ u,(c u).length = m) (hdr:dr = true→Z34 (Region.before ops) ops i = true) (hd:Nat.blt d n = true)
  (hk':∀ σ',Has σ' lo hi (L.set k (.sl (.buf id m0 m) el m (xs.map c) false))→Ops X n dr ops base (i + 1) l (set e d (.v (.sl (r.map c)))) σ' K) (hv:X.view (.slice t1 x none (some y) none) = false:=by rfl):Ops X n dr ops base i (⟨some d,.slice t1 x none (some y) none,t,p,af,none⟩ :: l) e σ K:=by
 obtain ⟨σ',q1,q2⟩:=buf_exp H hk
 refine .plain (x:=.v (.sl (r.map c))) (σ1:=σ') ?_ (fun h => Z5O (hdr h)) hd (hk' σ' q2)
 have h':=cut?_some h
 simp only [Z5,hx,hl,optD,Y8,hv,YA,if_false,q1,Y0,ZAt h ht hs hm (lo:=none) (hi:=some (.v (.int k1 j0))) rfl (Z6s (by omega))]
theorem Ops.sliceSF {α:Type} {c:α→List FV} {xs r:List α} {el:TypeId} {m id m0:Nat} {k1 k2:IntKind} {j0:Int} {lv:Bool} (h:cut? xs 0 j0 = some r) (H:Has σ lo hi L) (k:Nat) (hk:L[k]? = some (.sl (.buf id m0 m) el m (xs.map c) lv)) (hx:Z0 X e x = some (.buf id m0 m)) (hl:Z0 X e y = some (.v (.int k1 j0))) (hm':Z0 X e z = some (.v (.int k2 j0))) (ht:tslice X.P t1 = some el) (hs:tsize X.P el = some m) (hm:∀ u,(c u).length = m) (hdr:dr = true→Z34 (Region.before ops) ops i = true) (hd:Nat.blt d n = true)
  (hk':∀ σ',Has σ' lo hi (L.set k (.sl (.buf id m0 m) el m (xs.map c) false))→Ops X n dr ops base (i + 1) l (set e d (.full (r.map c))) σ' K) (hv:X.view (.slice t1 x none (some y) (some z)) = false:=by rfl):Ops X n dr ops base i (⟨some d,.slice t1 x none (some y) (some z),t,p,af,none⟩ :: l) e σ K:=by
 obtain ⟨σ',q1,q2⟩:=buf_exp H hk
 refine .plain (x:=.full (r.map c)) (σ1:=σ') ?_ (fun h => Z5O (hdr h)) hd (hk' σ' q2)
 have h':=cut?_some h
 simp only [Z5,hx,hl,hm',optD,Y8,hv,YA,if_false,q1,Y0,sliceF_ok h ht hs hm (lo:=none) rfl (Z6s (by omega)) (Z6s (by omega))]
end
end Go.Dn

namespace Go.Dn
open Go
def Res.solid:Res→Bool
 | .hole _ => false
 | _ => true
def star (σ:Heap):Res→Res
 | .hole id => .fix id (σ.ent id)
 | r => r
theorem Z60 {σ:Heap} {r:Res}:(star σ r).owner = r.owner:=by cases r <;> rfl
theorem star_holds {σ:Heap} {r:Res} (h:r.holds σ):(star σ r).holds σ:=by cases r <;> first | exact h | exact rfl
theorem star_back {σ σ':Heap} {r:Res} (h:(star σ r).holds σ'):r.holds σ':=by cases r <;> first | exact h | trivial
theorem star_solid {σ:Heap} {r:Res}:(star σ r).solid = true:=by cases r <;> rfl
theorem solid_star {σ:Heap} {r:Res} (h:r.solid = true):star σ r = r:=by cases r <;> first | rfl | cases h
theorem same_ent {σ σ':Heap} {r:Res} {k:Nat} (hs:r.solid = true) (ho:r.owner = some k) (h:r.holds σ) (h':r.holds σ'):σ'.ent k = σ.ent k:=by
 cases r with
 | blk id t cells => cases ho;exact Eq.trans h' (Eq.symm h)
 | sl v e sz xs live =>
  obtain ⟨_,h⟩:=h
  obtain ⟨_,h'⟩:=h'
  rcases h with ⟨rfl,_⟩ | ⟨id,rfl,h⟩
  ·cases ho
  ·cases ho
   rcases h' with ⟨h',_⟩ | ⟨id',h2,h'⟩
   ·cases h'
   ·cases h2;exact h'.trans h.symm
 | floor m => cases ho
 | hole id => cases hs
 | loop id fn e n ps as_ bo st pd => cases ho;exact Eq.trans h' (Eq.symm h)
 | mp id kv => cases ho;exact Eq.trans h' (Eq.symm h)
 | fix id en => cases ho;exact Eq.trans h' (Eq.symm h)
section
variable {σ:Heap} {lo hi:Nat} {L C:List Res}
theorem Has.star (H:Has σ lo hi L):Has σ σ.nx σ.nx (L.map (star σ)):=by
 refine ⟨fun k r h => ?_,fun k r h id ho => ?_,fun j k r s hjk h1 h2 id ho => ?_,YB _⟩
 ·rw [YP,Y1] at h;obtain ⟨q,hq,rfl⟩:=h
  exact star_holds (H.holds k q hq)
 ·rw [YP,Y1] at h;obtain ⟨q,hq,rfl⟩:=h
  rw [Z60] at ho;have:=(H.lt k q hq id ho).2
  exact ⟨.inl this,this⟩
 ·rw [YP,Y1] at h1 h2;obtain ⟨q,hq,rfl⟩:=h1
  obtain ⟨q',hq',rfl⟩:=h2
  rw [Z60] at ho ⊢;exact H.sep j k q q' hjk hq hq' id ho
theorem Has.add (H:Has σ σ.nx σ.nx L) {id:Nat} (hl:id < σ.nx) (hn:∀ r ∈ L,r.owner ≠ some id):Has σ σ.nx σ.nx (.fix id (σ.ent id) :: L):=by
 refine ⟨fun j s h => ?_,fun j s h id' ho2 => ?_,fun i j s t hij h1 h2 id' hs => ?_,H.le⟩
 ·cases j with
  | zero => cases h;exact rfl
  | succ j => exact H.holds j s h
 ·cases j with
  | zero => cases h;cases ho2;exact ⟨.inl hl,hl⟩
  | succ j => exact H.lt j s h id' ho2
 ·cases i with
  | zero =>
   cases h1;cases hs;cases j with
   | zero => exact absurd rfl hij
   | succ j => exact hn t (Y6 h2)
  | succ i =>
   cases j with
   | zero =>
    cases h2;intro e;cases e;exact hn s (Y6 h1) hs
   | succ j => exact H.sep i j s t (fun e => hij (by rw [e])) h1 h2 id' hs
def fixL (σ:Heap) (L:List Res):Nat→List Res
 | 0 => L.map (star σ)
 | k + 1 => if (fixL σ L k).any (fun r => r.owner == some k) then fixL σ L k else .fix k (σ.ent k) :: fixL σ L k
theorem fixL_has (H:Has σ lo hi L):∀ (m:Nat),m≤σ.nx→Has σ σ.nx σ.nx (fixL σ L m)
 | 0,_ => H.star
 | k + 1,h => by
  have ih:=fixL_has H k (by omega)
  simp only [fixL]
  split
  ·exact ih
  ·rename_i hn;refine ih.add (by omega) fun r hr ho => hn ?_
   rw [List.any_eq_true];exact ⟨r,hr,by rw [ho];simp⟩
theorem Sub.star {C L:List Res} (h:Sub C L):C.all Res.solid = true→Sub C (L.map (star σ)):=by
 induction h with
 | nil => intro _;exact .nil
 | cons k h t ih =>
  intro hs;simp only [Yw,Y9] at hs;exact .cons k (by rw [YP,h,Y8,solid_star hs.1]) (ih hs.2)
theorem fixL_sub (hC:Sub C L) (hs:C.all Res.solid = true):∀ (m:Nat),Sub C (fixL σ L m)
 | 0 => hC.star hs
 | k + 1 => by
  simp only [fixL]
  split
  ·exact fixL_sub hC hs k
  ·exact (fixL_sub hC hs k).push
theorem Z6g {r:Res} (h:r ∈ L):∀ (m:Nat),star σ r ∈ fixL σ L m
 | 0 => List.mem_map.2 ⟨r,h,rfl⟩
 | k + 1 => by
  simp only [fixL]
  split
  ·exact Z6g h k
  ·exact YH _ (Z6g h k)
theorem Z9g:∀ (m:Nat),∀ r ∈ fixL σ L m,r.solid = true
 | 0,r,h => by
  obtain ⟨q,_,rfl⟩:=List.mem_map.1 h
  exact star_solid
 | k + 1,r,h => by
  simp only [fixL] at h
  split at h
  ·exact Z9g k r h
  ·rcases List.mem_cons.1 h with rfl | h
   ·rfl
   ·exact Z9g k r h
theorem fixL_all:∀ (m k:Nat),k < m→∃ r ∈ fixL σ L m,r.owner = some k
 | 0,k,h => by omega
 | m + 1,k,h => by
  simp only [fixL]
  split
  ·rename_i hn
   rcases YI k m with h' | h'
   ·exact fixL_all m k h'
   ·have:k = m:=by omega
    subst this;rw [List.any_eq_true] at hn;obtain ⟨r,hr,ho⟩:=hn
    exact ⟨r,hr,by simpa using ho⟩
  ·rcases YI k m with h' | h'
   ·obtain ⟨r,hr,ho⟩:=fixL_all m k h'
    exact ⟨r,YH _ hr,ho⟩
   ·have:k = m:=by omega
    subst this;exact ⟨_,YG,rfl⟩
theorem fixL_out {σ':Heap} {A:List Res} (H:Has σ lo hi L) (hm:hi≤σ.nx) {lo' hi':Nat} (H':Has σ' lo' hi' (A ++ fixL σ L hi)):(∀ k,k < hi→σ'.ent k = σ.ent k)∧Has σ' lo hi (A ++ L):=by
 have hh:∀ r ∈ fixL σ L hi,∃ j,(A ++ fixL σ L hi)[A.length + j]? = some r:=fun r hr => by
  obtain ⟨j,hj,rfl⟩:=Yj hr
  exact ⟨j,by rw [YN (by omega),Yi,Y2 hj]⟩
 have h0:∀ r ∈ fixL σ L hi,r.holds σ:=fun r hr => by
  obtain ⟨j,hj,rfl⟩:=Yj hr
  exact (fixL_has H hi hm).holds j _ (Y2 hj)
 have hA:∀ (j:Nat) (r:Res),A[j]? = some r→(A ++ fixL σ L hi)[j]? = some r:=fun j r h => by
  rw [YK (List.getElem?_eq_some_iff.1 h).1];exact h
 have hAl:∀ (j:Nat) (r:Res),A[j]? = some r→j < A.length:=fun j r h => (List.getElem?_eq_some_iff.1 h).1
 have all:∀ k,k < hi→∃ r ∈ fixL σ L hi,r.owner = some k:=fun k hk => fixL_all hi k hk
 have big:hi≤σ'.nx:=by
  rcases Y0Z hi with h | h
  ·omega
  ·obtain ⟨r,hr,ho⟩:=all (hi - 1) (by omega)
   obtain ⟨j,hj⟩:=hh r hr
   have:=(H'.lt _ r hj _ ho).2
   omega
 refine ⟨fun k hk => ?_,fun k r h => ?_,fun k r h id ho => ?_,fun i j r s hij h1 h2 id ho => ?_,big⟩
 ·obtain ⟨r,hr,ho⟩:=all k hk
  obtain ⟨j,hj⟩:=hh r hr
  exact same_ent (Z9g hi r hr) ho (h0 r hr) (H'.holds _ r hj)
 ·rcases YI k A.length with hk | hk
  ·rw [YK hk] at h;exact H'.holds k r (hA k r h)
  ·rw [YN hk] at h;obtain ⟨j,hj⟩:=hh _ (Z6g (Y6 h) hi)
   exact star_back (H'.holds _ _ hj)
 ·rcases YI k A.length with hk | hk
  ·rw [YK hk] at h;refine ⟨.inr ?_,(H'.lt k r (hA k r h) id ho).2⟩
   rcases YI id hi with h' | h'
   ·obtain ⟨q,hq,hqo⟩:=all id h'
    obtain ⟨j,hj⟩:=hh q hq
    exact absurd hqo (H'.sep k _ r q (by omega) (hA k r h) hj id ho)
   ·exact h'
  ·rw [YN hk] at h;obtain ⟨j,hj⟩:=hh _ (Z6g (Y6 h) hi)
   exact ⟨(H.lt _ r h id ho).1,(H'.lt _ _ hj id (by rw [Z60];exact ho)).2⟩
 ·rcases YI i A.length with hi' | hi' <;> rcases YI j A.length with hj' | hj'
  ·rw [YK hi'] at h1;rw [YK hj'] at h2;exact H'.sep i j r s hij (hA i r h1) (hA j s h2) id ho
  ·rw [YK hi'] at h1;rw [YN hj'] at h2;obtain ⟨k,hk⟩:=hh _ (Z6g (Y6 h2) hi)
   have:=H'.sep i _ r _ (by omega) (hA i r h1) hk id ho
   rw [Z60] at this;exact this
  ·rw [YN hi'] at h1;rw [YK hj'] at h2;obtain ⟨k,hk⟩:=hh _ (Z6g (Y6 h1) hi)
   exact H'.sep _ j _ s (by omega) hk (hA j s h2) id (by rw [Z60];exact ho)
  ·rw [YN hi'] at h1;rw [YN hj'] at h2;exact H.sep _ _ r s (by omega) h1 h2 id ho
end
section
variable {X:Ctx} {n:Nat} {dr:Bool} {fn:FuncId} {ops:Array Oper} {base i:Nat} {l:List Oper} {e:Env} {σ:Heap} {K:Env→Heap→Prop}
variable {d:Nat} {t:TypeId} {p:String} {af:Array Edge} {x:Operand} {lo hi:Nat} {L C:List Res}
theorem Ops.stepS {o:Oper} {e1:Env} {σ1:Heap} (h:Z0s X (Z0M X) n ops base i o e σ = some (e1,σ1)) (ha:dr = true→Z4j X (Z0M X) ops base i o e σ) (hk:Ops X n dr ops base (i + 1) l e1 σ1 K):Ops X n dr ops base i (o :: l) e σ K:=by
 obtain ⟨e',σ',h1,h2⟩:=hk.run
 refine ⟨⟨e',σ',?_,h2⟩⟩
 cases dr with
 | false =>
  simp only [YA,if_false] at h1 ⊢;simp only [Z2Q,h,Y0,h1]
 | true =>
  simp only [if_true] at h1 ⊢;have:Z0c X (Z0M X) n ops base i o e σ = some (e1,σ1):=by
   unfold Z0c
   split
   ·rw [if_pos (ha rfl)];exact h
   ·exact h
  simp only [Z1U,this,Y0,h1]
theorem Ops.plainS {op:Op} {v:PV} {σ1:Heap} (h:Z5 X (Z0M X) e σ (base + i) op = some (v,σ1)) (hkd:Zs op = .call) (hq:dr = true→Z5g ops i = true) (hs:∀ k,k < base + ops.size→Alike (σ.ent k) (σ1.ent k)) (hd:Nat.blt d n = true) (hk:Ops X n dr ops base (i + 1) l (set e d v) σ1 K):Ops X n dr ops base i (⟨some d,op,t,p,af,none⟩ :: l) e σ K:=by
 refine .stepS (e1:=set e d v) (σ1:=σ1) ?_ (fun hdr => ⟨hkd,.inr ⟨hq hdr,fun id r σ' hr => ?_⟩⟩) hk
 ·simp only [Z0s,Zz,h,Y0,putD,if_pos (ZAs hd),ZBE]
 ·have h2:Z5 X (Z0M X) e σ id op = some (v,σ1):=by rw [Z7q (id':=base + i) hkd];exact h
  rw [h2] at hr;cases hr;exact hs
theorem Ops.callVS {cv:PV} {args:Array Operand} {ts:Array TypeId} {ys:List PV} {r:PV} (H:Has σ lo hi L) (hx:Z0 X e x = some cv) (ha:ZY X e args.toList = some ys) (hf:CloH X cv ys r C) (hC:Sub C L) (hso:C.all Res.solid = true) (hhi:base + ops.size = hi)
  (hq:dr = true→Z5g ops i = true) (hd:Nat.blt d n = true)
  (hk:∀ σ',Has σ' lo hi L→Ops X n dr ops base (i + 1) l (set e d r) σ' K) :
  Ops X n dr ops base i (⟨some d,.call { callee:=.value x,args:=args,argTypes:=ts },t,p,af,none⟩ :: l) e σ K:=by
 obtain ⟨σ',q1,q2⟩:=hf σ σ.nx σ.nx _ (fixL_sub hC hso hi) (fixL_has H _ H.le)
 obtain ⟨q3,q4⟩:=fixL_out (A:=[]) H H.le q2
 subst hhi
 refine .plainS (v:=r) (σ1:=σ') ?_ rfl hq (fun k hk => .inl (q3 k hk)) hd (hk σ' q4)
 simp only [Z5]
 exact ZCQ rfl hx ha q1
end
inductive FzC (L:List Res):PV→FV→Prop
 | v (y:FV):FzC L (.v y) y
 | n:FzC L .nils (.sl [])
 | ro {v:PV} {xs:List (List FV)} (h:RO v xs):FzC L v (.sl xs)
 | s {v:PV} {et:TypeId} {sz:Nat} {xs:List (List FV)} (k:Nat) (h:L[k]? = some (.sl v et sz xs false)):FzC L v (.sl xs)
inductive FzCs (L:List Res):List PV→List FV→Prop
 | nil:FzCs L [] []
 | cons {x:PV} {y:FV} {xs:List PV} {ys:List FV} (h:FzC L x y) (t:FzCs L xs ys):FzCs L (x :: xs) (y :: ys)
inductive FzV (L:List Res):PV→PV→Prop
 | c {x:PV} {y:FV} (h:FzC L x y):FzV L x (.v y)
 | a {xs:List PV} {ys:List FV} (h:FzCs L xs ys):FzV L (.agg xs) (.agg (vs ys))
 | p {x:PV} (h:x.pure = true):FzV L x x
inductive FzVs (L:List Res):List PV→List PV→Prop
 | nil:FzVs L [] []
 | cons {x y:PV} {xs ys:List PV} (h:FzV L x y) (t:FzVs L xs ys):FzVs L (x :: xs) (y :: ys)
section
variable {σ:Heap} {lo hi:Nat} {L:List Res}
end
def PV.one:PV→Bool
 | .v _ => true
 | .fptr _ => true
 | .ptr _ _ _ => true
 | .clo _ _ _ => true
 | .yld _ => true
 | _ => false
theorem Z5Y {x:PV} (h:x.one = true):x.still = true:=by cases x <;> first | rfl | cases h
theorem one_cells {x:PV} (h:x.one = true):x.cells = some [x]:=by cases x <;> first | rfl | cases h
end Go.Dn

namespace Go.Dn
open Go
def cF (n:Nat):List FV:=[.fn n]
def tailsOK (ops:Array Oper):Nat→List Oper→Bool
 | _,[] => true
 | k,o :: l => (o.after.all fun e => !Region.binds .any e || decide (e.on < k)) && (l.all fun oj => oj.after.any (fun e => Region.binds .any e && e.on == k) || o.apart ops oj) && tailsOK ops (k + 1) l
section
variable {X:Ctx} {n:Nat} {dr:Bool} {ops:Array Oper} {base i:Nat} {l:List Oper} {e:Env} {σ:Heap} {K:Env→Heap→Prop}
variable {d:Nat} {t t1:TypeId} {p:String} {af:Array Edge} {x y:Operand} {lo hi:Nat} {L:List Res}
end
end Go.Dn

namespace Go.Dn
open Go
theorem p2 {A B:Type} {a a':A} {b b':B} (h:(a,b) = (a',b')):a = a'∧b = b':=by cases h;exact ⟨rfl,rfl⟩
theorem p3 {A B C:Type} {a a':A} {b b':B} {c c':C} (h:(a,b,c) = (a',b',c')):a = a'∧b = b'∧c = c':=by cases h;exact ⟨rfl,rfl,rfl⟩
theorem p4 {A B C D:Type} {a a':A} {b b':B} {c c':C} {d d':D} (h:(a,b,c,d) = (a',b',c',d')):a = a'∧b = b'∧c = c'∧d = d':=by cases h;exact ⟨rfl,rfl,rfl,rfl⟩
theorem p5 {A B C D E:Type} {a a':A} {b b':B} {c c':C} {d d':D} {e e':E} (h:(a,b,c,d,e) = (a',b',c',d',e')):a = a'∧b = b'∧c = c'∧d = d'∧e = e':=by cases h;exact ⟨rfl,rfl,rfl,rfl,rfl⟩
def gOK (ops:Array Oper) (e:Env):Option (Nat × Bool)→Bool
 | none => true
 | some (j,w) => match (ops[j]?).bind (·.dst) with
  | some d => match e d with
   | .v (.bool b) => b == w
   | _ => false
  | none => false
def skipN (ops:Array Oper) (n:Nat):Nat→List Oper→Env→Option (List Oper × Env)
 | 0,l,e => some (l,e)
 | k + 1,[],e => none
 | k + 1,o :: l,e => match o.guard with
  | some (j,w) => match (ops[j]?).bind (·.dst) with
   | some g => match e g with
    | .v (.bool b) => bif b == w then none else match o.dst with
     | some d => bif Nat.blt d n then skipN ops n k l (set e d .undef) else none
     | none => skipN ops n k l e
    | .undef => match o.dst with
     | some d => bif Nat.blt d n then skipN ops n k l (set e d .undef) else none
     | none => skipN ops n k l e
    | _ => none
   | none => none
  | none => none
theorem EI {e:Env}:∀ {L:List (Nat × PV)},(L.map fun p => e p.1) = L.map (·.2)→ZE e L
 | [],_ => trivial
 | (k,v) :: L,h => by
  have h1:=List.cons.inj h
  exact ⟨h1.1,EI h1.2⟩
section
variable {X:Ctx} {n:Nat} {dr:Bool} {fn:FuncId} {ops:Array Oper} {base i:Nat} {l:List Oper} {e:Env} {σ:Heap} {K:Env→Heap→Prop} {Q:Ex→Env→Heap→Prop} {c a b:Code}
variable {d:Nat} {t t1 t2:TypeId} {p:String} {af:Array Edge} {x y:Operand} {v:PV} {lo hi:Nat} {L:List Res} {g:Option (Nat × Bool)} {dst:Option Tmp} {op:Op}
theorem Ops.gd (hg:gOK ops e g = true) (hk:Ops X n dr ops base i (⟨dst,op,t,p,af,none⟩ :: l) e σ K):Ops X n dr ops base i (⟨dst,op,t,p,af,g⟩ :: l) e σ K:=by
 cases g with
 | none => exact hk
 | some q =>
  obtain ⟨j,w⟩:=q
  simp only [gOK] at hg
  split at hg
  ·rename_i d hd
   split at hg
   ·rename_i b hb;have:b = w:=by simpa using hg
    subst this;exact .wanted hd hb hk
   ·cases hg
  ·cases hg
theorem Ops.ps {l':List Oper} {e':Env}:∀ (k:Nat) {i:Nat} {l:List Oper} {e:Env},skipN ops n k l e = some (l',e')→Ops X n dr ops base (i + k) l' e' σ K→Ops X n dr ops base i l e σ K
 | 0,i,l,e,h,hk => by cases h;exact hk
 | k + 1,i,[],e,h,hk => by cases h
 | k + 1,i,⟨dst,op,t,p,af,none⟩ :: l,e,h,hk => by cases h
 | k + 1,i,⟨dst,op,t,p,af,some (j,w)⟩ :: l,e,h,hk => by
  rw [show i + (k + 1) = i + 1 + k by omega] at hk
  simp only [skipN] at h
  split at h
  ·rename_i g hg
   split at h
   ·rename_i b hb;cases hw:b == w with
    | true => rw [hw] at h;cases h
    | false =>
     rw [hw] at h;have hb':e g = .v (.bool (!w)):=by rw [hb];cases b <;> cases w <;> first | rfl | cases hw
     simp only [cond_false] at h;cases dst with
     | some d =>
      cases hd:Nat.blt d n with
      | false => simp [hd] at h
      | true => simp only [hd,cond_true] at h;exact .pass hg hb' hd (Ops.ps k h hk)
     | none => exact .pass0 hg hb' (Ops.ps k h hk)
   ·rename_i hb;cases dst with
    | some d =>
     cases hd:Nat.blt d n with
     | false => simp [hd] at h
     | true => simp only [hd,cond_true] at h;exact .passU hg hb hd (Ops.ps k h hk)
    | none => exact .pass0U hg hb (Ops.ps k h hk)
   ·cases h
  ·cases h
theorem Ops.m1 (v:PV) (h1:Z0 X e x = some v) (h:(Nat.blt d n,gOK ops e g) = (true,true)) (hk:Ops X n dr ops base (i + 1) l (set e d v) σ K):Ops X n dr ops base i (⟨some d,.move x,t,p,af,g⟩ :: l) e σ K :=
 .gd (p2 h).2 (.move h1 (p2 h).1 hk)
theorem Ops.a1 (v:PV) (h1:Z0 X e x = some v) (h:(Nat.blt d n,gOK ops e g) = (true,true)) (hk:Ops X n dr ops base (i + 1) l (set e d v) σ K):Ops X n dr ops base i (⟨some d,.assign x,t,p,af,g⟩ :: l) e σ K :=
 .gd (p2 h).2 (.assign h1 (p2 h).1 hk)
theorem Ops.mV {u:FV} (h:(Z0 X e x,Nat.blt d n,gOK ops e g) = (some (.v u),true,true)) (hk:Ops X n dr ops base (i + 1) l (set e d (.v u)) σ K):Ops X n dr ops base i (⟨some d,.move x,t,p,af,g⟩ :: l) e σ K:=.gd (p3 h).2.2 (.move (p3 h).1 (p3 h).2.1 hk)
theorem Ops.aV {u:FV} (h:(Z0 X e x,Nat.blt d n,gOK ops e g) = (some (.v u),true,true)) (hk:Ops X n dr ops base (i + 1) l (set e d (.v u)) σ K):Ops X n dr ops base i (⟨some d,.assign x,t,p,af,g⟩ :: l) e σ K:=.gd (p3 h).2.2 (.assign (p3 h).1 (p3 h).2.1 hk)
theorem Ops.tV {b:Bool} (h:(Z0 X e x,Nat.blt d n,gOK ops e g) = (some (.v (.bool b)),true,true)) (hk:Ops X n dr ops base (i + 1) l (set e d (.v (.bool (!b)))) σ K):Ops X n dr ops base i (⟨some d,.unOp .not t1 x,t,p,af,g⟩ :: l) e σ K:=.gd (p3 h).2.2 (.not (p3 h).1 (p3 h).2.1 hk)
theorem Ops.iV {op:BinOp} {k:IntKind} {m m':Int} {r:FV} (h:(Z0 X e x,Z0 X e y,Z8L op k m m',Nat.blt d n,(op != .shl && op != .shr) && gOK ops e g) = (some (.v (.int k m)),some (.v (.int k m')),some r,true,true)) (hk:Ops X n dr ops base (i + 1) l (set e d (.v r)) σ K) :
  Ops X n dr ops base i (⟨some d,.binOp op t1 x y t2,t,p,af,g⟩ :: l) e σ K:=by
 obtain ⟨h1,h2,h3,h4,h5⟩:=p5 h
 rw [Y9] at h5
 exact .gd h5.2 (.int h1 h2 h5.1 h3 h4 hk)
theorem Ops.xV {vs:List PV} {j:Nat} (h:(Z0 X e x,vs[j]?,Nat.blt d n,gOK ops e g) = (some (.tup vs),some v,true,true)) (hk:Ops X n dr ops base (i + 1) l (set e d v) σ K):Ops X n dr ops base i (⟨some d,.extract x j,t,p,af,g⟩ :: l) e σ K:=by
 obtain ⟨h1,h2,h3,h4⟩:=p4 h
 exact .gd h4 (.extract h1 h2 h3 hk)
theorem Ops.kT {c:Operand} {u:FV} (h:(Z0 X e c,Z0 X e x,Nat.blt d n,gOK ops e g) = (some (.v (.bool true)),some (.v u),true,true)) (hk:Ops X n dr ops base (i + 1) l (set e d (.v u)) σ K):Ops X n dr ops base i (⟨some d,.pick c x y,t,p,af,g⟩ :: l) e σ K:=by
 obtain ⟨h1,h2,h3,h4⟩:=p4 h
 exact .gd h4 (.pickT h1 h2 h3 hk)
theorem Ops.kF {c:Operand} {u:FV} (h:(Z0 X e c,Z0 X e y,Nat.blt d n,gOK ops e g) = (some (.v (.bool false)),some (.v u),true,true)) (hk:Ops X n dr ops base (i + 1) l (set e d (.v u)) σ K):Ops X n dr ops base i (⟨some d,.pick c x y,t,p,af,g⟩ :: l) e σ K:=by
 obtain ⟨h1,h2,h3,h4⟩:=p4 h
 exact .gd h4 (.pickF h1 h2 h3 hk)
theorem Ops.bV {parts:Array (Nat × Operand)} (cs:List PV) (h:(ZAh X e t1 parts.toList,Nat.blt d n,gOK ops e g) = (some (.agg cs),true,true)) (hk:Ops X n dr ops base (i + 1) l (set e d (.agg cs)) σ K):Ops X n dr ops base i (⟨some d,.build t1 parts,t,p,af,g⟩ :: l) e σ K :=
 .gd (p3 h).2.2 (.buildA (p3 h).1 (p3 h).2.1 hk)
theorem Ops.cV {f:FuncId} {args:Array Operand} {ts:Array TypeId} {ys:List PV} {r:PV} (hf:Fn X f ys r) (h:(ZY X e args.toList,Nat.blt d n,gOK ops e g) = (some ys,true,true)) (hk:Ops X n dr ops base (i + 1) l (set e d r) σ K) :
  Ops X n dr ops base i (⟨some d,.call { callee:=.value (.func f),args:=args,argTypes:=ts },t,p,af,g⟩ :: l) e σ K:=.gd (p3 h).2.2 (.call (p3 h).1 hf (p3 h).2.1 hk)
theorem Ops.nV {α:Type} {c:α→List FV} {xs:List α} {el:TypeId} (h:(Z0 X e x,tslice X.P t1,Nat.blt d n,gOK ops e g) = (some (.v (.sl (xs.map c))),some el,true,true))
  (hk':Ops X n dr ops base (i + 1) l (set e d (.v (.int .i64 xs.length))) σ K):Ops X n dr ops base i (⟨some d,.call { callee:=.builtin .len,args:=#[x],argTypes:=#[t1] },t,p,af,g⟩ :: l) e σ K:=by
 obtain ⟨h1,h2,h3,h4⟩:=p4 h
 exact .gd h4 (.lenPt h1 h2 h3 hk')
theorem Ops.jV {α:Type} {c:α→List FV} {xs:List α} {iv:Int} {ik:IntKind} {u:α} {m:Nat} (hu:at? xs iv = some u) (h:(Z0 X e x,Z0 X e y,(tslice X.P t1).bind (tsize X.P),(c u).length,(tslice X.P t1).isSome && Nat.blt d n && gOK ops e g) = (some (.v (.sl (xs.map c))),some (.v (.int ik iv)),some m,m,true))
  (hk':Ops X n dr ops base (i + 1) l (set e d (.fptr (c u))) σ K):Ops X n dr ops base i (⟨some d,.indexAddr t1 x y,t,p,af,g⟩ :: l) e σ K:=by
 obtain ⟨h1,h2,h3,h4,h5⟩:=p5 h
 simp only [Y9,Option.isSome_iff_exists] at h5
 obtain ⟨⟨⟨el,he⟩,h6⟩,h7⟩:=h5
 rw [he,Y0] at h3
 exact .gd h7 (.indexP h1 h2 hu he h3 h4 h6 hk')
theorem Ops.pV {u:FV} {cells:List FV} (h:(Z0 X e x,tagg X.P t1,cells[0]?,Nat.blt d n,gOK ops e g) = (some (.fptr cells),some false,some u,true,true))
  (hk':Ops X n dr ops base (i + 1) l (set e d (.v u)) σ K):Ops X n dr ops base i (⟨some d,.load t1 x,t,p,af,g⟩ :: l) e σ K:=by
 obtain ⟨h1,h2,h3,h4,h5⟩:=p5 h
 exact .gd h5 (.loadP h1 h2 h3 h4 hk')
theorem Ops.qV {m:Nat} {cells:List FV} (cs:List FV) (h:(Z0 X e x,tsize X.P t1,cells.take m,(tagg X.P t1 == some true) && Nat.ble m cells.length && Nat.blt d n,gOK ops e g) = (some (.fptr cells),some m,cs,true,true))
  (hk':Ops X n dr ops base (i + 1) l (set e d (.agg (vs cs))) σ K):Ops X n dr ops base i (⟨some d,.load t1 x,t,p,af,g⟩ :: l) e σ K:=by
 obtain ⟨h1,h2,h3,h4,h5⟩:=p5 h
 simp only [Y9,beq_iff_eq] at h4
 exact .gd h5 (.loadPA h1 h4.1.1 h2 h4.1.2 h3 h4.2 hk')
theorem Ops.fV {id ver off f fo:Nat} {ft:TypeId} {m:Nat} {te:TypeId} {cells:List PV} (H:Has σ lo hi L) (k:Nat) (h:(Z0 X e x,L[k]?,tfield X.P t1 f,tsize X.P ft,Nat.beq cells.length ver && Nat.blt d n && gOK ops e g) = (some (.ptr id ver off),some (.blk id te cells),some (fo,ft),some (m + 1),true))
  (hk':Ops X n false ops base (i + 1) l (set e d (.ptr id ver (off + fo))) σ K):Ops X n false ops base i (⟨some d,.fieldAddr t1 x f,t,p,af,g⟩ :: l) e σ K:=by
 obtain ⟨h1,h2,h3,h4,h5⟩:=p5 h
 simp only [Y9] at h5
 exact .gd h5.2 (.ZN H k h2 (Y0N h5.1.1) h1 h3 h4 nofun h5.1.2 hk')
theorem Ops.lV {id ver off:Nat} {te:TypeId} {cells:List PV} (H:Has σ lo hi L) (k:Nat) (h:(Z0 X e x,L[k]?,tagg X.P t1,cells[off]?,Nat.beq cells.length ver && Nat.blt d n && gOK ops e g) = (some (.ptr id ver off),some (.blk id te cells),some false,some v,true))
  (hk':Ops X n false ops base (i + 1) l (set e d v) σ K):Ops X n false ops base i (⟨some d,.load t1 x,t,p,af,g⟩ :: l) e σ K:=by
 obtain ⟨h1,h2,h3,h4,h5⟩:=p5 h
 simp only [Y9] at h5
 exact .gd h5.2 (.loadH H k h2 (Y0N h5.1.1) h1 h3 h4 nofun h5.1.2 hk')
theorem Ops.LV {id ver off m:Nat} {te:TypeId} {cells:List PV} (cs:List PV) (H:Has σ lo hi L) (k:Nat) (h:(Z0 X e x,L[k]?,tsize X.P t1,(cells.drop off).take m,(tagg X.P t1 == some true) && Nat.ble (off + m) cells.length && Nat.beq cells.length ver && Nat.blt d n && gOK ops e g) = (some (.ptr id ver off),some (.blk id te cells),some m,cs,true))
  (hk':Ops X n false ops base (i + 1) l (set e d (.agg cs)) σ K):Ops X n false ops base i (⟨some d,.load t1 x,t,p,af,g⟩ :: l) e σ K:=by
 obtain ⟨h1,h2,h3,h4,h5⟩:=p5 h
 simp only [Y9,beq_iff_eq] at h5
 exact .gd h5.2 (.Z2N H k h2 (Y0N h5.1.1.2) h1 h5.1.1.1.1 h3 h5.1.1.1.2 h4 nofun h5.1.2 hk')
theorem Ops.sV {id ver off:Nat} {te:TypeId} {cells ys:List PV} (cells':List PV) (H:Has σ lo hi L) (k:Nat) (h:(Z0 X e x,L[k]?,(Z0 X e y).bind PV.cells,splice cells off ys,(tsize X.P t1 == some ys.length) && Nat.ble (off + ys.length) cells.length && Nat.beq cells.length ver && gOK ops e g) = (some (.ptr id ver off),some (.blk id te cells),some ys,cells',true))
  (hk':∀ σ',Has σ' lo hi (L.set k (.blk id te cells'))→Ops X n false ops base (i + 1) l e σ' K):Ops X n false ops base i (⟨none,.store t1 x y,t,p,af,g⟩ :: l) e σ K:=by
 obtain ⟨h1,h2,h3,h4,h5⟩:=p5 h
 simp only [Y9,beq_iff_eq] at h5
 rw [Y4] at h3
 obtain ⟨v,h6,h7⟩:=h3
 exact .gd h5.2 (.Z39 H k h2 (Y0N h5.1.2) h1 h6 h7 h5.1.1.1 rfl h5.1.1.2 h4 nofun hk')
theorem Ops.md {L0:List Res} (H:Has σ lo hi L0) (k:Nat) (E:List (Nat × PV)) (L:List Res) (hk:Nat.ble k l.length = true) (h1:Ops X n dr ops base i (l.take k) e σ fun e σ => ZE e E∧Has σ (base + (i + k)) hi L) (h2:∀ e σ,Has σ (base + (i + k)) hi L→Ops X n dr ops base (i + k) (l.drop k) (sets e E) σ K):Ops X n dr ops base i l e σ K :=
 .mid k hk h1 fun e σ ⟨he,H⟩ => by rw [he.eq];exact h2 e σ H
theorem Runs.wh {α:Type} {c:Bool} {A B z:α} {t:Operand} (h:(bif c then A else B) = z) (ht:Z0 X e t = some (.v (.bool c))) (h1:A = z→Runs X n fn a e σ Q) (h2:B = z→Runs X n fn b e σ Q):Runs X n fn (.cond t a b) e σ Q :=
 .whether ht (fun hc => h1 (cond_T hc h)) fun hc => h2 (cond_F hc h)
theorem Ops.sp {α:Type} {j gt:Nat} {w v:Bool} {A B z:α} (hb:(bif v then A else B) = z) (h:((ops[j]?).bind (·.dst),e gt) = (some gt,.v (.bool v))) (ht:A = z→Ops X n dr ops base i (⟨dst,op,t,p,af,some (j,w)⟩ :: l) (set e gt (.v (.bool true))) σ K)
  (hf:B = z→Ops X n dr ops base i (⟨dst,op,t,p,af,some (j,w)⟩ :: l) (set e gt (.v (.bool false))) σ K):Ops X n dr ops base i (⟨dst,op,t,p,af,some (j,w)⟩ :: l) e σ K :=
 .split (p2 h).1 (p2 h).2 (fun hc => ht (cond_T hc hb)) fun hc => hf (cond_F hc hb)
theorem Runs.lp {S R β:Type} {step:S→Option (S ⊕ R)} {s:S} {G:R→Option β} {z:β} (h:(Dn.loopO step s).bind G = some z) (E:S→List (Nat × PV)) (L:S→List Res) (ex:Ex) (E':R→List (Nat × PV)) (L':R→List Res) (h0:ZE e (E s)) (H:Hs σ (L s))
  (hs:∀ s e σ,Hs σ (L s)→∀ z,step s = some z→Runs X n fn c (sets e (E s)) σ (LoopEnd (fun s e σ => ZE e (E s)∧Hs σ (L s)) (fun y x e σ => x = ex∧ZE e (E' y)∧Hs σ (L' y)) z))
  (hq:∀ y e σ,Hs σ (L' y)→G y = some z→Q ex (sets e (E' y)) σ):Runs X n fn (.loop c) e σ Q:=by
 obtain ⟨y,h1,h2⟩:=bind_some h
 obtain ⟨k,h1⟩:=ZR.1 h1
 refine (Runs.loopO h1 (fun s e σ => ZE e (E s)∧Hs σ (L s)) (fun y x e σ => x = ex∧ZE e (E' y)∧Hs σ (L' y)) ⟨h0,H⟩ ?_).mono ?_
 ·rintro s e σ ⟨he,H⟩ z hz;rw [he.eq];exact hs s e σ H z hz
 ·rintro x e σ ⟨rfl,he,H⟩;rw [he.eq];exact hq y e σ H h2
theorem Runs.jn {A B:Type} {o:Option A} {G:A→Option B} {z:B} (h:o.bind G = some z) (ex:Ex) (E:A→List (Nat × PV)) (L:A→List Res)
  (h1:∀ y,o = some y→Runs X n fn c e σ fun x e σ => x = ex∧ZE e (E y)∧Hs σ (L y)) (h2:∀ y e σ,Hs σ (L y)→G y = some z→Q ex (sets e (E y)) σ):Runs X n fn c e σ Q:=by
 obtain ⟨y,h3,h4⟩:=bind_some h
 refine (h1 y h3).mono ?_
 rintro x e σ ⟨rfl,he,H⟩
 rw [he.eq]
 exact h2 y e σ H h4
theorem Runs.tR {id:Nat} {os:List Oper} (m:Nat) (hm:os.length = m) (H:Hs σ L) (h:∀ base σ',Has σ' base (base + m) L→Ops X n false os.toArray base 0 os e σ' fun e σ => Runs X n fn b e σ Q):Runs X n fn (.seq (.region id os.toArray false) b) e σ Q :=
 .then (.ZJ m hm H h)
theorem bs {α β:Type} {x:Option α} {f:α→Option β} {b:β} (h:x.bind f = some b):∃ a,x = some a∧f a = some b:=Option.bind_eq_some_iff.1 h
theorem Ops.alc {cs:List PV} (H:Has σ lo hi L) (hz:tzero X.P t1 = some cs) (hd:Nat.blt d n = true)
  (hk:∀ σ',Has σ' (base + i + 1) hi (.blk (base + i) t1 cs :: L)→Ops X n dr ops base (i + 1) l (set e d (.ptr (base + i) cs.length 0)) σ' K) (hlo:lo≤base + i:=by omega) (hhi:base + i < hi:=by omega) :
  Ops X n dr ops base i (⟨some d,.alloc t1,t,p,af,none⟩ :: l) e σ K:=.allocH H hlo hhi hz hd hk
theorem Ops.bxc {cs:List PV} (H:Has σ lo hi L) (hx:Z0 X e x = some v) (hc:v.cells = some cs) (hd:Nat.blt d n = true)
  (hk:∀ σ',Has σ' (base + i + 1) hi (.blk (base + i) t1 cs :: L)→Ops X n dr ops base (i + 1) l (set e d (.ptr (base + i) cs.length 0)) σ' K) (hlo:lo≤base + i:=by omega) (hhi:base + i < hi:=by omega) :
  Ops X n dr ops base i (⟨some d,.box t1 x,t,p,af,none⟩ :: l) e σ K:=.boxH H hlo hhi hx hc hd hk
theorem so {ops:Array Oper} {base i id:Nat} {dr:Bool} (h:id < base) (h2:Z6e (Region.before ops) ops i = true:=by kernel_rfl):dr = true→Seen ops base i id false:=fun _ => .inl ⟨h,nofun,fun _ => h2⟩
theorem Ends.eR {rs:List ResultVar} {xs:List PV} {r:PV} (h:(Z0H X.P e σ rs,Z5q (Z1r xs),Z1r xs) = (some xs,true,r)):Ends X rs r .ret e σ:=.ret (p3 h).1 (p3 h).2.1 (p3 h).2.2
theorem Fn.go {f:FuncId} {args:List PV} {r:PV} {fu:Func} {c:Code} (hf:X.P.funcs[f]? = some fu) (h:(fu.body,X.intr f args,X.keep f,X.opn f,args.all PV.pure) = (some c,none,false,false,true))
  (hr:∀ σ,Hs σ []→Runs X (max fu.ntmps args.length) f c (Z72 args) σ (Ends X fu.results.toList r)):Fn X f args r:=by
 obtain ⟨h1,h2,h3,h4,h5⟩:=p5 h
 exact .ends hf h1 h2 h3 h4 h5 rfl (hr _ (Has.nil (YB _)))
end
end Go.Dn

namespace Go.Dn
open Go
section
variable {X:Ctx} {n:Nat} {dr:Bool} {ops:Array Oper} {base i:Nat} {l:List Oper} {e:Env} {σ:Heap} {K:Env→Heap→Prop}
variable {t1 t:TypeId} {p:String} {af:Array Edge} {x y:Operand} {lo hi:Nat} {L:List Res} {v:PV}
theorem ask_seenWs {i:Nat} {o:Oper} {ids:List Nat} (h:Zs o.op = .write) (ht:touched X e o.op = ids) (hs:∀ id ∈ ids,SeenW X e ops base i id):Zp X ops base i o e = true:=by
 refine ask0 ?_
 simp only [Zj,h,ht,YJ]
 intro id hid
 rcases hs id hid with ⟨h1,h0⟩ | ⟨j,rfl,h2,h3⟩
 ·simp [h1,h0]
 ·simp only [Yi,h2,Yk,Y9,decide_eq_true_eq];exact .inr ⟨⟨by omega,trivial⟩,by omega⟩
theorem Ops.appendSW {α:Type} {c:α→List FV} {xs ys r:List α} {d:Nat} {el:TypeId} {sz by_:Nat} {w:PV} {zs:List PV} (H:Has σ lo hi L) (hlo:lo≤base + i) (hhi:base + i < hi) (k:Nat) (hk:L[k]? = some (.sl v el sz (xs.map c) true))
  (hx:Z0 X e x = some v) (hy:Z0 X e y = some w) (hb:Bring L sz w (ys.map c)) (hr:app? by_ xs ys = some r) (ht:tslice X.P t1 = some el) (hs:tsize X.P el = some sz) (hby:tbytes X.P el = some by_) (hz:tzero X.P el = some zs)
  (hc:(sz != 0 && by_ != 0 && zs.length == sz) = true)
  (ha:dr = true→(∀ id,v.owner = some id→SeenW X e ops base i id)∧(∀ id,w.owner = some id→SeenW X e ops base i id)) (hd:Nat.blt d n = true)
  (hk':∀ v' σ',Has σ' (base + i + 1) hi (L.set k (.sl v' el sz (r.map c) true))→Ops X n dr ops base (i + 1) l (set e d v') σ' K) :
  Ops X n dr ops base i (⟨some d,.call { callee:=.builtin .append,args:=#[x,y],argTypes:=#[t1,t1] },t,p,af,none⟩ :: l) e σ K:=by
 unfold app? at hr
 split at hr
 ·rename_i hroom;cases hr;refine Ops.appendS0 H hlo hhi k hk hx hy hb ht hs hby hz hc (by simpa using hroom) (fun h => ask_seenWs (ids:=vids v ++ vids w) rfl (by simp only [touched,Zf,YO,YT,hx,hy,YQ]) fun id hid => ?_) hd ?_
  ·rcases List.mem_append.1 hid with hid | hid
   ·refine (ha h).1 id (Z7O hid ?_);intro i v' o e;subst e;obtain ⟨_,⟨h,_⟩ | ⟨_,h,_⟩⟩:=H.sl hk <;> cases h
   ·exact (ha h).2 id (Z7O hid (ZBg H hb))
  ·rw [Y00] at hk';exact hk'
 ·cases hr
end
theorem Has.bufOf {σ:Heap} {lo hi:Nat} {L:List Res} {α:Type} {c:α→List FV} {xs:List α} {v:PV} {et:TypeId} {sz:Nat} {lv:Bool} {u:Unit} (H:Has σ lo hi L) (k:Nat) (hk:L[k]? = some (.sl v et sz (xs.map c) lv)) (hn:some? xs = some u):∃ id,v = .buf id xs.length sz:=by
 rcases (H.sl hk).2 with ⟨_,h⟩ | ⟨id,rfl,_⟩
 ·cases xs with
  | nil => cases hn
  | cons a l => simp at h
 ·exact ⟨id,by rw [YY]⟩
end Go.Dn

namespace Go.Dn
open Go Go.Proofs
def cloneV (sz by_:Nat):List PV→Option PV
 | [.v (.sl xs)] => if (xs.all fun y => y.length == sz) = true∧xs.length * by_≤room then some (.v (.sl xs)) else none
 | _ => none
def gcdV:List PV→Option PV
 | [.v (.int .u64 a),.v (.int .u64 b)] => if (0≤a∧a≤18446744073709551615)∧0≤b∧b≤18446744073709551615 then some (.v (.int .u64 (Int.gcd a b))) else none
 | _ => none
noncomputable def CA:Ctx:={ P:=Try.prog,glob:=fun _ => none,intr:=fun f args => if f = 78 then gcdV args else if f = 38 then cloneV 2 16 args else none,opn:=fun f => f == 54 || f == 63 || f == 65 || f == 95,keep:=fun f => false,lit:=true }
noncomputable def C0:Ctx:={ P:=Try.prog,glob:=fun _ => none,intr:=fun _ _ => none,opn:=fun _ => false,keep:=fun _ => false }
theorem prog_ok:ProgOK Try.prog:=by
 refine ⟨fun f fn h => ?_,by kernel_rfl⟩
 have hall : Try.prog.funcs.all (fun fn => !(fn.name == "runtime.NumGoroutine")) = true := by kernel_rfl
 have:=Array.all_eq_true_iff_forall_mem.1 hall fn (Array.mem_of_getElem? h)
 simpa using this
theorem c0_ok:CtxOK C0:=⟨prog_ok,fun f args r h => by cases h⟩
theorem prog_call (f:FuncId) (fu:Func) (vs:Array Value) (w:World) (hf:Try.prog.funcs[f]? = some fu) (hb:fu.body.isSome = true):(callFunc f vs).run Try.prog w = .ok (.enter f vs) w:=by
 have hp:(program).run Try.prog w = .ok Try.prog w:=rfl
 simp only [callFunc,Sem.run_bind,hp,Result.andThen_ok,hf,prog_ok.names f fu hf]
 cases hc:fu.body with
 | none => rw [hc] at hb;cases hb
 | some c => simp
def InUg (a:Int):Prop:=0≤a∧a≤18446744073709551615
abbrev u64v (a:Int):PV:=.v (.int .u64 a)
def uOf:Value→Nat | .int _ q => q.toNat | _ => 0
def gcdJ (s0:St) (a0:Act) (g:Nat) (a:Act) (w:World):Prop:=∃ (e:Env) (σ:Heap) (ι:Nat→Nat) (x y:Int),Aft s0 12 a0 (set (set e 0 (u64v x)) 1 (u64v y)) σ a w ι∧InUg x∧InUg y∧Int.gcd x y = g
theorem gcd_step {x y:Int} (hx:0≤x) (hy:0≤y):Int.gcd y (x.tmod y) = Int.gcd x y:=by
 obtain ⟨m,rfl⟩:=Int.eq_ofNat_of_zero_le hx
 obtain ⟨k,rfl⟩:=Int.eq_ofNat_of_zero_le hy
 have:((m:Int).tmod (k:Int)) = ((m % k:Nat):Int):=rfl
 rw [this]
 show Nat.gcd k (m % k) = Nat.gcd m k
 rw [Nat.gcd_comm m k,Nat.gcd_rec k m,Nat.gcd_comm]
theorem gcd_loop {s0:St} {a0:Act} {g:Nat} {A B:Code} {Q:Exit→Act→World→Prop}
  (hA:∀ (e:Env) (x y:Int) (m:Nat) (ent:Nat→Ent),Runs C0 12 78 A (set (set e 0 (u64v x)) 1 (u64v y)) ⟨m,ent⟩ fun ex e' σ' => (y = 0∧ex = .ret∧e' 4 = u64v x)∨(y ≠ 0∧ex = .normal∧e' 0 = u64v x∧e' 1 = u64v y))
  (hB:∀ (e:Env) (x y:Int) (m:Nat) (ent:Nat→Ent),y ≠ 0→Runs C0 12 78 B (set (set e 0 (u64v x)) 1 (u64v y)) ⟨m,ent⟩ fun ex e' σ' => ex = .normal∧e' 0 = u64v y∧e' 1 = u64v (x.tmod y))
  (hQ:∀ e σ a w ι,Aft s0 12 a0 e σ a w ι→e 4 = u64v g→Q .ret a w) :
  ∀ a w,gcdJ s0 a0 g a w→(Code.seq A (.seq B (.goto 0))).wp Try.prog (Exit.jump 0 (fun a' w' => gcdJ s0 a0 g a' w'∧uOf (a'.tmps.getD 1 Go.undef) < uOf (a.tmps.getD 1 Go.undef)) Q) a w:=by
 rintro a w ⟨e,σ,ι,x,y,h0,hx,hy,hg⟩
 refine wp_seq ?_
 have hG:Z0W C0 ⟨w,s0.Y,σ,ι⟩:=fun g cells hg => by cases hg
 have h1:=Z8W c0_ok (fn:=78) hG h0.inv h0.env (c:=A) (hA e x y σ.nx σ.ent)
 refine wp_mono h1 fun ex a1 w1 hh => ?_
 obtain ⟨x1,e1,σ1,ι1,hq,rfl,ht⟩:=hh
 have ht1:=h0.trans ht
 rcases hq with ⟨rfl,rfl,h4⟩ | ⟨hy0,rfl,k0,k1⟩
 ·refine hQ e1 σ1 a1 w1 ι1 ht1 ?_
  rw [h4,← hg]
  have:((Int.gcd x 0:Nat):Int) = x:=by rw [Int.gcd_zero_right];have:=hx.1;omega
  rw [this]
 ·simp only [Ex.out,Exit.then]
  refine wp_seq ?_
  have he1:EnvR ⟨w1,s0.Y,σ1,ι1⟩ 12 (set (set e1 0 (u64v x)) 1 (u64v y)) a1:=by
   rw [← Z6o k0,← Z6o k1]
   exact ht.env
  have hG1:Z0W C0 ⟨w1,s0.Y,σ1,ι1⟩:=fun g cells hg => by cases hg
  have h2:=Z8W c0_ok (fn:=78) hG1 ht.inv he1 (c:=B) (hB e1 x y σ1.nx σ1.ent hy0)
  refine wp_mono h2 fun ex a2 w2 hh => ?_
  obtain ⟨x2,e2,σ2,ι2,⟨rfl,j0,j1⟩,rfl,ht2⟩:=hh
  have ht3:=ht1.trans ht2
  have hm1:0≤x.tmod y:=Int.tmod_nonneg y hx.1
  have hm2:x.tmod y < y:=Int.tmod_lt_of_pos x (by have:=hy.1;omega)
  simp only [Ex.out,Exit.then]
  refine wp_goto ⟨rfl,⟨e2,σ2,ι2,y,x.tmod y,?_,hy,⟨hm1,by have:=hy.2;omega⟩,?_⟩,?_⟩
  ·rw [← Z6o j0,← Z6o j1]
   exact ht3
  ·rw [← hg]
   exact gcd_step hx.1 hy.1
  ·have u1:=ht2.env.2 1
   rw [j1] at u1
   have u2:=h0.env.2 1
   rw [int_val u1,int_val u2]
   simp only [uOf]
   omega
set_option maxRecDepth 100000 in
theorem gcd_calls {s:St} (hi:Inv s) {a b:Int} (ha:InUg a) (hb:InUg b):Calls Try.prog 78 #[.int .u64 a,.int .u64 b] s.w fun en w' => ∃ v,en = .returned v∧∃ σ',Post s.under (u64v (Int.gcd a b)) σ' v w':=by
 have hv:PVRs s.under [u64v a,u64v b] #[.int .u64 a,.int .u64 b]:=by
  refine ⟨rfl,fun i x hx => ?_⟩
  match i with
  | 0 => simp at hx;subst hx;exact .v (.int _ _)
  | 1 => simp at hx;subst hx;exact .v (.int _ _)
  | i + 2 => simp at hx
 have he:=env_of (s:=s.under) (k:=12) hv
 have hiu:=Z8Q hi
 have hG:Z0W C0 s.under:=fun g cells hg => by cases hg
 refine (callsIn_wide (n:=0)).1 (callsIn_of_wp_marks Try.func78 rfl trivial ?_ rfl)
 refine wpIn_wide.2 ?_
 have hQ:∀ e σ a' w ι,Aft s.under 12 { tmps:=#[Value.int .u64 a,Value.int .u64 b] ++ Array.replicate (12 - 2) undef,defers:=[] } e σ a' w ι→e 4 = u64v (Int.gcd a b) →
   bodyPostM Fence.wide 0 Try.prog Try.f78 (fun en w' => ∃ v,en = .returned v∧∃ σ',Post s.under (u64v (Int.gcd a b)) σ' v w') .ret a' w:=by
  intro e σ a' w ι ht h4
  exact leaves_ok (X:=C0) (fu:=Try.f78) (xs:=[e 4]) rfl ht rfl fun v w' hp => ⟨v,rfl,σ,by rw [← h4];exact hp⟩
 refine wp_seq ?_
 refine wp_mono (Z8W (X:=C0) (s:=s.under) c0_ok (fn:=78) hG hiu he (Q:=fun ex e' σ' => ex = .normal∧e' 0 = u64v a∧e' 1 = u64v b) ?_) ?_
 ·show Runs C0 12 78 _ _ ⟨0,fun _ => .none⟩ _
  repeat' first
   | (apply Ops.moveV;exact rfl;exact rfl)
   | (apply Ops.int;exact rfl;exact rfl;exact rfl;exact rfl;exact rfl)
   | (apply Ops.Z9z;exact rfl;exact rfl)
   | apply Runs.then
   | (apply Runs.region;exact rfl)
   | apply Ops.nil
   | (apply Ops.extract;exact rfl;exact rfl;exact rfl)
   | (apply Ops.moveT;exact rfl;exact rfl)
   | (apply Ops.moveA;exact rfl;exact rfl)
   | (apply Ops.ZA6;exact rfl;exact rfl)
   | (apply Ops.not;exact rfl;exact rfl)
   | (apply Ops.neg;exact rfl;exact rfl)
   | (apply Ops.conv;exact rfl;exact rfl;exact rfl;exact rfl)
   | (apply Ops.shr;exact rfl;exact rfl;decide;exact rfl)
   | (apply Ops.shl;exact rfl;exact rfl;decide;exact rfl)
   | (apply Ops.neB;exact rfl;exact rfl;exact rfl;exact rfl)
   | (apply Ops.eqB;exact rfl;exact rfl;exact rfl;exact rfl)
   | (apply Ops.pickTV;exact rfl;exact rfl;exact rfl)
   | (apply Ops.pickFV;exact rfl;exact rfl;exact rfl)
   | (apply Ops.want;exact rfl;exact rfl)
   | (apply Ops.pass;exact rfl;exact rfl;exact rfl)
   | (apply Ops.passU;exact rfl;exact rfl;exact rfl)
   | (apply Runs.drawn;kernel_rfl;exact rfl)
   | apply Runs.inBlock
   | (apply Ops.knownT;exact rfl;exact rfl;assumption)
   | (apply Ops.knownF;exact rfl;exact rfl;assumption)
   | (refine Ops.split rfl rfl ?_ ?_ <;> intro _)
   | (apply Runs.yes;exact rfl)
   | (apply Runs.no;exact rfl)
   | (apply Runs.yesB;exact rfl;assumption)
   | (apply Runs.noB;exact rfl;assumption)
   | (refine Runs.whether rfl ?_ ?_ <;> intro _)
   | apply Runs.skip
   | apply Runs.ret
   | apply Runs.exit
   | (apply Ends.ret;exact rfl;exact rfl)
   | (apply Ends.normal;exact rfl;exact rfl)
  all_goals exact ⟨rfl,rfl,rfl⟩
 rintro ex a1 w1 ⟨x1,e1,σ1,ι1,⟨rfl,k0,k1⟩,rfl,ht⟩
 have ht':Aft s.under 12 { tmps:=#[Value.int .u64 a,Value.int .u64 b] ++ Array.replicate (12 - 2) undef,defers:=[] } (set (set e1 0 (u64v a)) 1 (u64v b)) σ1 a1 w1 ι1:=by
  rw [← Z6o k0,← Z6o k1]
  exact ht
 simp only [Ex.out,Exit.then]
 refine wp_scope_jumps 0 (gcdJ s.under { tmps:=#[Value.int .u64 a,Value.int .u64 b] ++ Array.replicate (12 - 2) undef,defers:=[] } (Int.gcd a b)) (fun a' _ => uOf (a'.tmps.getD 1 Go.undef)) rfl ?_ ?_
 ·refine wp_seq (wp_label ?_)
  refine wp_mono (gcd_loop ?_ ?_ hQ a1 w1 ⟨e1,σ1,ι1,a,b,ht',ha,hb,rfl⟩) fun ex a2 w2 hh => ?_
  ·intro e x y m ent
   repeat' first
    | (apply Ops.moveV;exact rfl;exact rfl)
    | (apply Ops.int;exact rfl;exact rfl;exact rfl;exact rfl;exact rfl)
    | (apply Ops.Z9z;exact rfl;exact rfl)
    | apply Runs.then
    | (apply Runs.region;exact rfl)
    | apply Ops.nil
    | (apply Ops.extract;exact rfl;exact rfl;exact rfl)
    | (apply Ops.moveT;exact rfl;exact rfl)
    | (apply Ops.moveA;exact rfl;exact rfl)
    | (apply Ops.ZA6;exact rfl;exact rfl)
    | (apply Ops.not;exact rfl;exact rfl)
    | (apply Ops.neg;exact rfl;exact rfl)
    | (apply Ops.conv;exact rfl;exact rfl;exact rfl;exact rfl)
    | (apply Ops.shr;exact rfl;exact rfl;decide;exact rfl)
    | (apply Ops.shl;exact rfl;exact rfl;decide;exact rfl)
    | (apply Ops.neB;exact rfl;exact rfl;exact rfl;exact rfl)
    | (apply Ops.eqB;exact rfl;exact rfl;exact rfl;exact rfl)
    | (apply Ops.pickTV;exact rfl;exact rfl;exact rfl)
    | (apply Ops.pickFV;exact rfl;exact rfl;exact rfl)
    | (apply Ops.want;exact rfl;exact rfl)
    | (apply Ops.pass;exact rfl;exact rfl;exact rfl)
    | (apply Ops.passU;exact rfl;exact rfl;exact rfl)
    | (apply Runs.drawn;kernel_rfl;exact rfl)
    | apply Runs.inBlock
    | (apply Ops.knownT;exact rfl;exact rfl;assumption)
    | (apply Ops.knownF;exact rfl;exact rfl;assumption)
    | (refine Ops.split rfl rfl ?_ ?_ <;> intro _)
    | (apply Runs.yes;exact rfl)
    | (apply Runs.no;exact rfl)
    | (apply Runs.yesB;exact rfl;assumption)
    | (apply Runs.noB;exact rfl;assumption)
    | (refine Runs.whether rfl ?_ ?_ <;> intro _)
    | apply Runs.skip
    | apply Runs.ret
    | apply Runs.exit
    | (apply Ends.ret;exact rfl;exact rfl)
    | (apply Ends.normal;exact rfl;exact rfl)
   ·rename_i h
    exact .inl ⟨eq_of_beq h,rfl,rfl⟩
   ·rename_i h
    exact .inr ⟨ne_of_beq_false h,rfl,rfl,rfl⟩
  ·intro e x y m ent hy
   repeat' first
    | (apply Ops.moveV;exact rfl;exact rfl)
    | (apply Ops.int;exact rfl;exact rfl;exact rfl;exact rfl;exact rfl)
    | (apply Ops.Z9z;exact rfl;exact rfl)
    | apply Runs.then
    | (apply Runs.region;exact rfl)
    | apply Ops.nil
    | (apply Ops.extract;exact rfl;exact rfl;exact rfl)
    | (apply Ops.moveT;exact rfl;exact rfl)
    | (apply Ops.moveA;exact rfl;exact rfl)
    | (apply Ops.ZA6;exact rfl;exact rfl)
    | (apply Ops.not;exact rfl;exact rfl)
    | (apply Ops.neg;exact rfl;exact rfl)
    | (apply Ops.conv;exact rfl;exact rfl;exact rfl;exact rfl)
    | (apply Ops.shr;exact rfl;exact rfl;decide;exact rfl)
    | (apply Ops.shl;exact rfl;exact rfl;decide;exact rfl)
    | (apply Ops.neB;exact rfl;exact rfl;exact rfl;exact rfl)
    | (apply Ops.eqB;exact rfl;exact rfl;exact rfl;exact rfl)
    | (apply Ops.pickTV;exact rfl;exact rfl;exact rfl)
    | (apply Ops.pickFV;exact rfl;exact rfl;exact rfl)
    | (apply Ops.want;exact rfl;exact rfl)
    | (apply Ops.pass;exact rfl;exact rfl;exact rfl)
    | (apply Ops.passU;exact rfl;exact rfl;exact rfl)
    | (apply Runs.drawn;kernel_rfl;exact rfl)
    | apply Runs.inBlock
    | refine Ops.rem rfl rfl hy rfl ?_
    | (apply Ops.knownT;exact rfl;exact rfl;assumption)
    | (apply Ops.knownF;exact rfl;exact rfl;assumption)
    | (refine Ops.split rfl rfl ?_ ?_ <;> intro _)
    | (apply Runs.yes;exact rfl)
    | (apply Runs.no;exact rfl)
    | (apply Runs.yesB;exact rfl;assumption)
    | (apply Runs.noB;exact rfl;assumption)
    | (refine Runs.whether rfl ?_ ?_ <;> intro _)
    | apply Runs.skip
    | apply Runs.ret
    | apply Runs.exit
    | (apply Ends.ret;exact rfl;exact rfl)
    | (apply Ends.normal;exact rfl;exact rfl)
   all_goals exact ⟨rfl,rfl,rfl⟩
  ·cases ex <;> first | exact hh | exact ⟨hh.1,hh.2.1⟩
 ·intro a2 w2 hj
  refine wp_seq (wp_skip ?_)
  refine gcd_loop ?_ ?_ hQ a2 w2 hj
  ·intro e x y m ent
   repeat' first
    | (apply Ops.moveV;exact rfl;exact rfl)
    | (apply Ops.int;exact rfl;exact rfl;exact rfl;exact rfl;exact rfl)
    | (apply Ops.Z9z;exact rfl;exact rfl)
    | apply Runs.then
    | (apply Runs.region;exact rfl)
    | apply Ops.nil
    | (apply Ops.extract;exact rfl;exact rfl;exact rfl)
    | (apply Ops.moveT;exact rfl;exact rfl)
    | (apply Ops.moveA;exact rfl;exact rfl)
    | (apply Ops.ZA6;exact rfl;exact rfl)
    | (apply Ops.not;exact rfl;exact rfl)
    | (apply Ops.neg;exact rfl;exact rfl)
    | (apply Ops.conv;exact rfl;exact rfl;exact rfl;exact rfl)
    | (apply Ops.shr;exact rfl;exact rfl;decide;exact rfl)
    | (apply Ops.shl;exact rfl;exact rfl;decide;exact rfl)
    | (apply Ops.neB;exact rfl;exact rfl;exact rfl;exact rfl)
    | (apply Ops.eqB;exact rfl;exact rfl;exact rfl;exact rfl)
    | (apply Ops.pickTV;exact rfl;exact rfl;exact rfl)
    | (apply Ops.pickFV;exact rfl;exact rfl;exact rfl)
    | (apply Ops.want;exact rfl;exact rfl)
    | (apply Ops.pass;exact rfl;exact rfl;exact rfl)
    | (apply Ops.passU;exact rfl;exact rfl;exact rfl)
    | (apply Runs.drawn;kernel_rfl;exact rfl)
    | apply Runs.inBlock
    | (apply Ops.knownT;exact rfl;exact rfl;assumption)
    | (apply Ops.knownF;exact rfl;exact rfl;assumption)
    | (refine Ops.split rfl rfl ?_ ?_ <;> intro _)
    | (apply Runs.yes;exact rfl)
    | (apply Runs.no;exact rfl)
    | (apply Runs.yesB;exact rfl;assumption)
    | (apply Runs.noB;exact rfl;assumption)
    | (refine Runs.whether rfl ?_ ?_ <;> intro _)
    | apply Runs.skip
    | apply Runs.ret
    | apply Runs.exit
    | (apply Ends.ret;exact rfl;exact rfl)
    | (apply Ends.normal;exact rfl;exact rfl)
   ·rename_i h
    exact .inl ⟨eq_of_beq h,rfl,rfl⟩
   ·rename_i h
    exact .inr ⟨ne_of_beq_false h,rfl,rfl,rfl⟩
  ·intro e x y m ent hy
   repeat' first
    | (apply Ops.moveV;exact rfl;exact rfl)
    | (apply Ops.int;exact rfl;exact rfl;exact rfl;exact rfl;exact rfl)
    | (apply Ops.Z9z;exact rfl;exact rfl)
    | apply Runs.then
    | (apply Runs.region;exact rfl)
    | apply Ops.nil
    | (apply Ops.extract;exact rfl;exact rfl;exact rfl)
    | (apply Ops.moveT;exact rfl;exact rfl)
    | (apply Ops.moveA;exact rfl;exact rfl)
    | (apply Ops.ZA6;exact rfl;exact rfl)
    | (apply Ops.not;exact rfl;exact rfl)
    | (apply Ops.neg;exact rfl;exact rfl)
    | (apply Ops.conv;exact rfl;exact rfl;exact rfl;exact rfl)
    | (apply Ops.shr;exact rfl;exact rfl;decide;exact rfl)
    | (apply Ops.shl;exact rfl;exact rfl;decide;exact rfl)
    | (apply Ops.neB;exact rfl;exact rfl;exact rfl;exact rfl)
    | (apply Ops.eqB;exact rfl;exact rfl;exact rfl;exact rfl)
    | (apply Ops.pickTV;exact rfl;exact rfl;exact rfl)
    | (apply Ops.pickFV;exact rfl;exact rfl;exact rfl)
    | (apply Ops.want;exact rfl;exact rfl)
    | (apply Ops.pass;exact rfl;exact rfl;exact rfl)
    | (apply Ops.passU;exact rfl;exact rfl;exact rfl)
    | (apply Runs.drawn;kernel_rfl;exact rfl)
    | apply Runs.inBlock
    | refine Ops.rem rfl rfl hy rfl ?_
    | (apply Ops.knownT;exact rfl;exact rfl;assumption)
    | (apply Ops.knownF;exact rfl;exact rfl;assumption)
    | (refine Ops.split rfl rfl ?_ ?_ <;> intro _)
    | (apply Runs.yes;exact rfl)
    | (apply Runs.no;exact rfl)
    | (apply Runs.yesB;exact rfl;assumption)
    | (apply Runs.noB;exact rfl;assumption)
    | (refine Runs.whether rfl ?_ ?_ <;> intro _)
    | apply Runs.skip
    | apply Runs.ret
    | apply Runs.exit
    | (apply Ends.ret;exact rfl;exact rfl)
    | (apply Ends.normal;exact rfl;exact rfl)
   all_goals exact ⟨rfl,rfl,rfl⟩
set_option maxRecDepth 100000 in
theorem cloneT38:CloneT Try.prog 37 59 2 16 [.v (.int .i64 0),.v (.int .i64 0)]:=⟨rfl,rfl,rfl,rfl,rfl⟩
theorem pvrs_one' {s:St} {x:PV} {vs:Array Value} (h:PVRs s [x] vs):∃ v,vs = #[v]∧PVR s x v:=by
 obtain ⟨hl,hx⟩:=h
 have:vs.size = 1:=hl.symm
 refine ⟨vs.getD 0 Go.undef,?_,hx 0 x rfl⟩
 apply Array.ext
 ·simpa using this
 ·intro i h1 h2
  have:i = 0:=by simp at h2;omega
  subst this
  simp [Array.getD,h1]
theorem ca_ok:CtxOK CA:=by
 refine ⟨prog_ok,fun f args r h s hi hG vs hv hp => ?_⟩
 simp only [CA] at h
 split at h
 ·rename_i hf
  subst hf
  refine ⟨prog_call 78 _ _ _ Try.func78 rfl,?_⟩
  unfold gcdV at h
  split at h
  ·rename_i a b
   split at h
   ·rename_i hab
    cases h
    obtain ⟨v0,v1,rfl,h0,h1⟩:=pvrs_two hv
    obtain rfl:=Z2d h0
    obtain rfl:=Z2d h1
    exact intr_under hi rfl (gcd_calls hi hab.1 hab.2)
   ·cases h
  ·cases h
 split at h
 ·rename_i hf
  subst hf
  refine ⟨prog_call 38 _ _ _ Try.func38 rfl,?_⟩
  unfold cloneV at h
  split at h
  ·split at h
   ·rename_i xs hx
    cases h
    obtain ⟨v,rfl,hv1⟩:=pvrs_one' hv
    exact clone_calls (X:=C0) (b:=4) c0_ok Try.func38 rfl rfl rfl (fun _ => rfl) cloneT38 hi hx.1 hx.2 hv1
   ·cases h
  ·cases h
 cases h
noncomputable def CX:Ctx:={ P:=Try.prog,glob:=fun _ => none,intr:=fun f args => CA.intr f args,opn:=fun f => f == 31 || f == 48 || f == 54 || f == 63 || f == 65 || f == 95,keep:=fun f => f == 48 || f == 54 || f == 63 }
theorem cx_ok:CtxOK CX:=by
 refine ⟨prog_ok,fun f args r h s hi hG vs hv hp => ?_⟩
 simp only [CX] at h
 exact ca_ok.intr f args r h s hi hG vs hv hp
theorem cx_intr38 (args:List PV):CX.intr 38 args = cloneV 2 16 args:=rfl
theorem cx_intr78 (args:List PV):CX.intr 78 args = gcdV args:=rfl
end Go.Dn
