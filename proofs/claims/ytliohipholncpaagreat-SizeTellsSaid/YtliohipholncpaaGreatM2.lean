/- Part 2 of what the row stands on. -/
import Derived.Below
import Derived.ChangeArms
import Derived.ChangeOld
import Derived.SizedLaws
import Derived.KernelRfl
import Derived.Test.YtliohipholncpaaGreatProg
import Derived.ScopeJumps
import Derived.Test.YtliohipholncpaaGreatM1
set_option linter.unusedVariables false
set_option linter.unusedSimpArgs false
namespace Go.Dn
open Go
def Z3L {S T:Type} (yb:S→T→Option (S × Nat)):S × Nat→T→Option ((S × Nat) × Bool):=fun s t => if s.2 = 0 then (yb s.1 t).map fun r => (r,r.2 == 0) else none
def cI (k:IntKind) (x:Int):List FV:=[.int k x]
def cB (x:Bool):List FV:=[.bool x]
def cS (x:ByteArray):List FV:=[.str x]
def cL {α:Type} (c:α→List FV) (x:List α):List FV:=[.sl (x.map c)]
abbrev w64 (x:Int):Int:=IntKind.i64.wrap x
def nz? (b:Int):Option Unit:=if b = 0 then none else some ()
theorem Z6i {b:Int} {u:Unit} (h:nz? b = some u):b ≠ 0:=by
 unfold nz? at h
 split at h
 ·cases h
 ·assumption
abbrev iAnd (k:IntKind) (x y:Int):Int:=k.wrap (BitVec.ofInt k.bits x &&& BitVec.ofInt k.bits y).toNat
abbrev iOr (k:IntKind) (x y:Int):Int:=k.wrap (BitVec.ofInt k.bits x ||| BitVec.ofInt k.bits y).toNat
abbrev iXor (k:IntKind) (x y:Int):Int:=k.wrap (BitVec.ofInt k.bits x ^^^ BitVec.ofInt k.bits y).toNat
abbrev iAndNot (k:IntKind) (x y:Int):Int:=k.wrap (BitVec.ofInt k.bits x &&& ~~~ BitVec.ofInt k.bits y).toNat
abbrev iMin (x y:Int):Int:=if y < x then y else x
abbrev iMax (x y:Int):Int:=if y > x then y else x
def winA (n:Int) (m:Nat):Option Unit:=if 0≤n∧n.toNat < m then some () else none
def winB (n:Int) (m:Nat):Option Unit:=if 0 < n∧n.toNat≤m then some () else none
def dbl {α:Type} (xs:List α) (a:Nat):List α:=xs.take a ++ (xs.take a).take (xs.length - a) ++ xs.drop (a + min a (xs.length - a))
def some? {α:Type} (l:List α):Option Unit:=match l with | [] => none | _ :: _ => some ()
def back? (l:List Bool) (i:Int):Option Unit:=if at? l i = some false then some () else none
def clone? {α:Type} (by_:Nat) (l:List α):Option (List α):=if l.length * by_≤room then some l else none
theorem clone_some {α:Type} {by_:Nat} {l r:List α} (h:clone? by_ l = some r):l.length * by_≤room∧r = l:=by
 unfold clone? at h
 split at h
 ·cases h;exact ⟨by assumption,rfl⟩
 ·cases h
def gcd? (a b:Int):Option Int:=if (0≤a∧a≤18446744073709551615)∧0≤b∧b≤18446744073709551615 then some (Int.gcd a b) else none
def Jx.elim {A R B:Type} (j:Jx A R) (g:R→Option B) (f:A→Option B):Option B:=match j with | .go a => f a | .ret r => g r
theorem jgo {A R B:Type} {a:A} {g:R→Option B} {f:A→Option B} {b:B} (h:(Jx.go a:Jx A R).elim g f = some b):f a = some b:=h
theorem jret {A R B:Type} {r:R} {g:R→Option B} {f:A→Option B} {b:B} (h:(Jx.ret r:Jx A R).elim g f = some b):g r = some b:=h
theorem or_T {c t:Bool} (h:c = true):PV.v (.bool true) = .v (.bool (c || t)):=by rw [h];rfl
theorem or_F {c t:Bool} (h:c = false):PV.v (.bool t) = .v (.bool (c || t)):=by rw [h];rfl
theorem Z2V {c t:Bool} (h:c = true):PV.v (.bool t) = .v (.bool (c && t)):=by rw [h];rfl
theorem Z2S {c t:Bool} (h:c = false):PV.v (.bool false) = .v (.bool (c && t)):=by rw [h];rfl
section
variable {X:Ctx} {n:Nat} {dr:Bool} {fn:FuncId} {ops:Array Oper} {base i:Nat} {l:List Oper} {e:Env} {σ:Heap} {K:Env→Heap→Prop} {Q:Ex→Env→Heap→Prop} {c a b:Code}
variable {d:Nat} {t t1 t2:TypeId} {p:String} {af:Array Edge} {x y z:Operand} {v:PV} {lo hi:Nat} {L:List Res}
theorem Ops.lenPt {α:Type} {c:α→List FV} {xs:List α} {el:TypeId} (hx:Z0 X e x = some (.v (.sl (xs.map c)))) (ht:tslice X.P t1 = some el) (hd:Nat.blt d n = true)
  (hk':Ops X n dr ops base (i + 1) l (set e d (.v (.int .i64 xs.length))) σ K):Ops X n dr ops base i (⟨some d,.call { callee:=.builtin .len,args:=#[x],argTypes:=#[t1] },t,p,af,none⟩ :: l) e σ K:=by
 refine Ops.lenP (af2:=#[]) hx ht hd ?_
 rw [YZ];exact hk'
theorem Ops.Z48 {α:Type} {c:α→List FV} {xs:List α} {el et:TypeId} {sz:Nat} {lv:Bool} (H:Has σ lo hi L) (k:Nat) (hk:L[k]? = some (.sl v et sz (xs.map c) lv)) (hx:Z0 X e x = some v) (ht:tslice X.P t1 = some el)
  (ha:dr = true→∀ id,v.owner = some id→Seen ops base i id false) (hd:Nat.blt d n = true)
  (hk':Ops X n dr ops base (i + 1) l (set e d (.v (.int .i64 xs.length))) σ K):Ops X n dr ops base i (⟨some d,.call { callee:=.builtin .len,args:=#[x],argTypes:=#[t1] },t,p,af,none⟩ :: l) e σ K:=by
 refine Ops.lenS H k hk hx ht ha hd ?_
 rw [YZ];exact hk'
theorem Z4K {v:PV} {id:Nat} (h:id ∈ vids v) (hv:∀ i v' o,v ≠ .ptr i v' o):v.owner = some id:=by
 cases v <;> simp [vids] at h
 ·exact h ▸ rfl
 ·exact absurd rfl (hv _ _ _)
 ·exact h ▸ rfl
theorem Z7p {sz:Nat} {w:PV} {ys:List (List FV)} (H:Has σ lo hi L) (h:Bring L sz w ys):∀ i v' o,w ≠ .ptr i v' o:=by
 intro i v' o e
 subst e
 cases h with
 | s k h => obtain ⟨_,⟨h,_⟩ | ⟨_,h,_⟩⟩:=H.sl h <;> cases h
theorem Ops.Z16 {α:Type} {c:α→List FV} {xs ys r:List α} {el:TypeId} {sz by_:Nat} {w:PV} {zs:List PV} (H:Has σ lo hi L) (hlo:lo≤base + i) (hhi:base + i < hi) (k:Nat) (hk:L[k]? = some (.sl v el sz (xs.map c) true))
  (hx:Z0 X e x = some v) (hy:Z0 X e y = some w) (hb:Bring L sz w (ys.map c)) (hr:app? by_ xs ys = some r) (ht:tslice X.P t1 = some el) (hs:tsize X.P el = some sz) (hby:tbytes X.P el = some by_) (hz:tzero X.P el = some zs)
  (hc:(sz != 0 && by_ != 0 && zs.length == sz) = true)
  (ha:dr = true→(∀ id,v.owner = some id→Seen ops base i id true)∧(∀ id,w.owner = some id→Seen ops base i id true)) (hd:Nat.blt d n = true)
  (hk':∀ v' σ',Has σ' (base + i + 1) hi (L.set k (.sl v' el sz (r.map c) true))→Ops X n dr ops base (i + 1) l (set e d v') σ' K) :
  Ops X n dr ops base i (⟨some d,.call { callee:=.builtin .append,args:=#[x,y],argTypes:=#[t1,t1] },t,p,af,none⟩ :: l) e σ K:=by
 unfold app? at hr
 split at hr
 ·rename_i hroom;cases hr;refine Ops.appendS H hlo hhi k hk hx hy hb ht hs hby hz hc (by simpa using hroom) (fun h id hid => ?_) hd ?_
  ·rcases List.mem_append.1 hid with hid | hid
   ·refine (ha h).1 id (Z4K hid ?_);intro i v' o e;subst e;obtain ⟨_,⟨h,_⟩ | ⟨_,h,_⟩⟩:=H.sl hk <;> cases h
   ·exact (ha h).2 id (Z4K hid (Z7p H hb))
  ·rw [Y05] at hk';exact hk'
 ·cases hr
theorem Ops.appendBt {α:Type} {c:α→List FV} {xs ys r:List α} {el:TypeId} {sz by_ id m:Nat} {w:PV} {zs:List PV} (H:Has σ lo hi L) (hlo:lo≤base + i) (hhi:base + i < hi) (k:Nat) (hk:L[k]? = some (.sl (.buf id m sz) el sz (xs.map c) true))
  (hx:Z0 X e x = some (.buf id m sz)) (hy:Z0 X e y = some w) (hb:Bring L sz w (ys.map c)) (hr:app? by_ xs ys = some r) (ht:tslice X.P t1 = some el) (hs:tsize X.P el = some sz) (hby:tbytes X.P el = some by_) (hz:tzero X.P el = some zs)
  (hc:(sz != 0 && by_ != 0 && zs.length == sz) = true)
  (ha:dr = true→(∀ id',(PV.buf id m sz).owner = some id'→Seen ops base i id' true)∧(∀ id,w.owner = some id→Seen ops base i id true)) (hd:Nat.blt d n = true)
  (hk':∀ σ',Has σ' (base + i + 1) hi (L.set k (.sl (.buf id r.length sz) el sz (r.map c) true))→Ops X n dr ops base (i + 1) l (set e d (.buf id r.length sz)) σ' K) :
  Ops X n dr ops base i (⟨some d,.call { callee:=.builtin .append,args:=#[x,y],argTypes:=#[t1,t1] },t,p,af,none⟩ :: l) e σ K:=by
 unfold app? at hr
 split at hr
 ·rename_i hroom;cases hr;simp only [Y9,beq_iff_eq,bne_iff_ne,ne_eq] at hc;obtain ⟨hb1,hb2⟩:=brought H hb
  obtain ⟨hsz,hv⟩:=H.sl hk
  rcases hv with ⟨h,_⟩ | ⟨id',hid,hbl⟩
  ·cases h
  cases hid;have hall:∀ y ∈ xs.map c ++ ys.map c,y.length = sz:=fun y hy => (List.mem_append.1 hy).elim (hsz y) (hb2 y)
  have hn:¬(sz = 0∨by_ = 0∨(some zs).map List.length ≠ some sz):=by
   rintro (h | h | h)
   ·exact hc.1.1 h
   ·exact hc.1.2 h
   ·exact h (by rw [YA,hc.2])
  have ask:dr = true→Z04 X ops base i ⟨some d,.call { callee:=.builtin .append,args:=#[x,y],argTypes:=#[t1,t1] },t,p,af,none⟩ e = true:=fun h =>
   Z7A (ids:=vids (PV.buf id (xs.map c).length sz) ++ vids w) rfl (by simp only [touched,Zc,YM,YU,hx,hy,YV]) (fun id2 hid2 => by
    rcases List.mem_append.1 hid2 with hid2 | hid2
    ·exact (ha h).1 id2 (Z4K hid2 (by intros;simp))
    ·exact (ha h).2 id2 (Z4K hid2 (Z7p H hb)))
  have start:ZB X (Z0M X) e σ (base + i) (.call { callee:=.builtin .append,args:=#[x,y],argTypes:=#[t1,t1] }) = Z1u X.P σ (base + i) t1 (.buf id (xs.map c).length sz) w:=by
   simp only [ZB,Z02,ZY,hx,hy,Y0,Z0X,if_true]
  refine .plain (x:=.buf id (xs ++ ys).length sz) (σ1:=σ.put id (.blk el (vs (xs.map c).flatten ++ vs (ys.map c).flatten) true)) ?_ ask hd
   (hk' _ ((H.put hk rfl (r':=.sl (.buf id (xs ++ ys).length sz) el sz ((xs ++ ys).map c) true) ⟨by rw [Y05];exact hall,.inr ⟨id,by rw [YZ],?_⟩⟩ rfl).weak (Ya hlo (Nat.le_succ _)) (YC _)))
  ·rw [start];simp only [Z1u,ht,hs,hby,hb1,hz,if_neg hn,hbl];rw [if_pos ⟨trivial,trivial,by rw [Z0k,Z0U hsz],by simpa using hroom⟩]
   simp only [YZ,Yk]
  ·rw [Z28,Y05,Y0U,Z6M]
 ·cases hr
def cpy {α:Type} (xs ys:List α):List α:=ys.take (min ys.length xs.length) ++ xs.drop (min ys.length xs.length)
theorem flat_take {sz:Nat}:∀ {ys:List (List FV)},(∀ y ∈ ys,y.length = sz)→∀ k,ys.flatten.take (k * sz) = (ys.take k).flatten
 | [],_,k => by simp
 | y :: ys,h,0 => by simp
 | y :: ys,h,k + 1 => by
  have hy:=h y Yc
  have ih:=flat_take (ys:=ys) (fun z hz => h z (YR _ hz)) k
  rw [Ys,List.take_succ_cons,Ys,Nat.succ_mul,Nat.add_comm (k * sz) sz,← hy,List.take_length_add_append,hy,ih]
theorem ZCJ {sz:Nat}:∀ {ys:List (List FV)},(∀ y ∈ ys,y.length = sz)→∀ k,ys.flatten.drop (k * sz) = (ys.drop k).flatten
 | [],_,k => by simp
 | y :: ys,h,0 => by simp
 | y :: ys,h,k + 1 => by
  have hy:=h y Yc
  have ih:=ZCJ (ys:=ys) (fun z hz => h z (YR _ hz)) k
  rw [Ys,List.drop_succ_cons,Nat.succ_mul,Nat.add_comm (k * sz) sz,← hy,List.drop_length_add_append,hy,ih]
theorem Ops.copyS {α:Type} {c:α→List FV} {xs ys:List α} {el:TypeId} {sz m:Nat} {w:PV} {t9:TypeId} {id:Nat} (H:Has σ lo hi L) (k:Nat) (hk:L[k]? = some (.sl v el sz (xs.map c) true)) (hv:v = .buf id m sz)
  (hx:Z0 X e x = some v) (hy:Z0 X e y = some w) (hb:Bring L sz w (ys.map c)) (ht:tslice X.P t1 = some el) (hs:tsize X.P el = some sz)
  (ha:dr = true→(∀ id,v.owner = some id→Seen ops base i id true)∧(∀ id,w.owner = some id→Seen ops base i id true)) (hd:Nat.blt d n = true)
  (hk':∀ σ',Has σ' lo hi (L.set k (.sl v el sz ((cpy xs ys).map c) true))→Ops X n dr ops base (i + 1) l (set e d (.v (.int .i64 (min ys.length xs.length:Nat)))) σ' K) :
  Ops X n dr ops base i (⟨some d,.call { callee:=.builtin .copy,args:=#[x,y],argTypes:=#[t1,t9] },t,p,af,none⟩ :: l) e σ K:=by
 obtain ⟨hb1,hb2⟩:=brought H hb
 obtain ⟨hsz,hv'⟩:=H.sl hk
 subst hv
 rcases hv' with ⟨h,_⟩ | ⟨id',hid,hbl⟩
 ·cases h
 cases hid
 have hl2:(vs (xs.map c).flatten).length = (xs.map c).length * sz:=by rw [Z0k,Z0U hsz]
 have hcp:splice (vs (xs.map c).flatten) 0 ((vs (ys.map c).flatten).take (min (ys.map c).length (xs.map c).length * sz)) = vs ((cpy xs ys).map c).flatten:=by
  rw [vs_take,flat_take hb2];unfold splice;rw [List.take_zero,List.nil_append,Z0k,Y0K,vs_drop,Z0U (sz:=sz) (fun y hy => hb2 y (Yt hy)),ZCJ hsz,← Z6M,← Y0U]
  congr 1
  unfold cpy;rw [Y05,List.map_take,List.map_drop];simp only [YT,YZ]
  congr 3
  omega
 refine .plain (x:=.v (.int .i64 (min ys.length xs.length:Nat))) (σ1:=σ.put id (.blk el (vs ((cpy xs ys).map c).flatten) true)) ?_ (fun h => Z7A rfl rfl ?_) hd
  (hk' _ (H.put hk rfl (r':=.sl (.buf id (xs.map c).length sz) el sz ((cpy xs ys).map c) true) ⟨fun y hy => ?_,.inr ⟨id,?_,Z28⟩⟩ rfl))
 ·simp only [ZB,Z02,ZY,hx,hy,Y0,Z0X,Z7n,ht,hs,hb1,hbl];rw [if_pos ⟨trivial,trivial,hl2⟩,hcp];simp only [YZ]
 ·intro id' hid;simp only [touched,Zc,YM,YU,hx,hy,YV] at hid
  rcases List.mem_append.1 hid with hid | hid
  ·exact (ha h).1 _ (Z4K hid (by intros;simp))
  ·exact (ha h).2 _ (Z4K hid (Z7p H hb))
 ·obtain ⟨a,ha',rfl⟩:=List.mem_map.1 hy
  unfold cpy at ha'
  rcases List.mem_append.1 ha' with h | h
  ·exact hb2 _ (List.mem_map.2 ⟨a,Yt h,rfl⟩)
  ·exact hsz _ (List.mem_map.2 ⟨a,List.mem_of_mem_drop h,rfl⟩)
 ·have:((cpy xs ys).map c).length = (xs.map c).length:=by
   unfold cpy;simp only [YZ,Yk,YT,Y0n];omega
  rw [this]
theorem Ops.storeSt {α:Type} {c:α→List FV} {xs:List α} {u u':α} {id:Nat} {et:TypeId} {sz j m off ver:Nat} {zs:List FV} {iv:Int} {w:PV} (H:Has σ lo hi L) (k:Nat) (hk:L[k]? = some (.sl v et sz (xs.map c) true)) (hv:v = .buf id (xs.map c).length sz) (hver:ver = (xs.map c).length * sz)
  (hu:at? xs iv = some u) (hx:Z0 X e x = some (.ptr id ver off)) (hoff:off = iv.toNat * sz + j) (hy:Z0 X e y = some w) (hw:w.cells = some (vs zs)) (hm:tsize X.P t1 = some m) (hz:zs.length = m) (hj:Nat.ble (j + m) sz = true)
  (hu':(c u).take j ++ zs ++ (c u).drop (j + zs.length) = c u') (ha:dr = true→Seen ops base i id true)
  (hk':∀ σ',Has σ' lo hi (L.set k (.sl v et sz ((xs.set iv.toNat u').map c) true))→Ops X n dr ops base (i + 1) l e σ' K):Ops X n dr ops base i (⟨none,.store t1 x y,t,p,af,none⟩ :: l) e σ K:=by
 refine Ops.storeS H k hk hv hver (at?_map hu) hx hoff hy hw hm hz hj hu' ha ?_
 rw [List.map_set] at hk'
 exact hk'
theorem Ops.binA {op:BinOp} {u w:PV} {r:FV} (hx:Z0 X e x = some u) (hy:Z0 X e y = some w) (hr:binD X.P σ op t1 u w = some r) (ha:dr = true→Z04 X ops base i ⟨some d,.binOp op t1 x y t2,t,p,af,none⟩ e = true) (hd:Nat.blt d n = true)
  (hk:Ops X n dr ops base (i + 1) l (set e d (.v r)) σ K):Ops X n dr ops base i (⟨some d,.binOp op t1 x y t2,t,p,af,none⟩ :: l) e σ K :=
 .plain (x:=.v r) (σ1:=σ) (by simp only [ZB,hx,hy,hr,YA]) ha hd hk
theorem ask_eqA {op:BinOp} {us ws:List PV} {o:Oper} (hx:Z0 X e x = some (.agg us)) (hy:Z0 X e y = some (.agg ws)) (hop:Z05 (.binOp op t1 x y t2) = .read) (ho:o.op = .binOp op t1 x y t2):Z04 X ops base i o e = true :=
 Z4P (by rw [ho];exact hop) (by rw [ho];simp only [touched,Zc,YM,YU,hx,hy,vids,YV])
theorem Ops.buildA {parts:Array (Nat × Operand)} {cs:List PV} (hb:ZAY X e t1 parts.toList = some (.agg cs)) (hd:Nat.blt d n = true) (hk:Ops X n dr ops base (i + 1) l (set e d (.agg cs)) σ K):Ops X n dr ops base i (⟨some d,.build t1 parts,t,p,af,none⟩ :: l) e σ K :=
 .plain (x:=.agg cs) (σ1:=σ) (by simp only [ZB,hb,YA]) (fun _ => Z19 rfl) hd hk
theorem Ops.Z3U {f:FuncId} {first caps:Array Operand} {fs cs:List PV} (hf:ZY X e first.toList = some fs) (hc:ZY X e caps.toList = some cs) (hn:(fs.isEmpty && cs.isEmpty) = false) (hd:Nat.blt d n = true)
  (hk:Ops X n dr ops base (i + 1) l (set e d (.clo f fs cs)) σ K):Ops X n dr ops base i (⟨some d,.makeFunc (.func f) first caps,t,p,af,none⟩ :: l) e σ K:=by
 refine .plain (x:=.clo f fs cs) (σ1:=σ) ?_ (fun _ => Z19 rfl) hd hk
 simp only [ZB,hf,hc]
 cases fs <;> cases cs <;> first | rfl | cases hn
theorem Ops.min2 {k:IntKind} {u w:Int} {ts:Array TypeId} (hx:Z0 X e x = some (.v (.int k u))) (hy:Z0 X e y = some (.v (.int k w))) (hd:Nat.blt d n = true) (hk:Ops X n dr ops base (i + 1) l (set e d (.v (.int k (iMin u w)))) σ K) :
  Ops X n dr ops base i (⟨some d,.call { callee:=.builtin .min,args:=#[x,y],argTypes:=ts },t,p,af,none⟩ :: l) e σ K :=
 .plain (x:=.v (.int k (iMin u w))) (σ1:=σ) (by simp only [ZB,Z02,ZY,hx,hy,Y0,Z0X,Z47,if_true,YA]) (fun _ => Z19 rfl) hd hk
theorem Ops.max2 {k:IntKind} {u w:Int} {ts:Array TypeId} (hx:Z0 X e x = some (.v (.int k u))) (hy:Z0 X e y = some (.v (.int k w))) (hd:Nat.blt d n = true) (hk:Ops X n dr ops base (i + 1) l (set e d (.v (.int k (iMax u w)))) σ K) :
  Ops X n dr ops base i (⟨some d,.call { callee:=.builtin .max,args:=#[x,y],argTypes:=ts },t,p,af,none⟩ :: l) e σ K :=
 .plain (x:=.v (.int k (iMax u w))) (σ1:=σ) (by simp only [ZB,Z02,ZY,hx,hy,Y0,Z0X,Z47,if_true,YA]) (fun _ => Z19 rfl) hd hk
theorem cut?_some {α:Type} {xs r:List α} {i j:Int} (h:cut? xs i j = some r):0≤i∧i≤j∧j≤xs.length∧r = (xs.take j.toNat).drop i.toNat:=by
 unfold cut? at h
 split at h
 ·rename_i h1;cases h;exact ⟨h1.1,h1.2.1,h1.2.2,rfl⟩
 ·cases h
theorem sliceP_ok {α:Type} {c:α→List FV} {xs r:List α} {i0 j0:Int} {P:Program} {el:TypeId} {m:Nat} {lo hi:Option PV} (h:cut? xs i0 j0 = some r) (ht:tslice P t1 = some el) (hs:tsize P el = some m) (hm:∀ u,(c u).length = m)
  (hlo:(match lo with | none => some 0 | some v => Z4y v) = some i0.toNat) (hhi:(match hi with | none => some xs.length | some v => Z4y v) = some j0.toNat):ZAo P t1 (.v (.sl (xs.map c))) lo hi none = some (.v (.sl (r.map c))):=by
 obtain ⟨h1,h2,h3,rfl⟩:=cut?_some h
 have hc:i0.toNat≤j0.toNat∧j0.toNat≤xs.length∧Z8F (xs.map c) i0.toNat m = true:=by
  refine ⟨by omega,by omega,?_⟩
  simp only [Z8F,YP];cases xs[i0.toNat]? with
  | none => rfl
  | some u => simp [hm]
 have hc':xs.length = j0.toNat→i0.toNat≤j0.toNat∧j0.toNat≤j0.toNat∧Z8F (xs.map c) i0.toNat m = true:=fun _ => ⟨hc.1,YC _,hc.2.2⟩
 cases lo <;> cases hi <;> simp only [Y5] at hlo hhi <;> simp only [ZAo,ht,Y0,hs,YZ,hlo,hhi,List.map_drop,List.map_take] <;> first | rw [if_pos hc] | rw [if_pos (hc' hhi)]
theorem asNat_int {k:IntKind} {m:Int} (h:0≤m):Z4y (.v (.int k m)) = some m.toNat:=by simp [Z4y,h]
theorem Ops.sliceP10 {α:Type} {c:α→List FV} {xs r:List α} {el:TypeId} {m:Nat} {k:IntKind} {i0:Int} (h:cut? xs i0 xs.length = some r) (hx:Z0 X e x = some (.v (.sl (xs.map c)))) (hl:Z0 X e y = some (.v (.int k i0))) (ht:tslice X.P t1 = some el) (hs:tsize X.P el = some m) (hm:∀ u,(c u).length = m) (hd:Nat.blt d n = true)
  (hk:Ops X n dr ops base (i + 1) l (set e d (.v (.sl (r.map c)))) σ K):Ops X n dr ops base i (⟨some d,.slice t1 x (some y) none none,t,p,af,none⟩ :: l) e σ K:=by
 refine .plain (x:=.v (.sl (r.map c))) (σ1:=σ) ?_ (fun _ => ?_) hd hk
 ·simp only [ZB,hx,hl,optD,YA,sliceP_ok h ht hs hm (lo:=some (.v (.int k i0))) (hi:=none) (asNat_int (cut?_some h).1) (by simp)]
 ·exact ask0 (by simp only [Zn,Z05,hx])
theorem Ops.sliceP01 {α:Type} {c:α→List FV} {xs r:List α} {el:TypeId} {m:Nat} {k:IntKind} {j0:Int} (h:cut? xs 0 j0 = some r) (hx:Z0 X e x = some (.v (.sl (xs.map c)))) (hl:Z0 X e y = some (.v (.int k j0))) (ht:tslice X.P t1 = some el) (hs:tsize X.P el = some m) (hm:∀ u,(c u).length = m) (hd:Nat.blt d n = true)
  (hk:Ops X n dr ops base (i + 1) l (set e d (.v (.sl (r.map c)))) σ K):Ops X n dr ops base i (⟨some d,.slice t1 x none (some y) none,t,p,af,none⟩ :: l) e σ K:=by
 refine .plain (x:=.v (.sl (r.map c))) (σ1:=σ) ?_ (fun _ => ?_) hd hk
 ·have h':=cut?_some h
  simp only [ZB,hx,hl,optD,YA,sliceP_ok h ht hs hm (lo:=none) (hi:=some (.v (.int k j0))) rfl (asNat_int (by omega))]
 ·exact ask0 (by simp only [Zn,Z05,hx])
end
inductive Sub:List Res→List Res→Prop
 | nil {L:List Res}:Sub [] L
 | cons {c:Res} {C L:List Res} (k:Nat) (h:L[k]? = some c) (t:Sub C L):Sub (c :: C) L
theorem Sub.push {C L:List Res} {r:Res} (h:Sub C L):Sub C (r :: L):=by
 induction h with
 | nil => exact .nil
 | cons k h t ih => exact .cons (k + 1) h ih
theorem Sub.inv {c:Res} {C L:List Res} (h:Sub (c :: C) L):∃ k:Nat,L[k]? = some c∧Sub C L:=by
 cases h with
 | cons k h t => exact ⟨k,h,t⟩
noncomputable def callV (X:Ctx) (cv:PV) (args:List PV) (σ:Heap):Option (PV × Heap) :=
 match cv with
 | .v (.fn f) => Z0M X (.fn f) args σ
 | .clo f first caps => Z0M X (.fn f) (first ++ args ++ caps) σ
 | _ => none
def FnH (X:Ctx) (f:FuncId) (args:List PV) (r:PV) (C:List Res):Prop :=
 ∀ σ lo hi L,Sub C L→Has σ lo hi L→∃ σ',Z0M X (.fn f) args σ = some (r,σ')∧Has σ' lo hi L
def CloH (X:Ctx) (cv:PV) (args:List PV) (r:PV) (C:List Res):Prop :=
 ∀ σ lo hi L,Sub C L→Has σ lo hi L→∃ σ',callV X cv args σ = some (r,σ')∧Has σ' lo hi L
section
variable {X:Ctx} {f:FuncId} {args:List PV} {r:PV} {C:List Res}
theorem Fn.toH (h:Fn X f args r) (C:List Res):FnH X f args r C:=fun σ lo hi L _ H => ⟨σ,h.call σ,H⟩
theorem CloH.fn (h:FnH X f args r C):CloH X (.v (.fn f)) args r C:=h
theorem CloH.clo {first caps:List PV} (h:FnH X f (first ++ args ++ caps) r C):CloH X (.clo f first caps) args r C:=h
theorem CloH.weak {cv:PV} (h:CloH X cv args r []):CloH X cv args r C:=fun σ lo hi L _ H => h σ lo hi L .nil H
theorem all_nil {α:Type} {p:α→Bool}:([] : List α).all p = true:=rfl
theorem Z49 {α:Type} {p:α→Bool} {x:α} {l:List α} (h:p x = true) (t:l.all p = true):(x :: l).all p = true:=by rw [Y00,h,t];rfl
theorem Z3A {α:Type} {p:α→Bool} {x:α} {l:List α} (h:l.all p = true) (i:Nat) (hx:l[i]? = some x):p x = true:=List.all_eq_true.1 h x (Y7 hx)
def PV.still:PV→Bool
 | .ptr _ _ _ => true
 | .clo _ _ _ => true
 | .yld _ => true
 | x => x.pure
theorem expArg_still {σ:Heap} {x:PV} (h:x.still = true):Z2M σ x = some (x,σ):=by
 cases x <;> first | rfl | exact Z66 h
theorem Z68 {σ:Heap}:∀ {xs:List PV},xs.all PV.still = true→Z0z σ xs = some (xs,σ)
 | [],_ => rfl
 | x :: xs,h => by
  simp only [Y00,Y9] at h;simp only [Z0z,expArg_still h.1,Y0,Z68 h.2]
theorem FnH.of {fu:Func} {c:Code} {m:Nat} (hf:X.P.funcs[f]? = some fu) (hb:fu.body = some c) (hi:X.intr f args = none) (hk:X.keep f = false) (ho:X.opn f = false) (hs:args.all PV.still = true) (hm:max fu.ntmps args.length = m)
  (hp:args.all PV.pure = true→C = [])
  (h:∀ σ L,Sub C L→Hs σ L→Runs X m f c (Z6T args) σ (EndsH X fu.results.toList r L)):FnH X f args r C:=by
 subst hm
 intro σ lo hi' L hC H
 by_cases hpu:args.all PV.pure = true
 ·have hC0:=hp hpu
  subst hC0;obtain ⟨lf,x,e',σ1,h1,hE⟩:=(h Heap.empty [] .nil (Has.nil (YC _))).run
  obtain ⟨hx,xs,σ2,_,_,h2,h3,_⟩:=hE.out
  refine ⟨σ,Z2o (lf:=lf) ?_,H⟩
  have hbody:Z1w X (Z0M X) lf f args Heap.empty = some (Z1v xs,σ1):=by
   simp only [Z1w,hf,hb,h1]
   rcases hx with rfl | rfl <;> simp only [h2,YA]
  simp only [Z5Q,hi,hk,Y6,if_false,Z35 hpu,ho,hpu,if_true,hbody,Y0,h3,YA]
 ·obtain ⟨lf,x,e',σ1,h1,hE⟩:=(h σ (.floor hi' :: L) hC.push (H.all.floor hi' H.le)).run
  obtain ⟨hx,xs,σ2,lo2,hi2,h2,h3,H2⟩:=hE.out
  refine ⟨σ2,Z2o (lf:=lf) ?_,?_⟩
  ·have hbody:Z1w X (Z0M X) lf f args σ = some (Z1v xs,σ1):=by
    simp only [Z1w,hf,hb,h1]
    rcases hx with rfl | rfl <;> simp only [h2,YA]
   simp only [Z5Q,hi,hk,Y6,if_false,Z68 hs,ho,if_neg hpu,hbody,Y0,h3]
  ·have hfl:hi'≤σ2.nx:=H2.holds 0 _ rfl
   have H3:=H2.erase 0
   exact ⟨H3.holds,fun k r hk id ho => ⟨(H.lt k r hk id ho).1,(H3.lt k r hk id ho).2⟩,H.sep,hfl⟩
end
section
variable {X:Ctx} {n:Nat} {dr:Bool} {fn:FuncId} {ops:Array Oper} {base i:Nat} {l:List Oper} {e:Env} {σ:Heap} {K:Env→Heap→Prop}
variable {d:Nat} {t:TypeId} {p:String} {af:Array Edge} {x:Operand} {lo hi:Nat} {L C:List Res}
theorem Ops.Z7Q {f:FuncId} {args:Array Operand} {ts:Array TypeId} {ys:List PV} {r:PV} (H:Has σ lo hi L) (ha:ZY X e args.toList = some ys) (hf:FnH X f ys r C) (hs:Sub C L)
  (hdr:dr = true→(ys.all PV.pure && !X.opn f && !X.keep f) = true∨Z3s (Region.before ops) ops i = true) (hd:Nat.blt d n = true)
  (hk:∀ σ',Has σ' lo hi L→Ops X n dr ops base (i + 1) l (set e d r) σ' K) :
  Ops X n dr ops base i (⟨some d,.call { callee:=.value (.func f),args:=args,argTypes:=ts },t,p,af,none⟩ :: l) e σ K:=by
 obtain ⟨σ',q1,q2⟩:=hf σ lo hi L hs H
 refine .plain (x:=r) (σ1:=σ') (by simp only [ZB,Z02,ha,Z0,q1]) (fun h => ?_) hd (hk σ' q2)
 rcases hdr h with this | this
 case inr => exact Z8K this
 simp only [Y9,Yh] at this
 exact ask0 (by simp only [Zn,Z05,ha,Z79,Z0,pure_calm this.1.1,this.1.2,this.2,Yz,Y0Q])
theorem Ops.callV {cv:PV} {args:Array Operand} {ts:Array TypeId} {ys:List PV} {r:PV} (H:Has σ lo hi L) (hx:Z0 X e x = some cv) (ha:ZY X e args.toList = some ys) (hf:CloH X cv ys r C) (hs:Sub C L)
  (hdr:dr = true→Z3s (Region.before ops) ops i = true) (hd:Nat.blt d n = true)
  (hk:∀ σ',Has σ' lo hi L→Ops X n dr ops base (i + 1) l (set e d r) σ' K) :
  Ops X n dr ops base i (⟨some d,.call { callee:=.value x,args:=args,argTypes:=ts },t,p,af,none⟩ :: l) e σ K:=by
 obtain ⟨σ',q1,q2⟩:=hf σ lo hi L hs H
 refine .plain (x:=r) (σ1:=σ') ?_ (fun h => Z8K (hdr h)) hd (hk σ' q2)
 simp only [ZB,Z02,ha,hx]
 unfold Dn.callV at q1
 split at q1
 ·exact q1
 ·exact q1
 ·cases q1
end
end Go.Dn

namespace Go.Dn
open Go Go.ChangeShapes
def consec (P:Program):Nat→List Field→Option Nat
 | o,[] => some o
 | o,f :: fs => if f.offset = o then consec P (o + P.cellsOf f.type) fs else none
def supp (P:Program):Nat→TypeId→Bool
 | 0,_ => false
 | d + 1,t =>
  match P.underlying t with
  | some .bool => P.cellsOf t == 1
  | some (.int _) => P.cellsOf t == 1
  | some .string => P.cellsOf t == 1
  | some (.slice e) => P.cellsOf t == 1 && P.cellsOf e != 0 && supp P d e
  | some (.struct fs) => fs.toList.all (fun f => supp P d f.type) && (consec P 0 fs.toList == some (P.cellsOf t))
  | _ => false
def OKC (P:Program):Nat→TypeId→List FV→Prop
 | 0,_,_ => False
 | d + 1,t,ys =>
  match P.underlying t with
  | some .bool => ∃ b,ys = [.bool b]
  | some (.int k) => ∃ m,ys = [.int k m]∧(Lit.int k m).wf = true
  | some .string => ∃ s,ys = [.str s]∧s.size≤maxLen
  | some (.slice e) => ∃ xs,ys = [.sl xs]∧xs.length * P.bytesOf e≤reachBytes∧∀ x ∈ xs,OKC P d e x
  | some (.struct fs) => ys.length = P.cellsOf t∧∀ f ∈ fs.toList,OKC P d f.type ((ys.drop f.offset).take (P.cellsOf f.type))
  | _ => False
section
variable {H:Type} {enc:TypeId × Value→H} {P:Program} {w:World} {base:Nat} {spare:Nat→Bool} {held:Bool} {Im:Nat→Prop}
def Cov (w:World) (Im:Nat→Prop) (ys:List FV) (cs:List Value):Prop:=ys.length = cs.length∧∀ (i:Nat) (y:FV) (v:Value),ys[i]? = some y→cs[i]? = some v→FVR w Im y v
theorem Cov.one {y:FV} {v:Value} (h:FVR w Im y v):Cov w Im [y] [v]:=⟨rfl,fun i y' v' hy hv => by
 cases i with
 | zero => cases hy;cases hv;exact h
 | succ i => simp at hy⟩
theorem consec_le:∀ {fs:List Field} {o m:Nat},consec P o fs = some m→o≤m
 | [],o,m,h => by simp [consec] at h;omega
 | f :: fs,o,m,h => by
  simp only [consec] at h
  split at h
  ·have:=consec_le h;omega
  ·cases h
theorem fields_ok {d n:Nat} {cs:List Value} (ih:∀ (t:TypeId) (cs:List Value) (x:DataW H × List MemPlace),supp P d t = true→DataW.trod enc P w base spare held n t cs = some x→(∀ p ∈ x.2,Im p.block)→(∀ n ∈ x.1.weights P t,n≤reachBytes)→∃ ys,Cov w Im ys cs∧OKC P d t ys) :
  ∀ (fs:List Field) (o m:Nat),consec P o fs = some m→m≤cs.length→(∀ f ∈ fs,supp P d f.type = true) →
   (∀ f ∈ fs,∃ x,DataW.trod enc P w base spare held n f.type ((cs.drop f.offset).take (P.cellsOf f.type)) = some x∧(∀ p ∈ x.2,Im p.block)∧∀ n ∈ x.1.weights P f.type,n≤reachBytes) →
   ∃ ys,Cov w Im ys ((cs.drop o).take (m - o))∧∀ f ∈ fs,o≤f.offset∧OKC P d f.type ((ys.drop (f.offset - o)).take (P.cellsOf f.type))
 | [],o,m,hc,hm,_,_ => by
  simp [consec] at hc;subst hc;exact ⟨[],⟨by simp,by simp⟩,by simp⟩
 | f :: fs,o,m,hc,hm,hs,hx => by
  simp only [consec] at hc
  split at hc
  ·rename_i ho;subst ho;obtain ⟨x,hx1,hx2,hx3⟩:=hx f Yc
   obtain ⟨ys,⟨hl,hv⟩,hok⟩:=ih f.type _ x (hs f Yc) hx1 hx2 hx3
   have hle:=consec_le hc
   obtain ⟨zs,⟨hl2,hv2⟩,hok2⟩:=fields_ok ih fs _ m hc hm (fun g hg => hs g (YR _ hg)) (fun g hg => hx g (YR _ hg))
   simp only [YT,Y0n] at hl hl2;have hy:ys.length = P.cellsOf f.type:=by omega
   refine ⟨ys ++ zs,⟨by simp only [Yk,YT,Y0n];omega,fun i y v h1 h2 => ?_⟩,fun g hg => ?_⟩
   ·by_cases hi:i < ys.length
    ·rw [YJ hi] at h1;refine hv i y v h1 ?_;rw [YW] at h2 ⊢;rw [if_pos (by omega)] at h2 ⊢
     exact h2
    ·rw [YL (by omega)] at h1
     have hi2:i - ys.length < zs.length:=by
      rcases YG (i - ys.length) zs.length with h | h
      ·exact h
      ·rw [Yi h] at h1;cases h1
     refine hv2 (i - ys.length) y v h1 ?_;rw [YW,Yv] at h2 ⊢;rw [if_pos (by omega)] at h2 ⊢
     rw [← h2]
     congr 1;omega
   ·rcases List.mem_cons.1 hg with rfl | hg
    ·refine ⟨YC _,?_⟩;rw [Nat.sub_self,List.drop_zero,List.take_append_of_le_length (by omega),List.take_of_length_le (by omega)]
     exact hok
    ·obtain ⟨h1,h2⟩:=hok2 g hg
     refine ⟨by omega,?_⟩
     have:(ys ++ zs).drop (g.offset - f.offset) = zs.drop (g.offset - (f.offset + P.cellsOf f.type)):=by
      rw [List.drop_append,List.drop_eq_nil_of_le (by omega),List.nil_append]
      congr 1;omega
     rw [this];exact h2
  ·cases hc
theorem ZB5 {e:TypeId}:∀ {ds:List (DataW H)} {d:DataW H},d ∈ ds→∀ n ∈ d.weights P e,n ∈ DataW.weightsAll P e ds
 | d0 :: ds,d,h,n,hn => by
  simp only [DataW.weightsAll,Yq]
  rcases List.mem_cons.1 h with rfl | h
  ·exact .inl hn
  ·exact .inr (ZB5 h n hn)
def Sized (P:Program) (t:TypeId) (d:DataW H):Prop:=∀ n ∈ d.weights P t,n≤reachBytes
theorem OKC.length:∀ {d:Nat} {t:TypeId} {ys:List FV},supp P d t = true→OKC P d t ys→ys.length = P.cellsOf t
 | 0,t,ys,h,_ => by simp [supp] at h
 | d + 1,t,ys,h,ho => by
  unfold supp at h;unfold OKC at ho
  split at h
  all_goals (rename_i hu;simp only [hu] at ho)
  ·obtain ⟨b,rfl⟩:=ho;simp at h;simp [h]
  ·obtain ⟨b,rfl,_⟩:=ho;simp at h;simp [h]
  ·obtain ⟨b,rfl,_⟩:=ho;simp at h;simp [h]
  ·obtain ⟨b,rfl,_⟩:=ho;simp at h;simp [h]
  ·exact ho.1
theorem ZAH:∀ (d n:Nat) (t:TypeId) (cs:List Value) (x:DataW H × List MemPlace),supp P d t = true→DataW.trod enc P w base spare held n t cs = some x→(∀ p ∈ x.2,Im p.block)→(∀ n ∈ x.1.weights P t,n≤reachBytes)→∃ ys,Cov w Im ys cs∧OKC P d t ys
 | 0,n,t,cs,x,hs,h,hp,hw => by simp [supp] at hs
 | d + 1,n,t,cs,x,hs,h,hp,hw => by
  unfold supp at hs
  split at hs
  ·rename_i hu;cases n with
   | zero => simp [DataW.trod] at h
   | succ n =>
    simp only [DataW.trod,hu] at h
    split at h <;> simp_all
    rename_i b;exact ⟨[.bool b],Cov.one (.bool b),by simp [OKC,hu]⟩
  ·rename_i k hu;cases n with
   | zero => simp [DataW.trod] at h
   | succ n =>
    simp only [DataW.trod,hu] at h
    split at h <;> try (simp_all;done)
    rename_i k2 m he1 ;simp only [Y5,TypeDesc.int.injEq] at he1;subst he1
    split at h
    ·rename_i k' n' hk;obtain ⟨rfl,hwf⟩:=hk
     exact ⟨[.int _ _],Cov.one (.int _ _),by simp [OKC,hu,hwf]⟩
    ·cases h
  ·rename_i hu;cases n with
   | zero => simp [DataW.trod] at h
   | succ n =>
    simp only [DataW.trod,hu] at h
    split at h <;> try (simp_all;done)
    split at h
    ·rename_i s hk;exact ⟨[.str _],Cov.one (.str _),by simp [OKC,hu,hk]⟩
    ·cases h
  ·rename_i e hu;simp only [Y9,beq_iff_eq,bne_iff_ne,ne_eq] at hs
   rcases DataW.trod_slice hu h with ⟨rfl,rfl⟩ | ⟨a,len,cap,elems,rest,m,rfl,rfl,rfl,hb,hl,hm,hlen,hel,hsp,hns⟩
   ·exact ⟨[.sl []],Cov.one .nil,by simp [OKC,hu]⟩
   ·by_cases h0:len = 0
    ·subst h0;exact ⟨[.sl []],Cov.one (.empty a cap),by simp [OKC,hu]⟩
    ·have each:∀ i,i < len→∃ cs' ys,w.cells? base (a.add (i * P.cellsOf e)) (P.cellsOf e) = some cs'∧Cov w Im ys cs'∧OKC P d e ys:=by
      intro i hi;have h1:=hel i hi
      obtain ⟨y,hy⟩ : ∃ y,elems[i]? = some y:=⟨_,Y2 (by omega)⟩
      rw [hy,Y4] at h1;obtain ⟨cs',hcs,ht⟩:=h1
      obtain ⟨ys,h2,h3⟩:=ZAH d m e cs' y hs.2 ht (fun p hpm => hp p (by
       refine YS _ (List.mem_flatMap.2 ⟨y,YX _ (Y7 hy),hpm⟩))) (fun n hn => hw n (by
       simp only [DataW.weights,hu,Y0s,Yq];exact .inr (.inl (ZB5 (List.mem_map.2 ⟨y,Y7 hy,rfl⟩) n hn))))
      exact ⟨cs',ys,hcs,h2,h3⟩
     let F:Nat→List FV:=fun i => if hi:i < len then (each i hi).choose_spec.choose else []
     let C:Nat→List Value:=fun i => if hi:i < len then (each i hi).choose else []
     have hF:∀ i,i < len→w.cells? base (a.add (i * P.cellsOf e)) (P.cellsOf e) = some (C i)∧Cov w Im (F i) (C i)∧OKC P d e (F i):=by
      intro i hi;simp only [F,C,dif_pos hi];exact (each i hi).choose_spec.choose_spec
     have hFl:∀ i,i < len→(F i).length = P.cellsOf e:=fun i hi => OKC.length hs.2 (hF i hi).2.2
     have hxs:∀ y ∈ (List.range len).map F,∃ i,i < len∧y = F i:=fun y hy => by
      obtain ⟨i,hi,rfl⟩:=List.mem_map.1 hy
      exact ⟨i,List.mem_range.1 hi,rfl⟩
     refine ⟨[.sl ((List.range len).map F)],Cov.one ?_,?_⟩
     ·by_cases hz:P.cellsOf e = 0
      ·exact absurd hz hs.1.2
      ·have hsp0:a.spot = none:=by
        have h1:=(World.cells?_some (hF 0 (by omega)).1).2.2 0 (by omega)
        have hl0:=(World.cells?_some (hF 0 (by omega)).1).2.1
        simp only [Nat.zero_mul,Addr.add,if_true] at h1;unfold World.cell? at h1
        split at h1
        ·split at h1
         ·have:(C 0)[0]? = none:=h1.symm
          rw [List.getElem?_eq_none_iff] at this;omega
         ·rename_i hq;simpa using hq
        ·have:(C 0)[0]? = none:=h1.symm
         rw [List.getElem?_eq_none_iff] at this;omega
       obtain ⟨bl,off,spot⟩:=a
       simp only at hsp0;subst hsp0;have hcov:=FVR.sl (w:=w) (Imm:=Im) ((List.range len).map F) bl off cap (P.cellsOf e) (fun i j => (C i).getD j Go.undef) ?_ (by simpa using hl) (fun y hy => by
        obtain ⟨i,hi,rfl⟩:=hxs y hy;exact hFl i hi) (fun i j hi hj => ?_) (fun i j y x h1 h2 => ?_)
       ·simpa using hcov
       ·refine hp (.cell bl (off + 0)) (YX _ ?_);simp only [MemPlace.row,List.mem_map,List.mem_range];refine ⟨0,?_,rfl⟩;exact Nat.mul_pos (by omega) (by omega)
       ·simp only [YZ,List.length_range] at hi;have h1:=(World.cells?_some (hF i hi).1).2.2 j hj
        have hl0:=(World.cells?_some (hF i hi).1).2.1
        have e1:(Addr.add (Addr.add ⟨bl,off,none⟩ (i * P.cellsOf e)) j) = ⟨bl,off + i * P.cellsOf e + j,none⟩:=by
         simp only [Z3w]
        rw [e1] at h1;rw [h1,Y2 (by omega)]
        simp [List.getD,Y2 (show j < (C i).length by omega)]
       ·rw [YP,Y1] at h1;obtain ⟨i',hi',rfl⟩:=h1
        have hi2:=List.mem_range.1 (Y7 hi')
        have:i' = i:=by
         rw [List.getElem?_eq_some_iff] at hi';obtain ⟨q1,q2⟩:=hi'
         simpa using q2.symm
        subst this;have hj:j < (C i').length:=by
         rw [← (hF i' hi2).2.1.1];exact (List.getElem?_eq_some_iff.1 h2).1
        refine (hF i' hi2).2.1.2 j x _ h2 ?_;rw [Y2 hj];simp [List.getD,Y2 hj]
     ·simp only [OKC,hu];refine ⟨_,rfl,?_,fun y hy => ?_⟩
      ·have h1:=hw ((elems.length + rest.length) * P.bytesOf e) (by simp [DataW.weights,hu])
       refine Ya (YQ _ ?_) h1
       simp;omega
      obtain ⟨i,hi,rfl⟩:=hxs y hy
      exact (hF i hi).2.2
  ·rename_i fs hu;simp only [Y9,beq_iff_eq,YY] at hs;obtain ⟨xs,m,rfl,rfl,hl,hx,hf⟩:=DataW.trod_struct hu h
   obtain ⟨ys,hc,ho⟩:=fields_ok (cs:=cs) (fun t cs x h1 h2 h3 h4 => ZAH d m t cs x h1 h2 h3 h4) fs.toList 0 (P.cellsOf t) hs.2 (by omega) hs.1 (fun f hfm => by
    obtain ⟨i,hi⟩:=YB hfm
    have hi':fs[i]? = some f:=by simpa using hi
    have h1:=hf i f hi'
    have hlt:i < xs.length:=by
     have:=(Array.getElem?_eq_some_iff.1 hi').1
     omega
    rw [Y2 hlt] at h1;exact ⟨_,h1,fun p hpm => hp p (List.mem_flatMap.2 ⟨_,YF hlt,hpm⟩),fun n hn => hw n (by
     simp only [DataW.weights,hu];exact DataW.weights_mem_each (j:=i) (t:=f.type) (d:=(xs[i]).1) (by simp [hi]) (by simp [hlt]) n hn)⟩)
   rw [List.drop_zero,Nat.sub_zero,List.take_of_length_le (by omega)] at hc
   refine ⟨ys,hc,?_⟩;simp only [OKC,hu];exact ⟨hc.1.trans hl,fun f hfm => by simpa using (ho f hfm).2⟩
  ·cases hs
end
def okI (k:IntKind) (x:Int):Prop:=k.min≤x∧x≤k.max
def okB (_:Bool):Prop:=True
def okS (x:ByteArray):Prop:=x.size≤maxLen
def okL {α:Type} (b:Nat) (p:α→Prop) (xs:List α):Prop:=xs.length * b≤reachBytes∧∀ x ∈ xs,p x
def Dec (P:Program) {α:Type} (t:TypeId) (c:α→List FV) (ok:α→Prop):Prop:=∀ d ys,OKC P d t ys→∃ x,ys = c x∧ok x
section
variable {P:Program} {t e:TypeId}
theorem Dec.int {k:IntKind} (h:P.underlying t = some (.int k)):Dec P t (cI k) (okI k):=fun d ys ho => by
 cases d with
 | zero => exact ho.elim
 | succ d =>
  simp only [OKC,h] at ho;obtain ⟨m,rfl,hw⟩:=ho
  exact ⟨m,rfl,by simpa [Lit.wf,okI] using hw⟩
theorem Dec.bool (h:P.underlying t = some .bool):Dec P t cB okB:=fun d ys ho => by
 cases d with
 | zero => exact ho.elim
 | succ d =>
  simp only [OKC,h] at ho;obtain ⟨m,rfl⟩:=ho
  exact ⟨m,rfl,trivial⟩
theorem Dec.str (h:P.underlying t = some .string):Dec P t cS okS:=fun d ys ho => by
 cases d with
 | zero => exact ho.elim
 | succ d =>
  simp only [OKC,h] at ho;obtain ⟨m,rfl,hw⟩:=ho
  exact ⟨m,rfl,hw⟩
theorem Dec.sl {α:Type} {c:α→List FV} {ok:α→Prop} {b:Nat} (h:P.underlying t = some (.slice e)) (hb:P.bytesOf e = b) (he:Dec P e c ok):Dec P t (cL c) (okL b ok):=fun d ys ho => by
 cases d with
 | zero => exact ho.elim
 | succ d =>
  simp only [OKC,h] at ho;obtain ⟨xs,rfl,hl,hx⟩:=ho
  have:∀ xs:List (List FV),(∀ x ∈ xs,OKC P d e x)→∃ as_:List α,xs = as_.map c∧∀ a ∈ as_,ok a:=by
   intro xs
   induction xs with
   | nil => intro _;exact ⟨[],rfl,by simp⟩
   | cons x xs ih =>
    intro hx;obtain ⟨a,rfl,ha⟩:=he d x (hx x Yc)
    obtain ⟨as_,rfl,has⟩:=ih fun y hy => hx y (YR _ hy)
    exact ⟨a :: as_,rfl,fun b hb => by
     rcases List.mem_cons.1 hb with rfl | hb
     ·exact ha
     ·exact has b hb⟩
  obtain ⟨as_,rfl,has⟩:=this xs hx
  exact ⟨as_,rfl,by subst hb;simpa using hl,has⟩
theorem fld (ys:List FV) (o s:Nat):(ys.drop o).take s ++ ys.drop (o + s) = ys.drop o:=by
 rw [← List.drop_drop];exact Y0b s (ys.drop o)
theorem fld_nil {ys:List FV} {n:Nat} (h:ys.length = n):ys.drop n = []:=List.drop_eq_nil_of_le (by omega)
end
theorem pvr_agg {P:Program} {t:TypeId} {W:World} {base:Nat} {v:Value} {s:St} {ys:List FV} {fs:Array Field} (hu:P.underlying t = some (.struct fs)) (hval:Value.okWide P W .any base t v) (hs:s.w = W) (hc:Cov W s.imm ys v.cells.toList):PVR s (.agg (vs ys)) v:=by
 unfold Value.okWide at hval
 rw [hu] at hval
 obtain ⟨cs,rfl,_,_⟩:=hval
 obtain ⟨hl,hc⟩:=hc
 subst hs
 simp only [Value.cells,Y09] at hl hc
 have each:∀ (i:Nat) (u:Value),cs[i]? = some u→∃ y,ys[i]? = some y∧FVR s.w s.imm y u:=fun i u hu => by
  have hi:=(Array.getElem?_eq_some_iff.1 hu).1
  exact ⟨ys[i],Y2 (by omega),hc i _ u (Y2 (by omega)) (by simpa using hu)⟩
 refine .agg (by rw [Z0k];exact hl) (fun i x hx => ?_) (fun i u hu => (each i u hu).choose_spec.2.Z5w)
 rw [vs_get,Y1] at hx
 obtain ⟨y,hy,rfl⟩:=hx
 have hi:=(List.getElem?_eq_some_iff.1 hy).1
 refine .v (hc i y _ hy ?_)
 rw [Y0D,Ym (by omega),Y8,Ym (by omega)]
 rfl
theorem pvr_one {P:Program} {t:TypeId} {W:World} {base:Nat} {v:Value} {s:St} {y:FV} (hu:(match P.underlying t with | some .bool | some (.int _) | some .string | some (.slice _) => true | _ => false) = true) (hval:Value.okWide P W .any base t v) (hs:s.w = W) (hc:Cov W s.imm [y] v.cells.toList):PVR s (.v y) v:=by
 subst hs
 have hv:v.cells.toList = [v]:=by
  unfold Value.okWide Cell.okWide Cell.ok at hval
  split at hu
  all_goals (first | (rename_i h1;rw [h1] at hval) | skip)
  ·cases v <;> first | rfl | exact hval.elim
  ·cases v <;> first | rfl | exact hval.elim
  ·cases v <;> first | rfl | exact hval.elim
  ·cases v <;> first | rfl | exact hval.elim
  ·cases hu
 rw [hv] at hc
 exact .v (hc.2 0 y v rfl rfl)
end Go.Dn

namespace Go.Dn
open Go
def cloneA (t b : TypeId) : Code := .region 0 #[{ dst := some 2, op := .assign (.const (.slice none 0 0)), type := t, pos := "slices.go:355", after := #[], guard := none }] false
def Z4g (t b : TypeId) : Array Oper := #[{ dst := some 3, op := .move (.tmp 0), type := t, pos := "slices.go:357", after := #[], guard := none },
 { dst := some 4, op := .binOp .eql t (.tmp 3) (.const (.slice none 0 0)) t, type := b, pos := "slices.go:357", after := #[{ on := 0, ground := .data }], guard := none }]
def cloneC (t : TypeId) : Code := .cond (.tmp 4) ((Code.region 2 #[{ dst := some 2, op := .assign (.const (.slice none 0 0)), type := t, pos := "slices.go:358", after := #[], guard := none }] false).seq .ret) .skip
def cloneD (t:TypeId):Code:=(Code.region 3
 #[{ dst := some 5, op := .buildSlice t 0 #[], type := t, pos := "slices.go:362", after := #[], guard := none },
  { dst := some 6, op := .move (.tmp 0), type := t, pos := "slices.go:362", after := #[], guard := none },
  { dst := some 7, op := .call { callee := .builtin .append, args := #[.tmp 5, .tmp 6], argTypes := #[t, t] }, type := t, pos := "slices.go:362", after := #[{ on := 0, ground := .data }, { on := 1, ground := .data }], guard := none },
  { dst := some 2, op := .assign (.tmp 7), type := t, pos := "slices.go:362", after := #[{ on := 2, ground := .data }, { on := 2, ground := .chain }, { on := 0, ground := .phase }, { on := 1, ground := .phase }, { on := 2, ground := .phase }], guard := none }] false).seq .ret
def cloneBody (t b:TypeId):Code:=(cloneA t b).seq (((Code.region 1 (Z4g t b) false).seq (cloneC t)).seq (cloneD t))
structure CloneT (P:Program) (t el:TypeId) (sz by_:Nat) (zs:List PV):Prop where
 ht:tslice P t = some el
 hs:tsize P el = some sz
 hb:tbytes P el = some by_
 hz:tzero P el = some zs
 hc:(sz != 0 && by_ != 0 && zs.length == sz) = true
variable {X:Ctx} {fn:FuncId} {t b el:TypeId} {sz by_:Nat} {zs:List PV}
theorem cloneD_runs (hT:CloneT X.P t el sz by_ zs) {xs:List (List FV)} (hl:xs.all (fun y => y.length == sz) = true) (hroom:xs.length * by_≤room) {e:Env} {σ:Heap} (h0:e 0 = .v (.sl xs)) :
  Runs X 8 fn (cloneD t) e σ fun x e' σ' => x = .ret∧∃ (lo hi:Nat) (L:List Res) (k:Nat),Has σ' lo hi L∧L[k]? = some (.sl (e' 2) el sz xs true):=by
 have hc:=hT.hc
 simp only [Y9,beq_iff_eq,bne_iff_ne,ne_eq] at hc
 have H:Hs σ []:=Has.nil (YC _)
 obtain ⟨e0,rfl⟩:=(show Z6 e [(0,.v (.sl xs))] from ⟨h0,trivial⟩).ex
 show Runs X 8 fn (Code.seq _ _) _ _ _
 apply Runs.then
 refine Runs.Z4 4 rfl H ?_;intro b1 σ H
 refine Ops.Z0p (zs:=zs) (sz:=sz) (pp:=[]) [] H (by omega) (by omega) hT.ht rfl hT.hs hT.hz (by simp only [Y9,beq_iff_eq,bne_iff_ne,ne_eq];exact ⟨⟨hc.2,hc.1.1⟩,by simp⟩) rfl rfl rfl rfl ?_;intro σ H
 refine Ops.move (v:=.v (.sl xs)) rfl rfl ?_
 refine Ops.appendS (v:=.buf (b1 + 0) 0 sz) (w:=.v (.sl xs)) (xs:=[]) (ys:=xs) H (by omega) (by omega) 0 rfl rfl rfl (.p hl) hT.ht hT.hs hT.hb hT.hz hT.hc (by simpa using hroom) nofun rfl ?_;intro w σ H
 refine Ops.assign (v:=w) rfl rfl ?_
 apply Ops.nil
 apply Runs.ret
 exact ⟨rfl,_,_,_,0,H,rfl⟩
theorem cloneOps_wp {s:St} {e:Env} {a:Act} (hX:CtxOK X) (hG:Z0n X s) (hi:Inv s) (he:EnvR s 8 e a) (hT:CloneT X.P t el sz by_ zs) {xs:List (List FV)} (h0:e 0 = .v (.sl xs)) {Q:Exit→Act→World→Prop}
  (hQ:∀ (o:Option Addr) (a':Act) (w':World) (ι':Nat→Nat),(o = none→xs = [])→Then s 8 a (putD 8 (putD 8 e (some 3) (.v (.sl xs))) (some 4) (.v (.bool o.isNone))) ⟨s.σ.nx + 2,s.σ.ent⟩ a' w' ι'→Q .normal a' w') :
  (Code.region 1 (Z4g t b) false).wp X.P Q a s.w:=by
 refine (wpIn_wide (n:=0)).1 (wpIn_region ?_)
 have hi':=Z7t hi 2
 have he':=he.mono (Z3G (s:=s) 2)
 have hG':=hG.mono (Z3G (s:=s) 2)
 have st : Z1A X (Z0M X) 8 (Z4g t b) s.σ.nx 0 { dst := some 3, op := .move (.tmp 0), type := t, pos := "slices.go:357", after := #[], guard := none } e (s.more 2).σ = some (putD 8 e (some 3) (.v (.sl xs)), (s.more 2).σ) := by
  simp only [Z1A,Z0C,ZB,Z0,h0,YA,Y0]
 have first:=stepO_ok (m:=0) (Q:=Q) (rd:=none) (s:=s.more 2) (a:=a) (callL_ok hX) hG' hi' he' (hi.nx _ (by omega)) (by simp only [St.more];omega) st (K:=wpOpsIn (Fw none) 0 X.P (Z4g t b) Q [1]) ?_
 ·have h0' : (Z4g t b)[0]? = some { dst := some 3, op := .move (.tmp 0), type := t, pos := "slices.go:357", after := #[], guard := none } := rfl
  have hr:List.range (Z4g t b).size = [0,1]:=rfl
  rw [hr];simp only [wpOpsIn,h0'];exact first
 ·intro a1 w1 ι1 ht;have hn:=ht.env
  have hw : Region.wanted ⟨some 4, .binOp .eql t (.tmp 3) (.const (.slice none 0 0)) t, b, "slices.go:357", #[{ on := 0, ground := .data }], none⟩ (yielded (Z4g t b) a1.tmps) = true := rfl
  have h1' : (Z4g t b)[1]? = some ⟨some 4, .binOp .eql t (.tmp 3) (.const (.slice none 0 0)) t, b, "slices.go:357", #[{ on := 0, ground := .data }], none⟩ := rfl
  simp only [wpOpsIn,h1'];rw [if_pos hw];have hp:PVR ⟨w1,(s.more 2).Y,(s.more 2).σ,ι1⟩ (.v (.sl xs)) (a1.eval (.tmp 3)):=by
   refine ZC (X:=X) (hG.mono ((Z3G (s:=s) 2).trans ht.ev)) hn ?_
   simp [Z0,putD,upd]
  obtain ⟨o,cap,hv,hcap,hf⟩:=sl_inv hp
  have hs : ∀ o4 : Oper, o4 = ⟨some 4, .binOp .eql t (.tmp 3) (.const (.slice none 0 0)) t, b, "slices.go:357", #[{ on := 0, ground := .data }], none⟩ → o4.uponIn (Fw none) 0 X.P a1 (Z8B ⟨w1, (s.more 2).Y, (s.more 2).σ, ι1⟩ a1 (some 4) (.v (.bool o.isNone)) (s.more 2).σ) Q ((o4.semAt (Fw none).round a1.eval).run X.P w1) := by
   intro o4 ho4;have hop:o4.op = .binOp .eql t (.tmp 3) (.const (.slice none 0 0)) t:=by rw [ho4]
   have hd4:o4.dst = some 4:=by rw [ho4]
   rw [Oper.semAt_eq _ _ _ (by intro c hc;rw [hop] at hc;cases hc)]
   simp only [execOp,hop];rw [← hd4];refine Z23 (s:=⟨w1,(s.more 2).Y,(s.more 2).σ,ι1⟩) ht.inv ?_
   rw [hv];have hg:(eqGuard .eql t (.tmp 3) (.const (.slice none 0 0)) (.slice o xs.length cap) (.slice none 0 0)).run X.P w1 = .ok () w1:=by simp [eqGuard]
   refine ⟨.bool o.isNone,?_,.v (.bool _)⟩
   show (do eqGuard .eql t (.tmp 3) (.const (.slice none 0 0)) (.slice o xs.length cap) (.slice none 0 0);binOp .eql t (.slice o xs.length cap) (.slice none 0 0):Sem Value).run X.P w1 = _
   simp only [Sem.run_bind,hg,Result.andThen_ok];exact (Z5g (eqNil 9999 (Z1a hT.ht) o xs.length cap w1) (.inr (.inr ⟨_,_,_,_,_,_,rfl,rfl⟩))).1
  refine Oper.wpIn_mono (K:=Z8B ⟨w1,(s.more 2).Y,(s.more 2).σ,ι1⟩ a1 (some 4) (.v (.bool o.isNone)) (s.more 2).σ) (fun a' w' hh => ?_) ⟨fun _ _ => trivial,hs _ rfl⟩
  obtain ⟨v,rfl,ι',h2,h3,h4⟩:=hh
  refine hQ o _ w' ι' (fun ho => ?_) ⟨h2,((Z3G (s:=s) 2).trans ht.ev).trans h3,(hn.mono h3).put h4,(Z9M _ _ _).trans ht.defers⟩
  subst ho;generalize hz:Value.slice none xs.length cap = z at hf;cases hf with
  | nil => rfl
  | empty => rfl
  | sl => cases hz
theorem clone_calls (hX:CtxOK X) {f:FuncId} {fu:Func} (hf:X.P.funcs[f]? = some fu) (hb:fu.body = some (cloneBody t b)) (hn:fu.ntmps = 8) (hr:fu.results = #[.tmp 2]) (hg:∀ g,X.glob g = none)
  (hT:CloneT X.P t el sz by_ zs) {s:St} (hi:Inv s) {xs:List (List FV)} {v:Value} (hl:xs.all (fun y => y.length == sz) = true) (hroom:xs.length * by_≤room) (hv:PVR s (.v (.sl xs)) v) :
  Calls X.P f #[v] s.w fun en w' => ∃ v',en = .returned v'∧Post s (.v (.sl xs)) s.σ v' w':=by
 have hv1:PVRs s.under [.v (.sl xs)] #[v]:=⟨rfl,fun i x hx => by
  cases i with
  | zero => cases hx;exact ZAz rfl hv
  | succ i => simp at hx⟩
 have hiu:=ZAe hi
 have he:=env_of (s:=s.under) (k:=8) hv1
 have hG:∀ s,Z0n X s:=fun s g cells h => by rw [hg] at h;cases h
 refine (callsIn_wide (n:=0)).1 (callsIn_of_wp_marks hf hb trivial ?_ rfl)
 rw [hn]
 refine wpIn_wide.2 ?_
 have fin:∀ e σ a' w ι (σ3:Heap),Aft s.under 8 { tmps:=#[v] ++ Array.replicate (8 - (#[v] : Array Value).size) undef,defers:=[] } e σ a' w ι→Z1x σ (e 2) = some (.v (.sl xs),σ3) →
   bodyPostM Fence.wide 0 X.P fu (fun en w' => ∃ v',en = .returned v'∧Post s (.v (.sl xs)) s.σ v' w') .ret a' w:=by
  intro e σ a' w ι σ3 ht h4;refine leaves_ok (X:=X) (fu:=fu) (xs:=[e 2]) rfl ht (by rw [hr];rfl) fun v w' hp => ⟨v,rfl,?_⟩
  exact Z8r hi hp h4
 refine wp_seq ?_
 refine wp_mono (Z8D (X:=X) (s:=s.under) hX (fn:=f) (hG _) hiu he (Q:=fun ex e' σ' => ex = .normal∧e' 0 = .v (.sl xs)) ?_) ?_
 ·show Runs X 8 f (Code.region 0 (List.toArray [_]) false) _ ⟨0,fun _ => .none⟩ _
  refine Runs.region rfl ?_;refine Ops.assign (v:=.nils) rfl rfl ?_
  exact Ops.nil ⟨rfl,rfl⟩
 rintro ex a1 w1 ⟨x1,e1,σ1,ι1,⟨rfl,k0⟩,rfl,ht1⟩
 simp only [Ex.out,Exit.then]
 refine wp_seq (wp_seq ?_)
 refine cloneOps_wp (s:=⟨w1,s.under.Y,σ1,ι1⟩) hX (hG _) ht1.inv ht1.env hT k0 ?_
 intro o a2 w2 ι2 ho ht2
 have ht12:=ht1.trans ht2.aft
 simp only [Exit.then]
 generalize he2:putD 8 (putD 8 e1 (some 3) (.v (.sl xs))) (some 4) (.v (.bool o.isNone)) = e2 at ht2 ht12
 have q0:e2 0 = .v (.sl xs):=by rw [← he2];simpa [putD,upd] using k0
 have q4:e2 4 = .v (.bool o.isNone):=by rw [← he2];simp [putD,upd]
 refine wp_mono (Z8D (X:=X) (s:=⟨w2,s.under.Y,⟨σ1.nx + 2,σ1.ent⟩,ι2⟩) hX (fn:=f) (hG _) ht2.inv ht2.env (Q:=fun ex e' σ' => (xs = []∧ex = .ret∧e' 2 = .nils)∨(ex = .normal∧e' 0 = .v (.sl xs))) ?_) ?_
 ·cases o with
  | none =>
   refine Runs.yes (by simp only [Z0,q4];rfl) ?_
   refine Runs.then ?_;refine Runs.region (l:=[_]) rfl ?_
   refine Ops.assign (v:=.nils) rfl rfl ?_
   refine Ops.nil ?_;refine Runs.ret ?_;exact .inl ⟨ho rfl,rfl,rfl⟩
  | some o =>
   refine Runs.no (by simp only [Z0,q4];rfl) ?_
   exact Runs.skip (.inr ⟨rfl,q0⟩)
 rintro ex a3 w3 ⟨x3,e3,σ3,ι3,hq,rfl,ht3⟩
 have ht13:=ht12.trans ht3
 rcases hq with ⟨rfl,rfl,k2⟩ | ⟨rfl,k3⟩
 ·simp only [Ex.out,Exit.then];exact fin e3 σ3 a3 w3 ι3 σ3 ht13 (by rw [k2];rfl)
 ·simp only [Ex.out,Exit.then];refine wp_mono (Z8D (X:=X) (s:=⟨w3,s.under.Y,σ3,ι3⟩) hX (fn:=f) (hG _) ht3.inv ht3.env (cloneD_runs hT hl hroom k3)) ?_
  rintro ex a4 w4 ⟨x4,e4,σ4,ι4,⟨rfl,lo,hi4,L,k,H4,hk⟩,rfl,ht4⟩;obtain ⟨σ5,q,_⟩:=expR_ok H4 (ExpR.one (.c (.s k hk)))
  exact fin e4 σ4 a4 w4 ι4 σ5 (ht13.trans ht4) q
end Go.Dn

namespace Go.Dn
open Go
theorem Has.perm {σ:Heap} {lo hi:Nat} {L L':List Res} (H:Has σ lo hi L) (hp:L.Perm L'):Has σ lo hi L':=by
 have mem:∀ {A:List Res},(∀ (k:Nat) (r:Res),A[k]? = some r→r.holds σ) ↔ ∀ r ∈ A,r.holds σ:=fun {A} =>
  ⟨fun h r hr => by obtain ⟨k,hk⟩:=YB hr;exact h k r hk,fun h k r hk => h r (Y7 hk)⟩
 have pw:L.Pairwise (fun r s => ∀ id,r.owner = some id→s.owner ≠ some id):=by
  rw [Yu];intro i j hi' hj hij;exact H.sep i j _ _ (by omega) (Y2 hi') (Y2 hj)
 have pw':L'.Pairwise (fun r s => ∀ id,r.owner = some id→s.owner ≠ some id):=(hp.pairwise_iff (fun {a b} h id h1 h2 => h id h2 h1)).1 pw
 refine ⟨mem.2 fun r hr => mem.1 H.holds r (hp.mem_iff.2 hr),fun k r hk => ?_,fun i j r s hij h1 h2 => ?_,H.le⟩
 ·obtain ⟨k',hk'⟩:=YB (hp.mem_iff.2 (Y7 hk))
  exact H.lt k' r hk'
 ·obtain ⟨hi',rfl⟩:=List.getElem?_eq_some_iff.1 h1
  obtain ⟨hj',rfl⟩:=List.getElem?_eq_some_iff.1 h2
  rw [Yu] at pw'
  rcases YG i j with h | h
  ·exact pw' i j hi' hj' h
  ·intro id h3 h4;exact pw' j i hj' hi' (by omega) id h4 h3
def pdOf:Ex→Option Code
 | .normal => none
 | .exit t => some (.exit t)
 | .ret => some .ret
theorem Has.slCells {σ:Heap} {lo hi:Nat} {L:List Res} {k:Nat} {v:PV} {et:TypeId} {sz:Nat} {xs:List (List FV)} {lv:Bool} (H:Has σ lo hi L) (h:L[k]? = some (.sl v et sz xs lv)):v.cells = some [v]:=by
 rcases (H.holds k _ h).2 with ⟨rfl,_⟩ | ⟨id,rfl,_⟩ <;> rfl
theorem Runs.env {X:Ctx} {n:Nat} {fn:FuncId} {c:Code} {e:Env} {σ:Heap} {Q:Ex→Env→Heap→Prop} (l:List (Nat × PV)) (he:Z6 e l) (h:∀ e0,Runs X n fn c (sets e0 l) σ Q):Runs X n fn c e σ Q:=by
 obtain ⟨e0,rfl⟩:=he.ex
 exact h e0
section
variable {X:Ctx}
def YldH (X:Ctx) (id:Nat) {S T:Type} (C:S→List Res→Prop) (pvT:T→List PV) (y:S→T→Option (S × Bool)):Prop :=
 ∀ s t s' b,y s t = some (s',b)→∀ σ lo hi O L,C s L→Has σ lo hi (O ++ L)→∃ σ' L',Z0M X (.yld id) (pvT t) σ = some (.v (.bool b),σ')∧C s' L'∧Hs σ' (O ++ L')
def ItF (X:Ctx) (f:FuncId) (args:List PV) {S:Type} (C:S→List Res→Prop) (s s':S):Prop :=
 ∀ σ L,C s L→Hs σ L→∃ σ' L',Z0M X (.fn f) args σ = some (.tup [],σ')∧C s' L'∧Hs σ' L'
structure EndsI {S:Type} (C:S→List Res→Prop) (s:S) (x:Ex) (e:Env) (σ:Heap):Prop where
 out:(x = .normal∨x = .ret)∧∃ L,C s L∧Hs σ L
theorem EndsI.H {S:Type} {C:S→List Res→Prop} {s:S} {x:Ex} {e:Env} {σ:Heap} {lo hi:Nat} {L L0:List Res} (hx:x = .normal∨x = .ret) (H:Has σ lo hi L) (k:Nat) (hk:L.drop k = L0) (hC:C s L0):EndsI C s x e σ :=
 ⟨hx,L0,hC,(hk ▸ H.drop k:Has σ lo hi L0).all⟩
theorem ItF.of {f:FuncId} {args:List PV} {S:Type} {C:S→List Res→Prop} {s s':S} {fu:Func} {c:Code} {m:Nat} (hf:X.P.funcs[f]? = some fu) (hb:fu.body = some c) (hr:fu.results = #[]) (hi:X.intr f args = none) (hk:X.keep f = false) (ho:X.opn f = false) (hs:args.all PV.still = true)
  (hp:args.all PV.pure = false) (hm:max fu.ntmps args.length = m) (h:∀ σ L,C s L→Hs σ L→Runs X m f c (Z6T args) σ (EndsI C s')):ItF X f args C s s':=by
 subst hm
 intro σ L hC H
 obtain ⟨lf,x,e',σ1,h1,hE⟩:=(h σ L hC H).run
 obtain ⟨hx,L',hC',H'⟩:=hE.out
 refine ⟨σ1,L',Z2o (lf:=lf) ?_,hC',H'⟩
 have hbody:Z1w X (Z0M X) lf f args σ = some (.tup [],σ1):=by
  simp only [Z1w,hf,hb,h1]
  rcases hx with rfl | rfl <;> simp [hr,Z0N,Z1v]
 simp only [Z5Q,hi,hk,Y6,if_false,Z68 hs,ho,hp,hbody,Y0]
 rfl
section
variable {n:Nat} {dr:Bool} {fn:FuncId} {ops:Array Oper} {base i:Nat} {l:List Oper} {e:Env} {σ:Heap} {K:Env→Heap→Prop} {Q:Ex→Env→Heap→Prop}
variable {d:Nat} {t:TypeId} {p:String} {af:Array Edge} {x:Operand} {lo hi:Nat} {L:List Res}
theorem Ops.callY {S T:Type} {C:S→List Res→Prop} {pvT:T→List PV} {y:S→T→Option (S × Bool)} {id:Nat} {args:Array Operand} {ts:Array TypeId} {s s':S} {z:T} {b:Bool} (O:List Res) (H:Has σ lo hi (O ++ L)) (hC:C s L) (hx:Z0 X e x = some (.yld id)) (ha:ZY X e args.toList = some (pvT z))
  (hy:YldH X id C pvT y) (hq:y s z = some (s',b)) (hdr:dr = false) (hd:Nat.blt d n = true)
  (hk:∀ σ' L',C s' L'→Hs σ' (O ++ L')→Ops X n dr ops base (i + 1) l (set e d (.v (.bool b))) σ' K) :
  Ops X n dr ops base i (⟨some d,.call { callee:=.value x,args:=args,argTypes:=ts },t,p,af,none⟩ :: l) e σ K:=by
 obtain ⟨σ',L',q1,q2,q3⟩:=hy _ _ _ _ hq σ lo hi O L hC H
 exact .plain (x:=.v (.bool b)) (σ1:=σ') (by simp only [ZB,Z02,ha,hx,q1]) (fun h => by rw [hdr] at h;cases h) hd (hk σ' L' q2 q3)
end
def RangeC (id:Nat) (fn:FuncId) (e:Env) (n:Nat) (ps:List Nat) (as_ bo:Code) {S:Type} (Co:S→List Res→Prop) (pd:Nat→Option Code):S × Nat→List Res→Prop :=
 fun s L => ∃ M,Co s.1 M∧L = .loop id fn e n ps as_ bo (if s.2 = 0 then .ready else .done) (pd s.2) :: M
variable {n:Nat} {fn:FuncId} {e:Env} {σ:Heap} {Q:Ex→Env→Heap→Prop}
def BodyOK (X:Ctx) (n:Nat) (fn:FuncId) (e:Env) (ps:List Nat) (as_ bo:Code) {S T:Type} (Co:S→List Res→Prop) (pvT:T→List PV) (yb:S→T→Option (S × Nat)) (pd:Nat→Option Code):Prop :=
 ∀ (R0 R1:Res) s t s' p,yb s t = some (s',p)→∀ σ M O,Co s M→Hs σ (R0 :: (M ++ O)) →
  Runs X n fn as_ (Z4S e n ps (pvT t)) σ fun x e1 σ1 => x = .normal∧∃ M1,Hs σ1 (R0 :: (M1 ++ O)) ∧
   ∀ σ2,Hs σ2 (R1 :: (M1 ++ O))→Runs X n fn bo e1 σ2 fun x e2 σ3 => (pdOf x = pd p∧(x = .normal ↔ p = 0))∧∃ M2,Co s' M2∧Hs σ3 (R1 :: (M2 ++ O))
theorem rangeY_ok {S T:Type} {ps:List Nat} {as_ bo:Code} {Co:S→List Res→Prop} {pvT:T→List PV} {yb:S→T→Option (S × Nat)} {pd:Nat→Option Code} (hpd:pd 0 = none) (hlen:∀ t,ps.length = (pvT t).length) (hpure:∀ t,(pvT t).all PV.pure = true)
  (hbody:BodyOK X n fn e ps as_ bo Co pvT yb pd) (id:Nat):YldH X id (RangeC id fn e n ps as_ bo Co pd) pvT (Z3L yb):=by
 rintro ⟨s,p⟩ t ⟨s',p'⟩ b hy σ lo hi O L ⟨M,hM,rfl⟩ H
 unfold Z3L at hy
 simp only at hy hM
 split at hy
 ·rename_i hp0;subst hp0;rw [Y1] at hy;obtain ⟨r,hr,he⟩:=hy
  simp only [Y3] at he;obtain ⟨rfl,rfl⟩:=he
  simp only [if_true,hpd] at H;have H1:Hs σ (.loop id fn e n ps as_ bo .ready none :: (M ++ O)):=(H.perm (by rw [← Y0X];exact List.perm_append_comm)).all
  obtain ⟨l1,x1,e1,σ1,r1,rfl,M1,H2,hb⟩:=(hbody (.loop id fn e n ps as_ bo .ready none) (.loop id fn e n ps as_ bo .busy none) s t s' p' hr σ M O hM H1).run
  have hent:σ1.ent id = .loop fn e n ps as_ bo .ready none:=H2.holds 0 _ rfl
  have H3:Hs (σ1.put id (.loop fn e n ps as_ bo .busy none)) (.loop id fn e n ps as_ bo .busy none :: (M1 ++ O)):=(H2.put (k:=0) rfl rfl (r':=.loop id fn e n ps as_ bo .busy none) Z28 rfl).all
  obtain ⟨l2,x2,e2,σ3,r2,⟨hx,hx0⟩,M2,hM2,H4⟩:=(hb _ H3).run
  have hent0:σ.ent id = .loop fn e n ps as_ bo .ready none:=H1.holds 0 _ rfl
  have fin:∀ (st:LoopState) (pc:Option Code),Hs (σ3.put id (.loop fn e n ps as_ bo st pc)) (O ++ (.loop id fn e n ps as_ bo st pc :: M2)):=fun st pc =>
   ((H4.put (k:=0) rfl rfl (r':=.loop id fn e n ps as_ bo st pc) Z28 rfl).perm (by rw [List.set_cons_zero,← Y0X];exact List.perm_append_comm)).all
  have call:∀ (st:LoopState) (pc:Option Code) (b:Bool),(match x2 with
    | .normal => some (PV.v (.bool true),σ3.put id (.loop fn e n ps as_ bo .ready none))
    | .exit t => some (PV.v (.bool false),σ3.put id (.loop fn e n ps as_ bo .done (some (.exit t))))
    | .ret => some (PV.v (.bool false),σ3.put id (.loop fn e n ps as_ bo .done (some .ret)))) = some (.v (.bool b),σ3.put id (.loop fn e n ps as_ bo st pc)) →
    Z0M X (.yld id) (pvT t) σ = some (.v (.bool b),σ3.put id (.loop fn e n ps as_ bo st pc)):=by
   intro st pc b hm;refine Z2o (lf:=max l1 l2) ?_
   simp only [Z5Q,hent0,hlen t,if_true,Z35 (hpure t),Z2t (Y0v l1 l2) r1,hent,Z2t (Y0q l1 l2) r2];exact hm
  cases x2 with
  | normal =>
   have hp0:=hx0.1 rfl
   subst hp0;exact ⟨_,_,call .ready none true rfl,⟨M2,hM2,by simp [hpd]⟩,fin .ready none⟩
  | exit t' =>
   have hp0:p' ≠ 0:=fun h => by have:=hx0.2 h;cases this
   have hbeq:(p' == 0) = false:=by simpa using hp0
   rw [hbeq];exact ⟨_,_,call .done (some (.exit t')) false rfl,⟨M2,hM2,by simp only [if_neg hp0,← hx,pdOf]⟩,fin .done _⟩
  | ret =>
   have hp0:p' ≠ 0:=fun h => by have:=hx0.2 h;cases this
   have hbeq:(p' == 0) = false:=by simpa using hp0
   rw [hbeq];exact ⟨_,_,call .done (some .ret) false rfl,⟨M2,hM2,by simp only [if_neg hp0,← hx,pdOf]⟩,fin .done _⟩
 ·cases hy
theorem Runs.rangeH {S T:Type} {g:Operand} {ps:Array Tmp} {as_ bo:Code} {f:FuncId} {first caps:List PV} {M0:List Res} (H:Hs σ M0) (hg:Z0 X e g = some (.clo f first caps))
  (Co:S→List Res→Prop) (pvT:T→List PV) (yb:S→T→Option (S × Nat)) (pd:Nat→Option Code) (hpd:pd 0 = none) (hjd:∀ p,∃ x,Z6l (pd p) = some x) {s0:S} {r:S × Nat} (h0:Co s0 M0) (hlen:∀ t,ps.toList.length = (pvT t).length) (hpure:∀ t,(pvT t).all PV.pure = true)
  (hbody:BodyOK X n fn e ps.toList as_ bo Co pvT yb pd)
  (hit:∀ id,YldH X id (RangeC id fn e n ps.toList as_ bo Co pd) pvT (Z3L yb)→ItF X f (first ++ [.yld id] ++ caps) (RangeC id fn e n ps.toList as_ bo Co pd) (s0,0) r)
  (hq:∀ x σ' M',Z6l (pd r.2) = some x→Co r.1 M'→Hs σ' M'→Q x e σ'):Runs X n fn (.rangeFunc g ps as_ bo) e σ Q:=by
 obtain ⟨m,ent⟩:=σ
 let σ1:Heap:=⟨m + 1,upd ent m (.loop fn e n ps.toList as_ bo .ready none)⟩
 have H1:Hs σ1 (.loop m fn e n ps.toList as_ bo .ready none :: M0):=by
  have h1:Has (⟨m + 1,ent⟩ : Heap) m (m + 1) M0:=H.enter 1
  exact (h1.push (b:=m) (en:=.loop fn e n ps.toList as_ bo .ready none) (YC _) (Nat.lt_succ_self _) (r':=.loop m fn e n ps.toList as_ bo .ready none) Z28 rfl).all
 obtain ⟨σ2,L',hc,⟨M',hM',rfl⟩,H2⟩:=hit m (rangeY_ok hpd hlen hpure hbody m) σ1 _ ⟨M0,h0,by simp [hpd]⟩ H1
 have hent:σ2.ent m = .loop fn e n ps.toList as_ bo (if r.2 = 0 then .ready else .done) (pd r.2):=H2.holds 0 _ rfl
 have hnb:(if r.2 = 0 then LoopState.ready else LoopState.done) ≠ LoopState.busy:=by split <;> simp
 have Hf:Hs (σ2.put m (.loop fn e n ps.toList as_ bo .exhausted (pd r.2))) M':=((H2.put (k:=0) rfl rfl (r':=.loop m fn e n ps.toList as_ bo .exhausted (pd r.2)) Z28 rfl).erase 0).all
 obtain ⟨x,hx⟩:=hjd r.2
 refine ⟨0,x,e,_,?_,hq x _ M' hx hM' Hf⟩
 simp only [ZG,hg]
 rw [show Z0M X (.fn f) (first ++ [PV.yld m] ++ caps) ⟨m + 1,upd ent m (.loop fn e n ps.toList as_ bo .ready none)⟩ = some (.tup [],σ2) from hc]
 simp only [hent,if_neg hnb,hx]
theorem callO_of {f:FuncId} {args:List PV} {fu:Func} {c:Code} {m:Nat} {σ:Heap} {Post:PV→Heap→Prop} (hf:X.P.funcs[f]? = some fu) (hb:fu.body = some c) (hi:X.intr f args = none) (hk:X.keep f = false) (ho:X.opn f = true) (hp:args.all PV.pure = true) (hm:max fu.ntmps args.length = m)
  (h:Runs X m f c (Z6T args) σ fun x e σ' => (x = .normal∨x = .ret)∧∃ xs,Z0N X.P e σ' fu.results.toList = some xs∧Post (Z1v xs) σ'):∃ r σ',Z0M X (.fn f) args σ = some (r,σ')∧Post r σ':=by
 subst hm
 obtain ⟨lf,x,e',σ1,h1,hx,xs,h2,h3⟩:=h.run
 refine ⟨Z1v xs,σ1,Z2o (lf:=lf) ?_,h3⟩
 have hbody:Z1w X (Z0M X) lf f args σ = some (Z1v xs,σ1):=by
  simp only [Z1w,hf,hb,h1]
  rcases hx with rfl | rfl <;> simp only [h2,YA]
 simp only [Z5Q,hi,hk,Y6,if_false,Z35 hp,ho,if_true,hbody]
theorem Ops.callO {n:Nat} {dr:Bool} {ops:Array Oper} {base i:Nat} {l:List Oper} {e:Env} {σ:Heap} {K:Env→Heap→Prop} {d:Nat} {t:TypeId} {p:String} {af:Array Edge}
  {f:FuncId} {args:Array Operand} {ts:Array TypeId} {ys:List PV} {Post:PV→Heap→Prop} (ha:ZY X e args.toList = some ys) (hf:∃ r σ',Z0M X (.fn f) ys σ = some (r,σ')∧Post r σ') (hdr:dr = true→Z3s (Region.before ops) ops i = true) (hd:Nat.blt d n = true)
  (hk:∀ r σ',Post r σ'→Ops X n dr ops base (i + 1) l (set e d r) σ' K) :
  Ops X n dr ops base i (⟨some d,.call { callee:=.value (.func f),args:=args,argTypes:=ts },t,p,af,none⟩ :: l) e σ K:=by
 obtain ⟨r,σ',q1,q2⟩:=hf
 exact .plain (x:=r) (σ1:=σ') (by simp only [ZB,Z02,ha,Z0,q1]) (fun h => Z8K (hdr h)) hd (hk r σ' q2)
end
end Go.Dn

namespace Go.Dn
open Go
theorem Has.pickT {σ:Heap} {lo hi:Nat} {T:List Res} (A:List Res) (ks:List Nat) (hn:ks.Nodup) (hk:ks.all (Nat.blt · A.length) = true) (H:Has σ lo hi (A ++ T)):Has σ lo hi (Dn.pick A ks ++ T):=by
 have hk':∀ k ∈ ks,k < A.length:=fun k h => by
  have:=List.all_eq_true.1 hk k h
  exact Y03 this
 have h:=H.pick (ks ++ (List.range T.length).map (A.length + ·)) (by
  refine List.nodup_append.2 ⟨hn,?_,?_⟩
  ·exact List.Pairwise.map _ (fun a b hab => by omega) List.nodup_range
  ·intro a ha b hb;obtain ⟨j,_,rfl⟩:=List.mem_map.1 hb
   have:=hk' a ha
   omega)
 have fc:∀ (f g:Nat→Option Res) (l:List Nat),(∀ k ∈ l,f k = g k)→l.filterMap f = l.filterMap g:=by
  intro f g l
  induction l with
  | nil => intro _;rfl
  | cons k l ih =>
   intro h;rw [List.filterMap_cons,List.filterMap_cons,h k Yc,ih fun k hk => h k (YR _ hk)]
 have fr:∀ (T:List Res),List.filterMap (fun j => T[j]?) (List.range T.length) = T:=by
  intro T
  induction T with
  | nil => rfl
  | cons r T ih =>
   rw [Yg,List.range_succ_eq_map,List.filterMap_cons,List.filterMap_map];simp only [List.getElem?_cons_zero]
   congr 1
 have e:Dn.pick (A ++ T) (ks ++ (List.range T.length).map (A.length + ·)) = Dn.pick A ks ++ T:=by
  unfold Dn.pick;rw [List.filterMap_append]
  congr 1
  ·exact fc _ _ _ fun k hm => YJ (hk' k hm)
  ·rw [List.filterMap_map];refine Eq.trans (fc _ _ _ fun j _ => ?_) (fr T)
   simp [Function.comp,YL]
 rw [← e];exact h
theorem Has.mem {σ:Heap} {lo hi:Nat} {L:List Res} (H:Has σ lo hi L):∀ r ∈ L,r.holds σ∧∀ id,r.owner = some id→(id < lo∨hi≤id)∧id < σ.nx:=fun r hr => by
 obtain ⟨k,hk⟩:=YB hr
 exact ⟨H.holds k r hk,H.lt k r hk⟩
abbrev Apart (r s:Res):Prop:=∀ id,r.owner = some id→s.owner ≠ some id
theorem Has.pw {σ:Heap} {lo hi:Nat} {L:List Res} (H:Has σ lo hi L):L.Pairwise Apart:=by
 rw [Yu]
 intro i j hi' hj hij
 exact H.sep i j _ _ (by omega) (Y2 hi') (Y2 hj)
theorem Has.mk' {σ:Heap} {lo hi:Nat} {L:List Res} (hm:∀ r ∈ L,r.holds σ∧∀ id,r.owner = some id→(id < lo∨hi≤id)∧id < σ.nx) (hp:L.Pairwise Apart) (hle:hi≤σ.nx):Has σ lo hi L:=by
 refine ⟨fun k r hk => (hm r (Y7 hk)).1,fun k r hk => (hm r (Y7 hk)).2,fun i j r s hij h1 h2 => ?_,hle⟩
 obtain ⟨hi',rfl⟩:=List.getElem?_eq_some_iff.1 h1
 obtain ⟨hj',rfl⟩:=List.getElem?_eq_some_iff.1 h2
 rw [Yu] at hp
 rcases YG i j with h | h
 ·exact hp i j hi' hj' h
 ·intro id h3 h4;exact hp j i hj' hi' (by omega) id h4 h3
def holes (lo hi:Nat):List Res:=.floor hi :: (List.range (hi - lo)).map fun j => .hole (lo + j)
theorem mem_holes {lo hi:Nat} {r:Res} (h:r ∈ holes lo hi):r = .floor hi∨∃ id,r = .hole id∧lo≤id∧id < hi:=by
 rcases List.mem_cons.1 h with h | h
 ·exact .inl h
 ·obtain ⟨j,hj,rfl⟩:=List.mem_map.1 h
  have:=List.mem_range.1 hj
  exact .inr ⟨_,rfl,by omega,by omega⟩
theorem Has.holesIn {σ:Heap} {lo hi:Nat} {L:List Res} (H:Has σ lo hi L):Hs σ (L ++ holes lo hi):=by
 refine Has.mk' (fun r hr => ?_) ?_ (YC _)
 ·rcases List.mem_append.1 hr with h | h
  ·exact ⟨(H.mem r h).1,fun id ho => ⟨.inl ((H.mem r h).2 id ho).2,((H.mem r h).2 id ho).2⟩⟩
  ·rcases mem_holes h with rfl | ⟨id,rfl,h1,h2⟩
   ·exact ⟨H.le,fun id ho => by cases ho⟩
   ·refine ⟨trivial,fun id' ho => ?_⟩
    cases ho;have:=H.le
    exact ⟨.inl (by omega),by omega⟩
 ·refine List.pairwise_append.2 ⟨H.pw,?_,?_⟩
  ·refine List.pairwise_cons.2 ⟨fun r _ id ho => (by cases ho),?_⟩
   refine List.Pairwise.map _ ?_ List.nodup_range;intro a b hab id h1 h2;have h1:lo + a = id:=Option.some.inj h1
   have h2:lo + b = id:=Option.some.inj h2
   omega
  ·intro r hr s hs id h1 h2;have:=((H.mem r hr).2 id h1).1
   rcases mem_holes hs with rfl | ⟨id',rfl,h3,h4⟩
   ·cases h2
   ·cases h2;omega
theorem Has.holesOut {σ:Heap} {lo hi:Nat} {A L:List Res} (H:Hs σ (A ++ (L ++ holes lo hi))):Has σ lo hi (A ++ L):=by
 rw [← Yp] at H
 have hp:=List.pairwise_append.1 H.pw
 refine Has.mk' (fun r hr => ?_) hp.1 ?_
 ·have h1:=H.mem r (YX _ hr)
  refine ⟨h1.1,fun id ho => ⟨?_,(h1.2 id ho).2⟩⟩
  rcases YG id lo with h | h
  ·exact .inl h
  ·rcases YG id hi with h' | h'
   ·exact absurd rfl (hp.2.2 r hr (.hole id) (YR _ (List.mem_map.2 ⟨id - lo,List.mem_range.2 (by omega),by congr 1;omega⟩)) id ho)
   ·exact .inr h'
 ·exact (H.mem (.floor hi) (YS _ Yc)).1
section
variable {X:Ctx} {f:FuncId} {fu:Func} {c:Code} {m:Nat} {σ:Heap} {cv:PV} {ys args:List PV} {L:List Res} {PostA:PV→List Res→Prop}
def CallI (X:Ctx) (cv:PV) (ys:List PV) (σ:Heap) (T:List Res) (PostA:PV→List Res→Prop):Prop:=∃ r σ' A,callV X cv ys σ = some (r,σ')∧PostA r A∧Hs σ' (A ++ T)
theorem Z2e (hf:X.P.funcs[f]? = some fu) (hb:fu.body = some c) (hcv:∀ σ,callV X cv ys σ = Z0M X (.fn f) args σ) (hi:X.intr f args = none) (hk:X.keep f = true) (ho:X.opn f = true) (hm:max fu.ntmps args.length = m) {T:List Res}
  (h:Runs X m f c (Z6T args) σ fun x e σ' => (x = .normal∨x = .ret)∧∃ xs,Z0N X.P e σ' fu.results.toList = some xs∧∃ A,PostA (Z1v xs) A∧Hs σ' (A ++ T)):CallI X cv ys σ T PostA:=by
 subst hm
 obtain ⟨lf,x,e',σ1,h1,hx,xs,h2,A,h3,h4⟩:=h.run
 refine ⟨Z1v xs,σ1,A,?_,h3,h4⟩
 rw [hcv]
 refine Z2o (lf:=lf) ?_
 have hbody:Z1w X (Z0M X) lf f args σ = some (Z1v xs,σ1):=by
  simp only [Z1w,hf,hb,h1]
  rcases hx with rfl | rfl <;> simp only [h2,YA]
 simp only [Z5Q,hi,hk,if_true,ho,hbody]
theorem callIO_of (hf:X.P.funcs[f]? = some fu) (hb:fu.body = some c) (hcv:∀ σ,callV X cv ys σ = Z0M X (.fn f) args σ) (hi:X.intr f args = none) (hk:X.keep f = false) (ho:X.opn f = true) (hp:args.all PV.pure = true) (hm:max fu.ntmps args.length = m) {T:List Res}
  (h:Runs X m f c (Z6T args) σ fun x e σ' => (x = .normal∨x = .ret)∧∃ xs,Z0N X.P e σ' fu.results.toList = some xs∧∃ A,PostA (Z1v xs) A∧Hs σ' (A ++ T)):CallI X cv ys σ T PostA:=by
 obtain ⟨r,σ',h1,A,h2,h3⟩:=callO_of (Post:=fun r σ' => ∃ A,PostA r A∧Hs σ' (A ++ T)) hf hb hi hk ho hp hm h
 exact ⟨r,σ',A,by rw [hcv];exact h1,h2,h3⟩
end
section
variable {X:Ctx} {n:Nat} {dr:Bool} {fn:FuncId} {ops:Array Oper} {base i:Nat} {l:List Oper} {e:Env} {σ:Heap} {K:Env→Heap→Prop}
variable {d:Nat} {t t1:TypeId} {p:String} {af:Array Edge} {x:Operand} {lo hi:Nat} {L:List Res}
theorem callV_step {cv:PV} {args:List PV} {r:PV} {σ':Heap} {c:Call} {id0:Nat} (hc:c.callee = .value x) (hx:Z0 X e x = some cv) (ha:ZY X e c.args.toList = some args) (h:Dn.callV X cv args σ = some (r,σ')):Z02 X (Z0M X) e σ id0 c = some (r,σ'):=by
 simp only [Z02,ha,hc,hx]
 unfold Dn.callV at h
 split at h
 ·exact h
 ·exact h
 ·cases h
theorem Sub.more {C L M:List Res} (h:Sub C L):Sub C (L ++ M):=by
 induction h with
 | nil => exact .nil
 | cons k h t ih =>
  refine .cons k ?_ ih;rw [YJ (List.getElem?_eq_some_iff.1 h).1,h]
theorem callI_back {cv:PV} {ys:List PV} {PostA:PV→List Res→Prop} (A:List Res) (H:Has σ lo hi (A ++ L)) (hf:∀ T,(∀ C,Sub C L→Sub C T)→Hs σ (A ++ T)→CallI X cv ys σ T PostA) :
  ∃ r σ' A',Dn.callV X cv ys σ = some (r,σ')∧PostA r A'∧Has σ' lo hi (A' ++ L):=by
 have hsub:∀ C,Sub C L→Sub C (L ++ holes lo hi):=fun C h => h.more
 have H1:=H.holesIn
 rw [Yp] at H1
 obtain ⟨r,σ',A',h1,h2,h3⟩:=hf (L ++ holes lo hi) hsub H1
 exact ⟨r,σ',A',h1,h2,h3.holesOut⟩
theorem Ops.Z6N {cv:PV} {args:Array Operand} {ts:Array TypeId} {ys:List PV} {PostA:PV→List Res→Prop} (A:List Res) (H:Has σ lo hi (A ++ L)) (hx:Z0 X e x = some cv) (ha:ZY X e args.toList = some ys) (hf:∀ T,(∀ C,Sub C L→Sub C T)→Hs σ (A ++ T)→CallI X cv ys σ T PostA) (hdr:dr = true→Z3s (Region.before ops) ops i = true) (hd:Nat.blt d n = true)
  (hk:∀ r A' σ',PostA r A'→Has σ' lo hi (A' ++ L)→Ops X n dr ops base (i + 1) l (set e d r) σ' K) :
  Ops X n dr ops base i (⟨some d,.call { callee:=.value x,args:=args,argTypes:=ts },t,p,af,none⟩ :: l) e σ K:=by
 obtain ⟨r,σ',A',q1,q2,q3⟩:=callI_back A H hf
 exact .plain (x:=r) (σ1:=σ') (by simp only [ZB];exact callV_step rfl hx ha q1) (fun h => Z8K (hdr h)) hd (hk r A' σ' q2 q3)
def FnO (X:Ctx) (f:FuncId) (args:List PV) (PostA:PV→List Res→Prop):Prop:=∀ σ T,Hs σ T→CallI X (.v (.fn f)) args σ T PostA
theorem FnO.of {f:FuncId} {fu:Func} {c:Code} {m:Nat} {args:List PV} {PostA:PV→List Res→Prop} (hf:X.P.funcs[f]? = some fu) (hb:fu.body = some c) (hi:X.intr f args = none) (hk:X.keep f = false) (ho:X.opn f = true) (hp:args.all PV.pure = true) (hm:max fu.ntmps args.length = m)
  (h:∀ σ T,Hs σ T→Runs X m f c (Z6T args) σ fun x e σ' => (x = .normal∨x = .ret)∧∃ xs,Z0N X.P e σ' fu.results.toList = some xs∧∃ A,PostA (Z1v xs) A∧Hs σ' (A ++ T)):FnO X f args PostA :=
 fun σ T H => callIO_of hf hb (fun _ => rfl) hi hk ho hp hm (h σ T H)
theorem Ops.callFO {f:FuncId} {args:Array Operand} {ts:Array TypeId} {ys:List PV} {PostA:PV→List Res→Prop} (H:Has σ lo hi L) (ha:ZY X e args.toList = some ys) (hf:FnO X f ys PostA) (hdr:dr = true→Z3s (Region.before ops) ops i = true) (hd:Nat.blt d n = true)
  (hk:∀ r A' σ',PostA r A'→Has σ' lo hi (A' ++ L)→Ops X n dr ops base (i + 1) l (set e d r) σ' K) :
  Ops X n dr ops base i (⟨some d,.call { callee:=.value (.func f),args:=args,argTypes:=ts },t,p,af,none⟩ :: l) e σ K :=
 Ops.Z6N [] H rfl ha (fun T _ H => hf σ T H) hdr hd hk
theorem Ops.Zh {id ver off:Nat} {te:TypeId} {cells:List PV} (H:Has σ lo hi L) (k:Nat) (hk:L[k]? = some (.blk id te cells)) (hv:cells.length = ver) (hx:Z0 X e x = some (.ptr id ver off)) (ha:dr = true→Seen ops base i id false) (hd:Nat.blt d n = true)
  (hk':Ops X n dr ops base (i + 1) l (set e d (.ptr id ver off)) σ K):Ops X n dr ops base i (⟨some d,.nilCheck x,t,p,af,none⟩ :: l) e σ K:=by
 refine .plain (x:=.ptr id ver off) (σ1:=σ) ?_ (fun h => Z32 (ids:=[id]) rfl ?_ (fun j hj => by simp at hj;subst hj;exact ha h)) hd hk'
 ·simp only [ZB,hx,H.cur hk hv,if_true]
 ·simp only [touched,Zc,YM,YU,hx,vids,YV]
inductive ExpP:List Res→List (Nat × PV)→List (Nat × PV)→List Res→Prop
 | nil {L:List Res}:ExpP L [] [] L
 | keep {L L':List Res} {j:Nat} {x:PV} {ps qs:List (Nat × PV)} (h:Z7U x = false) (t:ExpP L ps qs L'):ExpP L ((j,x) :: ps) ((j,x) :: qs) L'
 | exp {L L1 L2:List Res} {j:Nat} {x y:PV} {ps qs:List (Nat × PV)} (h:ExpV L x y L1) (t:ExpP L1 ps qs L2):ExpP L ((j,x) :: ps) ((j,y) :: qs) L2
theorem ZBo {x:PV} {y:FV} {L':List Res} (H:Has σ lo hi L) (h:ExpC L x y L') (hr:isRef x = false):x = .v y∧L' = L:=by
 cases h with
 | v y => exact ⟨rfl,rfl⟩
 | n => cases hr
 | ro h =>
  rcases h with ⟨rfl,rfl⟩ | rfl
  ·cases hr
  ·exact ⟨rfl,rfl⟩
 | s k h =>
  rcases (H.sl h).2 with ⟨rfl,_⟩ | ⟨id,rfl,_⟩ <;> cases hr
theorem ZBS:∀ {xs:List PV} {ys:List FV} {L L':List Res},Has σ lo hi L→ExpCs L xs ys L'→xs.any isRef = false→xs = vs ys∧L' = L
 | [],ys,L,L',H,h,_ => by cases h;exact ⟨rfl,rfl⟩
 | x :: xs,ys,L,L',H,h,hr => by
  simp only [List.any_cons,Bool.or_eq_false_iff] at hr;cases h with
  | cons h t =>
   obtain ⟨rfl,rfl⟩:=ZBo H h hr.1
   obtain ⟨rfl,rfl⟩:=ZBS H t hr.2
   exact ⟨rfl,rfl⟩
theorem expV_noref {x y:PV} {L':List Res} (H:Has σ lo hi L) (h:ExpV L x y L') (hr:Z7U x = false):y = x∧L' = L:=by
 cases h with
 | c h =>
  have:isRef x = false:=by cases x <;> first | rfl | exact hr
  obtain ⟨rfl,rfl⟩:=ZBo H h this
  exact ⟨rfl,rfl⟩
 | a h =>
  obtain ⟨rfl,rfl⟩:=ZBS H h hr
  exact ⟨rfl,rfl⟩
 | p h => exact ⟨rfl,rfl⟩
theorem fvsOf_vs (l:List FV):fvsOf (vs l) = some l:=by
 induction l with
 | nil => rfl
 | cons x l ih => show (fvsOf (vs l)).map (x :: ·) = _;rw [ih];rfl
theorem frzC_ok {x:PV} {y:FV} {L':List Res} (H:Has σ lo hi L) (h:ExpC L x y L'):∃ σ',Z45 σ x = some (.v y,σ')∧Has σ' lo hi L'∧σ'.nx = σ.nx:=by
 cases h with
 | v y => exact ⟨σ,rfl,H,rfl⟩
 | n => exact ⟨σ,rfl,H,rfl⟩
 | ro h => rcases h with ⟨rfl,rfl⟩ | rfl <;> exact ⟨σ,rfl,H,rfl⟩
 | @s _ et sz xs lv k h =>
  obtain ⟨hs,hv⟩:=H.sl h
  rcases hv with ⟨rfl,rfl⟩ | ⟨id,rfl,hb⟩
  ·exact ⟨σ,rfl,H.say h ⟨by simp,.inl ⟨rfl,rfl⟩⟩ rfl,rfl⟩
  ·refine ⟨σ.put id (.blk et (vs xs.flatten) false),?_,H.put h rfl (r':=.sl (.buf id xs.length sz) et sz xs false) ⟨hs,.inr ⟨id,rfl,Z28⟩⟩ rfl,rfl⟩
   simp only [Z45,hb];rw [if_pos (by rw [Z0k,Z0U hs]),fvsOf_vs,YA,Z6s hs]
theorem frzCs_ok:∀ {xs:List PV} {σ:Heap} {L L':List Res} {ys:List FV},Has σ lo hi L→ExpCs L xs ys L'→∃ σ',Z2w σ xs = some (vs ys,σ')∧Has σ' lo hi L'∧σ'.nx = σ.nx
 | [],σ,L,L',ys,H,h => by cases h;exact ⟨σ,rfl,H,rfl⟩
 | x :: xs,σ,L,L',ys,H,h => by
  cases h with
  | cons h t =>
   obtain ⟨σ1,q1,q2,q3⟩:=frzC_ok H h
   obtain ⟨σ2,p1,p2,p3⟩:=frzCs_ok q2 t
   exact ⟨σ2,by simp only [Z2w,q1,Y0,p1];rfl,p2,p3.trans q3⟩
theorem frzV_ok {x y:PV} {L':List Res} (H:Has σ lo hi L) (h:ExpV L x y L') (hn:Z7U x = true):∃ σ',Z3K σ x = some (y,σ')∧Has σ' lo hi L'∧σ'.nx = σ.nx:=by
 cases h with
 | c h =>
  obtain ⟨σ',q1,q2,q3⟩:=frzC_ok H h
  refine ⟨σ',?_,q2,q3⟩;cases h with
  | v y => cases hn
  | n => simp only [Z3K,q1]
  | ro h =>
   rcases h with ⟨rfl,rfl⟩ | rfl
   ·simp only [Z3K,q1]
   ·cases hn
  | s k h =>
   obtain ⟨_,⟨rfl,rfl⟩ | ⟨id,rfl,hb⟩⟩:=H.sl h
   ·simp only [Z3K,q1]
   ·simp only [Z3K,q1]
 | a h =>
  obtain ⟨σ',q1,q2,q3⟩:=frzCs_ok H h
  exact ⟨σ',by simp only [Z3K,q1,Y0],q2,q3⟩
 | p h =>
  exfalso
  cases x <;> simp [PV.pure] at h <;> simp [Z7U] at hn
  obtain ⟨z,hz,hz2⟩:=hn
  have:=h z hz
  cases z <;> simp [PV.isV] at this
  simp [isRef] at hz2
theorem expP_ok:∀ {ps qs:List (Nat × PV)} {σ:Heap} {L L':List Res},Has σ lo hi L→ExpP L ps qs L'→∃ σ',Z0l σ ps = some (qs,σ')∧Has σ' lo hi L'∧σ'.nx = σ.nx
 | [],qs,σ,L,L',H,h => by cases h;exact ⟨σ,rfl,H,rfl⟩
 | p :: ps,qs,σ,L,L',H,h => by
  cases h with
  | keep h t =>
   obtain ⟨σ1,q1,q2,q3⟩:=expP_ok H t
   exact ⟨σ1,by simp only [Z0l,h,Y6,if_false,q1,Y0],q2,q3⟩
  | @exp _ L1 _ j x y ps qs h t =>
   by_cases hr:Z7U x = true
   ·obtain ⟨σ1,q1,q2,q3⟩:=frzV_ok H h hr
    obtain ⟨σ2,p1,p2,p3⟩:=expP_ok q2 t
    exact ⟨σ2,by simp only [Z0l,hr,if_true,q1,Y0,p1],p2,p3.trans q3⟩
   ·have hr:Z7U x = false:=by simpa using hr
    obtain ⟨rfl,rfl⟩:=expV_noref H h hr
    obtain ⟨σ2,p1,p2,p3⟩:=expP_ok H t
    exact ⟨σ2,by simp only [Z0l,hr,Y6,if_false,Y0,p1],p2,p3⟩
def FrzOK (ops:Array Oper) (base i:Nat) (pp:List (Nat × PV)):Prop :=
 Z3s (Region.before ops) ops i = true∨∃ ms:List Nat,(pp.flatMap fun p => Z6q p.2) = ms.map (base + ·) ∧
  (ms.all fun m => Nat.blt m ops.size && ((Region.before ops).getD i 0).testBit m && (List.range ops.size).all fun j => !(unord (Region.before ops) i j && ((Region.before ops).getD j 0).testBit m)) = true
theorem ask_frz {parts:Array (Nat × Operand)} {len:Nat} {pp:List (Nat × PV)} (hp:Z3v X e parts.toList = some pp) (h:FrzOK ops base i pp):Z04 X ops base i ⟨some d,.buildSlice t1 len parts,t,p,af,none⟩ e = true:=by
 rcases h with h | ⟨ms,h1,h2⟩
 ·exact Z8K h
 ·refine ask0 ?_;have hf:frozen X e (.buildSlice t1 len parts) = ms.map (base + ·):=by simp only [frozen,hp,h1]
  simp only [Zn,Z05,hf];refine List.all_eq_true.2 fun k hk => ?_
  obtain ⟨m,hm,rfl⟩:=List.mem_map.1 hk
  have:=List.all_eq_true.1 h2 m hm
  simp only [Y9] at this;simp only [Yr,Y9,decide_eq_true_eq];exact ⟨⟨⟨Y0p _ _,by have:=ZAf this.1.1;omega⟩,this.1.2⟩,this.2⟩
theorem Ops.buildSF {parts:Array (Nat × Operand)} {len sz:Nat} {el:TypeId} {zs:List PV} {pp qq:List (Nat × PV)} {L':List Res} (xs:List (List FV)) (H:Has σ lo hi L) (hlo:lo≤base + i) (hhi:base + i < hi)
  (ht:tslice X.P t1 = some el) (hp:Z3v X e parts.toList = some pp) (hE:ExpP L pp qq L') (hs:tsize X.P el = some sz) (hz:tzero X.P el = some zs) (hc:(zs.length == sz && sz != 0 && Nat.ble (len * sz) 1000000) = true)
  (hf:Z7T (fun i => some (i * sz,sz)) (List.replicate len zs).flatten qq = some (vs xs.flatten)) (hl:xs.length = len) (hx:xs.all (fun y => y.length == sz) = true) (hd:Nat.blt d n = true) (hdr:dr = true→FrzOK ops base i pp)
  (hk:∀ σ',Has σ' (base + i + 1) hi (.sl (.buf (base + i) len sz) el sz xs true :: L')→Ops X n dr ops base (i + 1) l (set e d (.buf (base + i) len sz)) σ' K) (hlit:X.lit = false:=by rfl) :
  Ops X n dr ops base i (⟨some d,.buildSlice t1 len parts,t,p,af,none⟩ :: l) e σ K:=by
 simp only [Y9,beq_iff_eq,bne_iff_ne,ne_eq,Nat.ble_eq] at hc
 obtain ⟨σ1,q1,H1,q3⟩:=expP_ok H hE
 have hl0:(X.lit && len != 0) = false:=by rw [hlit];rfl
 refine .plain (x:=.buf (base + i) len sz) (σ1:=σ1.put (base + i) (.blk el (vs xs.flatten) true)) ?_ (fun h => ask_frz hp (hdr h)) hd (hk _ (H1.push hlo hhi (r':=.sl (.buf (base + i) len sz) el sz xs true) ?_ rfl))
 ·simp only [ZB,Z1h,hp,Y0,q1,Z2U,ht,hs,hz];rw [if_pos ⟨hc.1.1,hc.1.2,hc.2⟩,hf];simp only [litR,hl0];rfl
 ·exact ⟨fun y hy => by have:=List.all_eq_true.1 hx y hy;simpa using this,.inr ⟨base + i,by rw [hl],Z28⟩⟩
end
end Go.Dn

namespace Go.Dn
open Go
section
variable {X:Ctx} {n:Nat} {fn:FuncId} {ops:Array Oper} {base i:Nat} {l:List Oper} {e:Env} {σ:Heap} {K:Env→Heap→Prop}
variable {d:Nat} {t t1:TypeId} {p:String} {af:Array Edge} {x y z:Operand} {lo hi k:Nat} {L:List Res}
end
theorem Ops.nila {X:Ctx} {n:Nat} {dr:Bool} {ops:Array Oper} {base i:Nat} {e:Env} {σ:Heap} {K:Env→Heap→Prop} {lo hi:Nat} {L:List Res} (H:Has σ lo hi L) (h:Hs σ L→K e σ):Ops X n dr ops base i [] e σ K:=.nil (h H.all)
section
variable {X:Ctx} {n:Nat} {dr:Bool} {ops:Array Oper} {base i:Nat} {l:List Oper} {e:Env} {σ:Heap} {K:Env→Heap→Prop}
variable {d:Nat} {t t1:TypeId} {p:String} {af:Array Edge} {x y z:Operand} {lo hi k:Nat} {L:List Res}
end
end Go.Dn

namespace Go.Dn
open Go
def Res.solid:Res→Bool
 | .hole _ => false
 | _ => true
def star (σ:Heap):Res→Res
 | .hole id => .fix id (σ.ent id)
 | r => r
theorem Z5i {σ:Heap} {r:Res}:(star σ r).owner = r.owner:=by cases r <;> rfl
theorem star_holds {σ:Heap} {r:Res} (h:r.holds σ):(star σ r).holds σ:=by cases r <;> first | exact h | exact rfl
theorem star_back {σ σ':Heap} {r:Res} (h:(star σ r).holds σ'):r.holds σ':=by cases r <;> first | exact h | trivial
theorem star_solid {σ:Heap} {r:Res}:(star σ r).solid = true:=by cases r <;> rfl
theorem solid_star {σ:Heap} {r:Res} (h:r.solid = true):star σ r = r:=by cases r <;> first | rfl | cases h
theorem same_ent {σ σ':Heap} {r:Res} {k:Nat} (hs:r.solid = true) (ho:r.owner = some k) (h:r.holds σ) (h':r.holds σ'):σ'.ent k = σ.ent k:=by
 cases r with
 | blk id t cells => cases ho;exact Eq.trans h' (Eq.symm h)
 | sl v e sz xs live =>
  obtain ⟨_,h⟩:=h
  obtain ⟨_,h'⟩:=h'
  rcases h with ⟨rfl,_⟩ | ⟨id,rfl,h⟩
  ·cases ho
  ·cases ho
   rcases h' with ⟨h',_⟩ | ⟨id',h2,h'⟩
   ·cases h'
   ·cases h2;exact h'.trans h.symm
 | floor m => cases ho
 | hole id => cases hs
 | loop id fn e n ps as_ bo st pd => cases ho;exact Eq.trans h' (Eq.symm h)
 | mp id kv => cases ho;exact Eq.trans h' (Eq.symm h)
 | fix id en => cases ho;exact Eq.trans h' (Eq.symm h)
section
variable {σ:Heap} {lo hi:Nat} {L C:List Res}
theorem Has.star (H:Has σ lo hi L):Has σ σ.nx σ.nx (L.map (star σ)):=by
 refine ⟨fun k r h => ?_,fun k r h id ho => ?_,fun j k r s hjk h1 h2 id ho => ?_,YC _⟩
 ·rw [YP,Y1] at h;obtain ⟨q,hq,rfl⟩:=h
  exact star_holds (H.holds k q hq)
 ·rw [YP,Y1] at h;obtain ⟨q,hq,rfl⟩:=h
  rw [Z5i] at ho;have:=(H.lt k q hq id ho).2
  exact ⟨.inl this,this⟩
 ·rw [YP,Y1] at h1 h2;obtain ⟨q,hq,rfl⟩:=h1
  obtain ⟨q',hq',rfl⟩:=h2
  rw [Z5i] at ho ⊢;exact H.sep j k q q' hjk hq hq' id ho
theorem Has.add (H:Has σ σ.nx σ.nx L) {id:Nat} (hl:id < σ.nx) (hn:∀ r ∈ L,r.owner ≠ some id):Has σ σ.nx σ.nx (.fix id (σ.ent id) :: L):=by
 refine ⟨fun j s h => ?_,fun j s h id' ho2 => ?_,fun i j s t hij h1 h2 id' hs => ?_,H.le⟩
 ·cases j with
  | zero => cases h;exact rfl
  | succ j => exact H.holds j s h
 ·cases j with
  | zero => cases h;cases ho2;exact ⟨.inl hl,hl⟩
  | succ j => exact H.lt j s h id' ho2
 ·cases i with
  | zero =>
   cases h1;cases hs;cases j with
   | zero => exact absurd rfl hij
   | succ j => exact hn t (Y7 h2)
  | succ i =>
   cases j with
   | zero =>
    cases h2;intro e;cases e;exact hn s (Y7 h1) hs
   | succ j => exact H.sep i j s t (fun e => hij (by rw [e])) h1 h2 id' hs
def fixL (σ:Heap) (L:List Res):Nat→List Res
 | 0 => L.map (star σ)
 | k + 1 => if (fixL σ L k).any (fun r => r.owner == some k) then fixL σ L k else .fix k (σ.ent k) :: fixL σ L k
theorem fixL_has (H:Has σ lo hi L):∀ (m:Nat),m≤σ.nx→Has σ σ.nx σ.nx (fixL σ L m)
 | 0,_ => H.star
 | k + 1,h => by
  have ih:=fixL_has H k (by omega)
  simp only [fixL]
  split
  ·exact ih
  ·rename_i hn;refine ih.add (by omega) fun r hr ho => hn ?_
   rw [List.any_eq_true];exact ⟨r,hr,by rw [ho];simp⟩
theorem Sub.star {C L:List Res} (h:Sub C L):C.all Res.solid = true→Sub C (L.map (star σ)):=by
 induction h with
 | nil => intro _;exact .nil
 | cons k h t ih =>
  intro hs;simp only [Y00,Y9] at hs;exact .cons k (by rw [YP,h,YA,solid_star hs.1]) (ih hs.2)
theorem Z6R {r:Res} (h:r ∈ L):∀ (m:Nat),star σ r ∈ fixL σ L m
 | 0 => List.mem_map.2 ⟨r,h,rfl⟩
 | k + 1 => by
  simp only [fixL]
  split
  ·exact Z6R h k
  ·exact YR _ (Z6R h k)
theorem Z9R:∀ (m:Nat),∀ r ∈ fixL σ L m,r.solid = true
 | 0,r,h => by
  obtain ⟨q,_,rfl⟩:=List.mem_map.1 h
  exact star_solid
 | k + 1,r,h => by
  simp only [fixL] at h
  split at h
  ·exact Z9R k r h
  ·rcases List.mem_cons.1 h with rfl | h
   ·rfl
   ·exact Z9R k r h
theorem fixL_all:∀ (m k:Nat),k < m→∃ r ∈ fixL σ L m,r.owner = some k
 | 0,k,h => by omega
 | m + 1,k,h => by
  simp only [fixL]
  split
  ·rename_i hn
   rcases YG k m with h' | h'
   ·exact fixL_all m k h'
   ·have:k = m:=by omega
    subst this;rw [List.any_eq_true] at hn;obtain ⟨r,hr,ho⟩:=hn
    exact ⟨r,hr,by simpa using ho⟩
  ·rcases YG k m with h' | h'
   ·obtain ⟨r,hr,ho⟩:=fixL_all m k h'
    exact ⟨r,YR _ hr,ho⟩
   ·have:k = m:=by omega
    subst this;exact ⟨_,Yc,rfl⟩
theorem fixL_out {σ':Heap} {A:List Res} (H:Has σ lo hi L) (hm:hi≤σ.nx) {lo' hi':Nat} (H':Has σ' lo' hi' (A ++ fixL σ L hi)):(∀ k,k < hi→σ'.ent k = σ.ent k)∧Has σ' lo hi (A ++ L):=by
 have hh:∀ r ∈ fixL σ L hi,∃ j,(A ++ fixL σ L hi)[A.length + j]? = some r:=fun r hr => by
  obtain ⟨j,hj,rfl⟩:=Y0A hr
  exact ⟨j,by rw [YL (by omega),Yr,Y2 hj]⟩
 have h0:∀ r ∈ fixL σ L hi,r.holds σ:=fun r hr => by
  obtain ⟨j,hj,rfl⟩:=Y0A hr
  exact (fixL_has H hi hm).holds j _ (Y2 hj)
 have hA:∀ (j:Nat) (r:Res),A[j]? = some r→(A ++ fixL σ L hi)[j]? = some r:=fun j r h => by
  rw [YJ (List.getElem?_eq_some_iff.1 h).1];exact h
 have hAl:∀ (j:Nat) (r:Res),A[j]? = some r→j < A.length:=fun j r h => (List.getElem?_eq_some_iff.1 h).1
 have all:∀ k,k < hi→∃ r ∈ fixL σ L hi,r.owner = some k:=fun k hk => fixL_all hi k hk
 have big:hi≤σ'.nx:=by
  rcases Nat.eq_zero_or_pos hi with h | h
  ·omega
  ·obtain ⟨r,hr,ho⟩:=all (hi - 1) (by omega)
   obtain ⟨j,hj⟩:=hh r hr
   have:=(H'.lt _ r hj _ ho).2
   omega
 refine ⟨fun k hk => ?_,fun k r h => ?_,fun k r h id ho => ?_,fun i j r s hij h1 h2 id ho => ?_,big⟩
 ·obtain ⟨r,hr,ho⟩:=all k hk
  obtain ⟨j,hj⟩:=hh r hr
  exact same_ent (Z9R hi r hr) ho (h0 r hr) (H'.holds _ r hj)
 ·rcases YG k A.length with hk | hk
  ·rw [YJ hk] at h;exact H'.holds k r (hA k r h)
  ·rw [YL hk] at h;obtain ⟨j,hj⟩:=hh _ (Z6R (Y7 h) hi)
   exact star_back (H'.holds _ _ hj)
 ·rcases YG k A.length with hk | hk
  ·rw [YJ hk] at h;refine ⟨.inr ?_,(H'.lt k r (hA k r h) id ho).2⟩
   rcases YG id hi with h' | h'
   ·obtain ⟨q,hq,hqo⟩:=all id h'
    obtain ⟨j,hj⟩:=hh q hq
    exact absurd hqo (H'.sep k _ r q (by omega) (hA k r h) hj id ho)
   ·exact h'
  ·rw [YL hk] at h;obtain ⟨j,hj⟩:=hh _ (Z6R (Y7 h) hi)
   exact ⟨(H.lt _ r h id ho).1,(H'.lt _ _ hj id (by rw [Z5i];exact ho)).2⟩
 ·rcases YG i A.length with hi' | hi' <;> rcases YG j A.length with hj' | hj'
  ·rw [YJ hi'] at h1;rw [YJ hj'] at h2;exact H'.sep i j r s hij (hA i r h1) (hA j s h2) id ho
  ·rw [YJ hi'] at h1;rw [YL hj'] at h2;obtain ⟨k,hk⟩:=hh _ (Z6R (Y7 h2) hi)
   have:=H'.sep i _ r _ (by omega) (hA i r h1) hk id ho
   rw [Z5i] at this;exact this
  ·rw [YL hi'] at h1;rw [YJ hj'] at h2;obtain ⟨k,hk⟩:=hh _ (Z6R (Y7 h1) hi)
   exact H'.sep _ j _ s (by omega) hk (hA j s h2) id (by rw [Z5i];exact ho)
  ·rw [YL hi'] at h1;rw [YL hj'] at h2;exact H.sep _ _ r s (by omega) h1 h2 id ho
end
section
variable {X:Ctx} {n:Nat} {dr:Bool} {fn:FuncId} {ops:Array Oper} {base i:Nat} {l:List Oper} {e:Env} {σ:Heap} {K:Env→Heap→Prop}
variable {d:Nat} {t:TypeId} {p:String} {af:Array Edge} {x:Operand} {lo hi:Nat} {L C:List Res}
theorem Ops.stepS {o:Oper} {e1:Env} {σ1:Heap} (h:Z1A X (Z0M X) n ops base i o e σ = some (e1,σ1)) (ha:dr = true→Z4J X (Z0M X) ops base i o e σ) (hk:Ops X n dr ops base (i + 1) l e1 σ1 K):Ops X n dr ops base i (o :: l) e σ K:=by
 obtain ⟨e',σ',h1,h2⟩:=hk.run
 refine ⟨⟨e',σ',?_,h2⟩⟩
 cases dr with
 | false =>
  simp only [Y6,if_false] at h1 ⊢;simp only [Z2Q,h,Y0,h1]
 | true =>
  simp only [if_true] at h1 ⊢;have:Z15 X (Z0M X) n ops base i o e σ = some (e1,σ1):=by
   unfold Z15
   split
   ·rw [if_pos (ha rfl)];exact h
   ·exact h
  simp only [Z1g,this,Y0,h1]
theorem Ops.plainS {op:Op} {v:PV} {σ1:Heap} (h:ZB X (Z0M X) e σ (base + i) op = some (v,σ1)) (hkd:Z05 op = .call) (hq:dr = true→Z4I ops i = true) (hs:∀ k,k < base + ops.size→Alike (σ.ent k) (σ1.ent k)) (hd:Nat.blt d n = true) (hk:Ops X n dr ops base (i + 1) l (set e d v) σ1 K):Ops X n dr ops base i (⟨some d,op,t,p,af,none⟩ :: l) e σ K:=by
 refine .stepS (e1:=set e d v) (σ1:=σ1) ?_ (fun hdr => ⟨hkd,hq hdr,fun id r σ' hr => ?_⟩) hk
 ·simp only [Z1A,Z0C,h,Y0,putD,if_pos (ZAf hd),ZAT]
 ·have h2:ZB X (Z0M X) e σ id op = some (v,σ1):=by rw [Z7X (id':=base + i) hkd];exact h
  rw [h2] at hr;cases hr;exact hs
theorem Ops.Z40 {f:FuncId} {args:Array Operand} {ts:Array TypeId} {ys:List PV} {PostA:PV→List Res→Prop} (H:Has σ lo hi L) (ha:ZY X e args.toList = some ys)
  (hf:∀ {T:List Res},Has σ σ.nx σ.nx T→∃ r σ',Z0M X (.fn f) ys σ = some (r,σ')∧∃ A,PostA r A∧Hs σ' (A ++ T)) (hhi:base + ops.size = hi)
  (hq:dr = true→Z4I ops i = true) (hd:Nat.blt d n = true)
  (hk:∀ r A σ',PostA r A→Has σ' lo hi (A ++ L)→Ops X n dr ops base (i + 1) l (set e d r) σ' K) :
  Ops X n dr ops base i (⟨some d,.call { callee:=.value (.func f),args:=args,argTypes:=ts },t,p,af,none⟩ :: l) e σ K:=by
 obtain ⟨r,σ',q1,A,q2,q3⟩:=hf (fixL_has H hi H.le)
 obtain ⟨q4,q5⟩:=fixL_out H H.le q3
 subst hhi
 refine .plainS (v:=r) (σ1:=σ') ?_ rfl hq (fun k hk => .inl (q4 k hk)) hd (hk r A σ' q2 q5)
 simp only [ZB,Z02,ha,Z0,q1]
end
inductive FzC (L:List Res):PV→FV→Prop
 | v (y:FV):FzC L (.v y) y
 | n:FzC L .nils (.sl [])
 | ro {v:PV} {xs:List (List FV)} (h:RO v xs):FzC L v (.sl xs)
 | s {v:PV} {et:TypeId} {sz:Nat} {xs:List (List FV)} (k:Nat) (h:L[k]? = some (.sl v et sz xs false)):FzC L v (.sl xs)
inductive FzCs (L:List Res):List PV→List FV→Prop
 | nil:FzCs L [] []
 | cons {x:PV} {y:FV} {xs:List PV} {ys:List FV} (h:FzC L x y) (t:FzCs L xs ys):FzCs L (x :: xs) (y :: ys)
inductive FzV (L:List Res):PV→PV→Prop
 | c {x:PV} {y:FV} (h:FzC L x y):FzV L x (.v y)
 | a {xs:List PV} {ys:List FV} (h:FzCs L xs ys):FzV L (.agg xs) (.agg (vs ys))
 | p {x:PV} (h:x.pure = true):FzV L x x
inductive FzVs (L:List Res):List PV→List PV→Prop
 | nil:FzVs L [] []
 | cons {x y:PV} {xs ys:List PV} (h:FzV L x y) (t:FzVs L xs ys):FzVs L (x :: xs) (y :: ys)
section
variable {σ:Heap} {lo hi:Nat} {L:List Res}
theorem put_same {id:Nat} {en:Ent} (h:σ.ent id = en):σ.put id en = σ:=by
 have:upd σ.ent id en = σ.ent:=by
  funext k
  by_cases hk:k = id
  ·subst hk;rw [ZI,h]
  ·rw [ZU _ _ hk]
 simp only [Heap.put,this]
theorem fzC_ok {x:PV} {y:FV} (H:Has σ lo hi L) (h:FzC L x y):Z08 6 σ x = some (y,σ):=by
 cases h with
 | v y => rfl
 | n => rfl
 | ro h => rcases h with ⟨rfl,rfl⟩ | rfl <;> rfl
 | @s _ et sz xs k h =>
  obtain ⟨hs,hv⟩:=H.sl h
  rcases hv with ⟨rfl,rfl⟩ | ⟨id,rfl,hb⟩
  ·rfl
  ·rw [Z9y hb (by rw [Z0k,Z0U hs]),put_same hb,ZB9 (d:=4)]
   simp only [Y0,Z6s hs]
theorem fzCs_ok:∀ {xs:List PV} {ys:List FV},Has σ lo hi L→FzCs L xs ys→Z5y σ xs = some (ys,σ)
 | [],ys,H,h => by cases h;rfl
 | x :: xs,ys,H,h => by
  cases h with
  | cons h t =>
   have p1:=fzCs_ok H t
   unfold Z5y at p1 ⊢;simp only [Z0G,fzC_ok H h,Y0,p1]
theorem fzV_ok {x y:PV} (H:Has σ lo hi L) (h:FzV L x y):Z2M σ x = some (y,σ)∧y.pure = true:=by
 cases h with
 | c h =>
  have q1:=fzC_ok H h
  refine ⟨?_,rfl⟩;cases h with
  | v y => simp only [Z2M,Z10,q1,Y0]
  | n => simp only [Z2M,Z10,q1,Y0]
  | ro h => rcases h with ⟨rfl,rfl⟩ | rfl <;> simp only [Z2M,Z10,q1,Y0]
  | s k h =>
   obtain ⟨_,⟨rfl,rfl⟩ | ⟨id,rfl,hb⟩⟩:=H.sl h
   ·simp only [Z2M,Z10,q1,Y0]
   ·simp only [Z2M,Z10,q1,Y0]
 | a h => exact ⟨by simp only [Z2M,Z10,fzCs_ok H h,Y0],by simp [PV.pure,vs,PV.isV]⟩
 | p h => exact ⟨Z66 h,h⟩
theorem fzVs_ok:∀ {xs ys:List PV},Has σ lo hi L→FzVs L xs ys→Z0z σ xs = some (ys,σ)∧ys.all PV.pure = true
 | [],ys,H,h => by cases h;exact ⟨rfl,rfl⟩
 | x :: xs,ys,H,h => by
  cases h with
  | cons h t =>
   obtain ⟨q1,q2⟩:=fzV_ok H h
   obtain ⟨p1,p2⟩:=fzVs_ok H t
   exact ⟨by simp only [Z0z,q1,Y0,p1],by simp [q2,p2]⟩
end
theorem Ops.callZS {X:Ctx} {n:Nat} {dr:Bool} {ops:Array Oper} {base i:Nat} {l:List Oper} {e:Env} {σ:Heap} {K:Env→Heap→Prop} {d:Nat} {t:TypeId} {p:String} {af:Array Edge} {lo hi:Nat} {L:List Res}
  {f:FuncId} {args:Array Operand} {ts:Array TypeId} {xs ys:List PV} {r:PV} (H:Has σ lo hi L) (ha:ZY X e args.toList = some xs) (hE:FzVs L xs ys) (hf:Fn X f ys r) (hi0:X.intr f xs = none) (hi1:X.intr f ys = none)
  (hq:dr = true→Z4I ops i = true) (hd:Nat.blt d n = true)
  (hk:Ops X n dr ops base (i + 1) l (set e d r) σ K) :
  Ops X n dr ops base i (⟨some d,.call { callee:=.value (.func f),args:=args,argTypes:=ts },t,p,af,none⟩ :: l) e σ K:=by
 obtain ⟨q1,_⟩:=fzVs_ok H hE
 exact .plainS (v:=r) (σ1:=σ) (by simp only [ZB,Z02,ha,Z0,callL_exp hf hi0 hi1 q1]) rfl hq (fun _ _ => .inl rfl) hd hk
def PV.one:PV→Bool
 | .v _ => true
 | .fptr _ => true
 | .ptr _ _ _ => true
 | .clo _ _ _ => true
 | .yld _ => true
 | _ => false
theorem Z4G {x:PV} (h:x.one = true):x.still = true:=by cases x <;> first | rfl | cases h
theorem one_cells {x:PV} (h:x.one = true):x.cells = some [x]:=by cases x <;> first | rfl | cases h
end Go.Dn

namespace Go.Dn
open Go
def cF (n:Nat):List FV:=[.fn n]
def tailsOK (ops:Array Oper):Nat→List Oper→Bool
 | _,[] => true
 | k,o :: l => (o.after.all fun e => !Region.binds .any e || decide (e.on < k)) && (l.all fun oj => oj.after.any (fun e => Region.binds .any e && e.on == k) || o.apart ops oj) && tailsOK ops (k + 1) l
theorem lex_tails {ops:Array Oper}:∀ (l:List Oper) (k:Nat) (listed:Array Bool),(∀ j,l[j]? = ops[k + j]?)→listed.size = ops.size→(∀ j,j < ops.size→listed[j]? = some (decide (j < k))) →
  tailsOK ops k l = true→Region.lexFrom .any ops l.length k listed = true
 | [],k,listed,hl,hs,hd,h => by
  have h0:ops.size≤k:=by
   have:=hl 0
   simp only [List.getElem?_nil,Y10] at this;exact Array.getElem?_eq_none_iff.1 this.symm
  simp only [Yd,Region.lexFrom,List.isEmpty_iff];apply List.eq_nil_iff_forall_not_mem.2;intro j hj;obtain ⟨h1,o,ho,_⟩:=mem_ready.1 hj
  have hj':j < ops.size:=(Array.getElem?_eq_some_iff.1 ho).1
  have:=hd j hj'
  rw [Y8,this] at h1;simp at h1;omega
 | o :: l,k,listed,hl,hs,hd,h => by
  have ho:ops[k]? = some o:=by have:=hl 0;simpa using this.symm
  have hk:k < ops.size:=(Array.getElem?_eq_some_iff.1 ho).1
  simp only [tailsOK,Y9] at h;obtain ⟨⟨h1,h2⟩,h3⟩:=h
  simp only [Yg,Region.lexFrom,Y9];refine ⟨⟨?_,?_⟩,lex_tails l (k + 1) _ (fun j => ?_) ?_ (fun j hj => ?_) h3⟩
  ·rw [List.contains_iff_mem];refine mem_ready.2 ⟨?_,o,ho,fun e he hb => ?_⟩
   ·rw [Y8,hd k hk];simp
   ·have:=Array.all_eq_true_iff_forall_mem.1 h1 e he
    simp only [hb,YH,Y0L,decide_eq_true_eq] at this;rw [Y8,hd e.on (by omega)]
    simpa using this
  ·unfold Region.free;simp only [ho,YY,List.mem_range];intro j hj
   rcases Y0g j k with hlt | rfl | hgt
   ·rw [Y8,hd j hj];simp [hlt]
   ·simp
   ·have hj2:=hl (j - k)
    rw [show k + (j - k) = j by omega] at hj2
    obtain ⟨m,hm⟩ : ∃ m,j - k = m + 1:=⟨j - k - 1,by omega⟩
    rw [hm,Y0W] at hj2;rw [← hj2];cases hx:l[m]? with
    | none => simp
    | some oj =>
     have:=List.all_eq_true.1 h2 oj (Y7 hx)
     simp only [this,Y0Z]
  ·have:=hl (j + 1)
   rw [Y0W] at this;rw [this]
   congr 1
   omega
  ·simpa using hs
  ·rw [Array.getElem?_setIfInBounds]
   by_cases hjk:k = j
   ·subst hjk;rw [if_pos rfl,if_pos (by omega)]
    simp
   ·rw [if_neg hjk,hd j hj];simp only [Y5,decide_eq_decide];omega
theorem drawOK_q {ops:Array Oper} (h:(Region.noSelect ops && tailsOK ops 0 ops.toList && ops.all (fun o => Z05 o.op != .bad) && ((List.range ops.size).all fun i => match ops[i]? with | some o => (if isW o.op then !Z4T (Region.before ops) ops i else true) && o.after.all fun e => !Region.binds .any e || decide (e.on < i) | none => true)) = true):Z3c ops = true:=by
 simp only [Y9] at h
 obtain ⟨⟨⟨h1,h2⟩,h3⟩,h4⟩:=h
 have a:Region.lexB .any ops = true:=by
  unfold Region.lexB;rw [h1,Y0t];have:=lex_tails (ops:=ops) ops.toList 0 (Array.replicate ops.size false) (fun j => by simp) (by simp) (fun j hj => by simp [hj]) h2
  simpa using this
 unfold Z3c
 rw [a,h3]
 exact h4
section
variable {X:Ctx} {n:Nat} {dr:Bool} {ops:Array Oper} {base i:Nat} {l:List Oper} {e:Env} {σ:Heap} {K:Env→Heap→Prop}
variable {d:Nat} {t t1:TypeId} {p:String} {af:Array Edge} {x y:Operand} {lo hi:Nat} {L:List Res}
end
end Go.Dn

namespace Go.Dn
open Go
theorem p2 {A B:Type} {a a':A} {b b':B} (h:(a,b) = (a',b')):a = a'∧b = b':=by cases h;exact ⟨rfl,rfl⟩
theorem p3 {A B C:Type} {a a':A} {b b':B} {c c':C} (h:(a,b,c) = (a',b',c')):a = a'∧b = b'∧c = c':=by cases h;exact ⟨rfl,rfl,rfl⟩
theorem p4 {A B C D:Type} {a a':A} {b b':B} {c c':C} {d d':D} (h:(a,b,c,d) = (a',b',c',d')):a = a'∧b = b'∧c = c'∧d = d':=by cases h;exact ⟨rfl,rfl,rfl,rfl⟩
theorem p5 {A B C D E:Type} {a a':A} {b b':B} {c c':C} {d d':D} {e e':E} (h:(a,b,c,d,e) = (a',b',c',d',e')):a = a'∧b = b'∧c = c'∧d = d'∧e = e':=by cases h;exact ⟨rfl,rfl,rfl,rfl,rfl⟩
def gOK (ops:Array Oper) (e:Env):Option (Nat × Bool)→Bool
 | none => true
 | some (j,w) => match (ops[j]?).bind (·.dst) with
  | some d => match e d with
   | .v (.bool b) => b == w
   | _ => false
  | none => false
def skipN (ops:Array Oper) (n:Nat):Nat→List Oper→Env→Option (List Oper × Env)
 | 0,l,e => some (l,e)
 | k + 1,[],e => none
 | k + 1,o :: l,e => match o.guard with
  | some (j,w) => match (ops[j]?).bind (·.dst) with
   | some g => match e g with
    | .v (.bool b) => bif b == w then none else match o.dst with
     | some d => bif Nat.blt d n then skipN ops n k l (set e d .undef) else none
     | none => skipN ops n k l e
    | .undef => match o.dst with
     | some d => bif Nat.blt d n then skipN ops n k l (set e d .undef) else none
     | none => skipN ops n k l e
    | _ => none
   | none => none
  | none => none
theorem EI {e:Env}:∀ {L:List (Nat × PV)},(L.map fun p => e p.1) = L.map (·.2)→Z6 e L
 | [],_ => trivial
 | (k,v) :: L,h => by
  have h1:=List.cons.inj h
  exact ⟨h1.1,EI h1.2⟩
section
variable {X:Ctx} {n:Nat} {dr:Bool} {fn:FuncId} {ops:Array Oper} {base i:Nat} {l:List Oper} {e:Env} {σ:Heap} {K:Env→Heap→Prop} {Q:Ex→Env→Heap→Prop} {c a b:Code}
variable {d:Nat} {t t1 t2:TypeId} {p:String} {af:Array Edge} {x y:Operand} {v:PV} {lo hi:Nat} {L:List Res} {g:Option (Nat × Bool)} {dst:Option Tmp} {op:Op}
theorem Ops.gd (hg:gOK ops e g = true) (hk:Ops X n dr ops base i (⟨dst,op,t,p,af,none⟩ :: l) e σ K):Ops X n dr ops base i (⟨dst,op,t,p,af,g⟩ :: l) e σ K:=by
 cases g with
 | none => exact hk
 | some q =>
  obtain ⟨j,w⟩:=q
  simp only [gOK] at hg
  split at hg
  ·rename_i d hd
   split at hg
   ·rename_i b hb;have:b = w:=by simpa using hg
    subst this;exact .wanted hd hb hk
   ·cases hg
  ·cases hg
theorem Ops.ps {l':List Oper} {e':Env}:∀ (k:Nat) {i:Nat} {l:List Oper} {e:Env},skipN ops n k l e = some (l',e')→Ops X n dr ops base (i + k) l' e' σ K→Ops X n dr ops base i l e σ K
 | 0,i,l,e,h,hk => by cases h;exact hk
 | k + 1,i,[],e,h,hk => by cases h
 | k + 1,i,⟨dst,op,t,p,af,none⟩ :: l,e,h,hk => by cases h
 | k + 1,i,⟨dst,op,t,p,af,some (j,w)⟩ :: l,e,h,hk => by
  rw [show i + (k + 1) = i + 1 + k by omega] at hk
  simp only [skipN] at h
  split at h
  ·rename_i g hg
   split at h
   ·rename_i b hb;cases hw:b == w with
    | true => rw [hw] at h;cases h
    | false =>
     rw [hw] at h;have hb':e g = .v (.bool (!w)):=by rw [hb];cases b <;> cases w <;> first | rfl | cases hw
     simp only [cond_false] at h;cases dst with
     | some d =>
      cases hd:Nat.blt d n with
      | false => simp [hd] at h
      | true => simp only [hd,cond_true] at h;exact .pass hg hb' hd (Ops.ps k h hk)
     | none => exact .pass0 hg hb' (Ops.ps k h hk)
   ·rename_i hb;cases dst with
    | some d =>
     cases hd:Nat.blt d n with
     | false => simp [hd] at h
     | true => simp only [hd,cond_true] at h;exact .passU hg hb hd (Ops.ps k h hk)
    | none => exact .pass0U hg hb (Ops.ps k h hk)
   ·cases h
  ·cases h
theorem Ops.m1 (v:PV) (h1:Z0 X e x = some v) (h:(Nat.blt d n,gOK ops e g) = (true,true)) (hk:Ops X n dr ops base (i + 1) l (set e d v) σ K):Ops X n dr ops base i (⟨some d,.move x,t,p,af,g⟩ :: l) e σ K :=
 .gd (p2 h).2 (.move h1 (p2 h).1 hk)
theorem Ops.a1 (v:PV) (h1:Z0 X e x = some v) (h:(Nat.blt d n,gOK ops e g) = (true,true)) (hk:Ops X n dr ops base (i + 1) l (set e d v) σ K):Ops X n dr ops base i (⟨some d,.assign x,t,p,af,g⟩ :: l) e σ K :=
 .gd (p2 h).2 (.assign h1 (p2 h).1 hk)
theorem Ops.mV {u:FV} (h:(Z0 X e x,Nat.blt d n,gOK ops e g) = (some (.v u),true,true)) (hk:Ops X n dr ops base (i + 1) l (set e d (.v u)) σ K):Ops X n dr ops base i (⟨some d,.move x,t,p,af,g⟩ :: l) e σ K:=.gd (p3 h).2.2 (.move (p3 h).1 (p3 h).2.1 hk)
theorem Ops.mP {u q r:Nat} (h:(Z0 X e x,Nat.blt d n,gOK ops e g) = (some (.ptr u q r),true,true)) (hk:Ops X n dr ops base (i + 1) l (set e d (.ptr u q r)) σ K):Ops X n dr ops base i (⟨some d,.move x,t,p,af,g⟩ :: l) e σ K:=.gd (p3 h).2.2 (.move (p3 h).1 (p3 h).2.1 hk)
theorem Ops.mB {u q r:Nat} (h:(Z0 X e x,Nat.blt d n,gOK ops e g) = (some (.buf u q r),true,true)) (hk:Ops X n dr ops base (i + 1) l (set e d (.buf u q r)) σ K):Ops X n dr ops base i (⟨some d,.move x,t,p,af,g⟩ :: l) e σ K:=.gd (p3 h).2.2 (.move (p3 h).1 (p3 h).2.1 hk)
theorem Ops.aV {u:FV} (h:(Z0 X e x,Nat.blt d n,gOK ops e g) = (some (.v u),true,true)) (hk:Ops X n dr ops base (i + 1) l (set e d (.v u)) σ K):Ops X n dr ops base i (⟨some d,.assign x,t,p,af,g⟩ :: l) e σ K:=.gd (p3 h).2.2 (.assign (p3 h).1 (p3 h).2.1 hk)
theorem Ops.aB {u q r:Nat} (h:(Z0 X e x,Nat.blt d n,gOK ops e g) = (some (.buf u q r),true,true)) (hk:Ops X n dr ops base (i + 1) l (set e d (.buf u q r)) σ K):Ops X n dr ops base i (⟨some d,.assign x,t,p,af,g⟩ :: l) e σ K:=.gd (p3 h).2.2 (.assign (p3 h).1 (p3 h).2.1 hk)
theorem Ops.tV {b:Bool} (h:(Z0 X e x,Nat.blt d n,gOK ops e g) = (some (.v (.bool b)),true,true)) (hk:Ops X n dr ops base (i + 1) l (set e d (.v (.bool (!b)))) σ K):Ops X n dr ops base i (⟨some d,.unOp .not t1 x,t,p,af,g⟩ :: l) e σ K:=.gd (p3 h).2.2 (.not (p3 h).1 (p3 h).2.1 hk)
theorem Ops.iV {op:BinOp} {k:IntKind} {m m':Int} {r:FV} (h:(Z0 X e x,Z0 X e y,Z7s op k m m',Nat.blt d n,(op != .shl && op != .shr) && gOK ops e g) = (some (.v (.int k m)),some (.v (.int k m')),some r,true,true)) (hk:Ops X n dr ops base (i + 1) l (set e d (.v r)) σ K) :
  Ops X n dr ops base i (⟨some d,.binOp op t1 x y t2,t,p,af,g⟩ :: l) e σ K:=by
 obtain ⟨h1,h2,h3,h4,h5⟩:=p5 h
 rw [Y9] at h5
 exact .gd h5.2 (.int h1 h2 h5.1 h3 h4 hk)
theorem Ops.xV {vs:List PV} {j:Nat} (h:(Z0 X e x,vs[j]?,Nat.blt d n,gOK ops e g) = (some (.tup vs),some v,true,true)) (hk:Ops X n dr ops base (i + 1) l (set e d v) σ K):Ops X n dr ops base i (⟨some d,.extract x j,t,p,af,g⟩ :: l) e σ K:=by
 obtain ⟨h1,h2,h3,h4⟩:=p4 h
 exact .gd h4 (.extract h1 h2 h3 hk)
theorem Ops.kT {c:Operand} {u:FV} (h:(Z0 X e c,Z0 X e x,Nat.blt d n,gOK ops e g) = (some (.v (.bool true)),some (.v u),true,true)) (hk:Ops X n dr ops base (i + 1) l (set e d (.v u)) σ K):Ops X n dr ops base i (⟨some d,.pick c x y,t,p,af,g⟩ :: l) e σ K:=by
 obtain ⟨h1,h2,h3,h4⟩:=p4 h
 exact .gd h4 (.pickT h1 h2 h3 hk)
theorem Ops.kF {c:Operand} {u:FV} (h:(Z0 X e c,Z0 X e y,Nat.blt d n,gOK ops e g) = (some (.v (.bool false)),some (.v u),true,true)) (hk:Ops X n dr ops base (i + 1) l (set e d (.v u)) σ K):Ops X n dr ops base i (⟨some d,.pick c x y,t,p,af,g⟩ :: l) e σ K:=by
 obtain ⟨h1,h2,h3,h4⟩:=p4 h
 exact .gd h4 (.pickF h1 h2 h3 hk)
theorem Ops.bV {parts:Array (Nat × Operand)} (cs:List PV) (h:(ZAY X e t1 parts.toList,Nat.blt d n,gOK ops e g) = (some (.agg cs),true,true)) (hk:Ops X n dr ops base (i + 1) l (set e d (.agg cs)) σ K):Ops X n dr ops base i (⟨some d,.build t1 parts,t,p,af,g⟩ :: l) e σ K :=
 .gd (p3 h).2.2 (.buildA (p3 h).1 (p3 h).2.1 hk)
theorem Ops.cV {f:FuncId} {args:Array Operand} {ts:Array TypeId} {ys:List PV} {r:PV} (hf:Fn X f ys r) (h:(ZY X e args.toList,Nat.blt d n,gOK ops e g) = (some ys,true,true)) (hk:Ops X n dr ops base (i + 1) l (set e d r) σ K) :
  Ops X n dr ops base i (⟨some d,.call { callee:=.value (.func f),args:=args,argTypes:=ts },t,p,af,g⟩ :: l) e σ K:=.gd (p3 h).2.2 (.call (p3 h).1 hf (p3 h).2.1 hk)
theorem Ops.nV {α:Type} {c:α→List FV} {xs:List α} {el:TypeId} (h:(Z0 X e x,tslice X.P t1,Nat.blt d n,gOK ops e g) = (some (.v (.sl (xs.map c))),some el,true,true))
  (hk':Ops X n dr ops base (i + 1) l (set e d (.v (.int .i64 xs.length))) σ K):Ops X n dr ops base i (⟨some d,.call { callee:=.builtin .len,args:=#[x],argTypes:=#[t1] },t,p,af,g⟩ :: l) e σ K:=by
 obtain ⟨h1,h2,h3,h4⟩:=p4 h
 exact .gd h4 (.lenPt h1 h2 h3 hk')
theorem Ops.jV {α:Type} {c:α→List FV} {xs:List α} {iv:Int} {ik:IntKind} {u:α} {m:Nat} (hu:at? xs iv = some u) (h:(Z0 X e x,Z0 X e y,(tslice X.P t1).bind (tsize X.P),(c u).length,(tslice X.P t1).isSome && Nat.blt d n && gOK ops e g) = (some (.v (.sl (xs.map c))),some (.v (.int ik iv)),some m,m,true))
  (hk':Ops X n dr ops base (i + 1) l (set e d (.fptr (c u))) σ K):Ops X n dr ops base i (⟨some d,.indexAddr t1 x y,t,p,af,g⟩ :: l) e σ K:=by
 obtain ⟨h1,h2,h3,h4,h5⟩:=p5 h
 simp only [Y9,Option.isSome_iff_exists] at h5
 obtain ⟨⟨⟨el,he⟩,h6⟩,h7⟩:=h5
 rw [he,Y0] at h3
 exact .gd h7 (.indexP h1 h2 hu he h3 h4 h6 hk')
theorem Ops.pV {u:FV} {cells:List FV} (h:(Z0 X e x,tagg X.P t1,cells[0]?,Nat.blt d n,gOK ops e g) = (some (.fptr cells),some false,some u,true,true))
  (hk':Ops X n dr ops base (i + 1) l (set e d (.v u)) σ K):Ops X n dr ops base i (⟨some d,.load t1 x,t,p,af,g⟩ :: l) e σ K:=by
 obtain ⟨h1,h2,h3,h4,h5⟩:=p5 h
 exact .gd h5 (.loadP h1 h2 h3 h4 hk')
theorem Ops.qV {m:Nat} {cells:List FV} (cs:List FV) (h:(Z0 X e x,tsize X.P t1,cells.take m,(tagg X.P t1 == some true) && Nat.ble m cells.length && Nat.blt d n,gOK ops e g) = (some (.fptr cells),some m,cs,true,true))
  (hk':Ops X n dr ops base (i + 1) l (set e d (.agg (vs cs))) σ K):Ops X n dr ops base i (⟨some d,.load t1 x,t,p,af,g⟩ :: l) e σ K:=by
 obtain ⟨h1,h2,h3,h4,h5⟩:=p5 h
 simp only [Y9,beq_iff_eq] at h4
 exact .gd h5 (.loadPA h1 h4.1.1 h2 h4.1.2 h3 h4.2 hk')
theorem Ops.fV {id ver off f fo:Nat} {ft:TypeId} {m:Nat} {te:TypeId} {cells:List PV} (H:Has σ lo hi L) (k:Nat) (h:(Z0 X e x,L[k]?,tfield X.P t1 f,tsize X.P ft,Nat.beq cells.length ver && Nat.blt d n && gOK ops e g) = (some (.ptr id ver off),some (.blk id te cells),some (fo,ft),some (m + 1),true))
  (hk':Ops X n false ops base (i + 1) l (set e d (.ptr id ver (off + fo))) σ K):Ops X n false ops base i (⟨some d,.fieldAddr t1 x f,t,p,af,g⟩ :: l) e σ K:=by
 obtain ⟨h1,h2,h3,h4,h5⟩:=p5 h
 simp only [Y9] at h5
 exact .gd h5.2 (.ZA H k h2 (Y0F h5.1.1) h1 h3 h4 nofun h5.1.2 hk')
theorem Ops.lV {id ver off:Nat} {te:TypeId} {cells:List PV} (H:Has σ lo hi L) (k:Nat) (h:(Z0 X e x,L[k]?,tagg X.P t1,cells[off]?,Nat.beq cells.length ver && Nat.blt d n && gOK ops e g) = (some (.ptr id ver off),some (.blk id te cells),some false,some v,true))
  (hk':Ops X n false ops base (i + 1) l (set e d v) σ K):Ops X n false ops base i (⟨some d,.load t1 x,t,p,af,g⟩ :: l) e σ K:=by
 obtain ⟨h1,h2,h3,h4,h5⟩:=p5 h
 simp only [Y9] at h5
 exact .gd h5.2 (.loadH H k h2 (Y0F h5.1.1) h1 h3 h4 nofun h5.1.2 hk')
theorem Ops.LV {id ver off m:Nat} {te:TypeId} {cells:List PV} (cs:List PV) (H:Has σ lo hi L) (k:Nat) (h:(Z0 X e x,L[k]?,tsize X.P t1,(cells.drop off).take m,(tagg X.P t1 == some true) && Nat.ble (off + m) cells.length && Nat.beq cells.length ver && Nat.blt d n && gOK ops e g) = (some (.ptr id ver off),some (.blk id te cells),some m,cs,true))
  (hk':Ops X n false ops base (i + 1) l (set e d (.agg cs)) σ K):Ops X n false ops base i (⟨some d,.load t1 x,t,p,af,g⟩ :: l) e σ K:=by
 obtain ⟨h1,h2,h3,h4,h5⟩:=p5 h
 simp only [Y9,beq_iff_eq] at h5
 exact .gd h5.2 (.Z1f H k h2 (Y0F h5.1.1.2) h1 h5.1.1.1.1 h3 h5.1.1.1.2 h4 nofun h5.1.2 hk')
theorem Ops.sV {id ver off:Nat} {te:TypeId} {cells ys:List PV} (cells':List PV) (H:Has σ lo hi L) (k:Nat) (h:(Z0 X e x,L[k]?,(Z0 X e y).bind PV.cells,splice cells off ys,(tsize X.P t1 == some ys.length) && Nat.ble (off + ys.length) cells.length && Nat.beq cells.length ver && gOK ops e g) = (some (.ptr id ver off),some (.blk id te cells),some ys,cells',true))
  (hk':∀ σ',Has σ' lo hi (L.set k (.blk id te cells'))→Ops X n false ops base (i + 1) l e σ' K):Ops X n false ops base i (⟨none,.store t1 x y,t,p,af,g⟩ :: l) e σ K:=by
 obtain ⟨h1,h2,h3,h4,h5⟩:=p5 h
 simp only [Y9,beq_iff_eq] at h5
 rw [Y4] at h3
 obtain ⟨v,h6,h7⟩:=h3
 exact .gd h5.2 (.Z4N H k h2 (Y0F h5.1.2) h1 h6 h7 h5.1.1.1 rfl h5.1.1.2 h4 nofun hk')
theorem Ops.md {L0:List Res} (H:Has σ lo hi L0) (k:Nat) (E:List (Nat × PV)) (L:List Res) (hk:Nat.ble k l.length = true) (h1:Ops X n dr ops base i (l.take k) e σ fun e σ => Z6 e E∧Has σ (base + (i + k)) hi L) (h2:∀ e σ,Has σ (base + (i + k)) hi L→Ops X n dr ops base (i + k) (l.drop k) (sets e E) σ K):Ops X n dr ops base i l e σ K :=
 .mid k hk h1 fun e σ ⟨he,H⟩ => by rw [he.eq];exact h2 e σ H
theorem Runs.wh {α:Type} {c:Bool} {A B z:α} {t:Operand} (h:(bif c then A else B) = z) (ht:Z0 X e t = some (.v (.bool c))) (h1:A = z→Runs X n fn a e σ Q) (h2:B = z→Runs X n fn b e σ Q):Runs X n fn (.cond t a b) e σ Q :=
 .whether ht (fun hc => h1 (cond_T hc h)) fun hc => h2 (cond_F hc h)
theorem Ops.sp {α:Type} {j gt:Nat} {w v:Bool} {A B z:α} (hb:(bif v then A else B) = z) (h:((ops[j]?).bind (·.dst),e gt) = (some gt,.v (.bool v))) (ht:A = z→Ops X n dr ops base i (⟨dst,op,t,p,af,some (j,w)⟩ :: l) (set e gt (.v (.bool true))) σ K)
  (hf:B = z→Ops X n dr ops base i (⟨dst,op,t,p,af,some (j,w)⟩ :: l) (set e gt (.v (.bool false))) σ K):Ops X n dr ops base i (⟨dst,op,t,p,af,some (j,w)⟩ :: l) e σ K :=
 .split (p2 h).1 (p2 h).2 (fun hc => ht (cond_T hc hb)) fun hc => hf (cond_F hc hb)
theorem Runs.lp {S R β:Type} {step:S→Option (S ⊕ R)} {s:S} {G:R→Option β} {z:β} (h:(Dn.loopO step s).bind G = some z) (E:S→List (Nat × PV)) (L:S→List Res) (ex:Ex) (E':R→List (Nat × PV)) (L':R→List Res) (h0:Z6 e (E s)) (H:Hs σ (L s))
  (hs:∀ s e σ,Hs σ (L s)→∀ z,step s = some z→Runs X n fn c (sets e (E s)) σ (LoopEnd (fun s e σ => Z6 e (E s)∧Hs σ (L s)) (fun y x e σ => x = ex∧Z6 e (E' y)∧Hs σ (L' y)) z))
  (hq:∀ y e σ,Hs σ (L' y)→G y = some z→Q ex (sets e (E' y)) σ):Runs X n fn (.loop c) e σ Q:=by
 obtain ⟨y,h1,h2⟩:=bind_some h
 obtain ⟨k,h1⟩:=ZM.1 h1
 refine (Runs.loopO h1 (fun s e σ => Z6 e (E s)∧Hs σ (L s)) (fun y x e σ => x = ex∧Z6 e (E' y)∧Hs σ (L' y)) ⟨h0,H⟩ ?_).mono ?_
 ·rintro s e σ ⟨he,H⟩ z hz;rw [he.eq];exact hs s e σ H z hz
 ·rintro x e σ ⟨rfl,he,H⟩;rw [he.eq];exact hq y e σ H h2
theorem Runs.jn {A B:Type} {o:Option A} {G:A→Option B} {z:B} (h:o.bind G = some z) (ex:Ex) (E:A→List (Nat × PV)) (L:A→List Res)
  (h1:∀ y,o = some y→Runs X n fn c e σ fun x e σ => x = ex∧Z6 e (E y)∧Hs σ (L y)) (h2:∀ y e σ,Hs σ (L y)→G y = some z→Q ex (sets e (E y)) σ):Runs X n fn c e σ Q:=by
 obtain ⟨y,h3,h4⟩:=bind_some h
 refine (h1 y h3).mono ?_
 rintro x e σ ⟨rfl,he,H⟩
 rw [he.eq]
 exact h2 y e σ H h4
theorem Runs.tR {id:Nat} {os:List Oper} (m:Nat) (hm:os.length = m) (H:Hs σ L) (h:∀ base σ',Has σ' base (base + m) L→Ops X n false os.toArray base 0 os e σ' fun e σ => Runs X n fn b e σ Q):Runs X n fn (.seq (.region id os.toArray false) b) e σ Q :=
 .then (.Z4 m hm H h)
theorem bs {α β:Type} {x:Option α} {f:α→Option β} {b:β} (h:x.bind f = some b):∃ a,x = some a∧f a = some b:=Option.bind_eq_some_iff.1 h
theorem Ends.eR {rs:List ResultVar} {xs:List PV} {r:PV} (h:(Z0N X.P e σ rs,Z5P (Z1v xs),Z1v xs) = (some xs,true,r)):Ends X rs r .ret e σ:=.ret (p3 h).1 (p3 h).2.1 (p3 h).2.2
theorem Fn.go {f:FuncId} {args:List PV} {r:PV} {fu:Func} {c:Code} (hf:X.P.funcs[f]? = some fu) (h:(fu.body,X.intr f args,X.keep f,X.opn f,args.all PV.pure) = (some c,none,false,false,true))
  (hr:∀ σ,Hs σ []→Runs X (max fu.ntmps args.length) f c (Z6T args) σ (Ends X fu.results.toList r)):Fn X f args r:=by
 obtain ⟨h1,h2,h3,h4,h5⟩:=p5 h
 exact .ends hf h1 h2 h3 h4 h5 rfl (hr _ (Has.nil (YC _)))
end
end Go.Dn

namespace Go.Dn
open Go Go.Proofs
def cloneV (sz by_:Nat):List PV→Option PV
 | [.v (.sl xs)] => if (xs.all fun y => y.length == sz) = true∧xs.length * by_≤room then some (.v (.sl xs)) else none
 | _ => none
def gcdV:List PV→Option PV
 | [.v (.int .u64 a),.v (.int .u64 b)] => if (0≤a∧a≤18446744073709551615)∧0≤b∧b≤18446744073709551615 then some (.v (.int .u64 (Int.gcd a b))) else none
 | _ => none
noncomputable def CA:Ctx:={ P:=Tryz.prog,glob:=fun _ => none,intr:=fun f args => if f = 98 then gcdV args else if f = 66 then cloneV 2 16 args else none,opn:=fun f => f == 9 || f == 59 || f == 88,keep:=fun f => false,lit:=true }
noncomputable def C0:Ctx:={ P:=Tryz.prog,glob:=fun _ => none,intr:=fun _ _ => none,opn:=fun _ => false,keep:=fun _ => false }
theorem prog_ok:ProgOK Tryz.prog:=by
 refine ⟨fun f fn h => ?_,by kernel_rfl⟩
 have hall : Tryz.prog.funcs.all (fun fn => !(fn.name == "runtime.NumGoroutine")) = true := by kernel_rfl
 have:=Array.all_eq_true_iff_forall_mem.1 hall fn (Array.mem_of_getElem? h)
 simpa using this
theorem c0_ok:CtxOK C0:=⟨prog_ok,fun f args r h => by cases h⟩
theorem prog_call (f:FuncId) (fu:Func) (vs:Array Value) (w:World) (hf:Tryz.prog.funcs[f]? = some fu) (hb:fu.body.isSome = true):(callFunc f vs).run Tryz.prog w = .ok (.enter f vs) w:=by
 have hp:(program).run Tryz.prog w = .ok Tryz.prog w:=rfl
 simp only [callFunc,Sem.run_bind,hp,Result.andThen_ok,hf,prog_ok.names f fu hf]
 cases hc:fu.body with
 | none => rw [hc] at hb;cases hb
 | some c => simp
def InUg (a:Int):Prop:=0≤a∧a≤18446744073709551615
abbrev u64v (a:Int):PV:=.v (.int .u64 a)
def uOf:Value→Nat | .int _ q => q.toNat | _ => 0
def gcdJ (s0:St) (a0:Act) (g:Nat) (a:Act) (w:World):Prop:=∃ (e:Env) (σ:Heap) (ι:Nat→Nat) (x y:Int),Aft s0 12 a0 (set (set e 0 (u64v x)) 1 (u64v y)) σ a w ι∧InUg x∧InUg y∧Int.gcd x y = g
theorem gcd_step {x y:Int} (hx:0≤x) (hy:0≤y):Int.gcd y (x.tmod y) = Int.gcd x y:=by
 obtain ⟨m,rfl⟩:=Int.eq_ofNat_of_zero_le hx
 obtain ⟨k,rfl⟩:=Int.eq_ofNat_of_zero_le hy
 have:((m:Int).tmod (k:Int)) = ((m % k:Nat):Int):=rfl
 rw [this]
 show Nat.gcd k (m % k) = Nat.gcd m k
 rw [Nat.gcd_comm m k,Nat.gcd_rec k m,Nat.gcd_comm]
theorem gcd_loop {s0:St} {a0:Act} {g:Nat} {A B:Code} {Q:Exit→Act→World→Prop}
  (hA:∀ (e:Env) (x y:Int) (m:Nat) (ent:Nat→Ent),Runs C0 12 98 A (set (set e 0 (u64v x)) 1 (u64v y)) ⟨m,ent⟩ fun ex e' σ' => (y = 0∧ex = .ret∧e' 4 = u64v x)∨(y ≠ 0∧ex = .normal∧e' 0 = u64v x∧e' 1 = u64v y))
  (hB:∀ (e:Env) (x y:Int) (m:Nat) (ent:Nat→Ent),y ≠ 0→Runs C0 12 98 B (set (set e 0 (u64v x)) 1 (u64v y)) ⟨m,ent⟩ fun ex e' σ' => ex = .normal∧e' 0 = u64v y∧e' 1 = u64v (x.tmod y))
  (hQ:∀ e σ a w ι,Aft s0 12 a0 e σ a w ι→e 4 = u64v g→Q .ret a w) :
  ∀ a w,gcdJ s0 a0 g a w→(Code.seq A (.seq B (.goto 0))).wp Tryz.prog (Exit.jump 0 (fun a' w' => gcdJ s0 a0 g a' w'∧uOf (a'.tmps.getD 1 Go.undef) < uOf (a.tmps.getD 1 Go.undef)) Q) a w:=by
 rintro a w ⟨e,σ,ι,x,y,h0,hx,hy,hg⟩
 refine wp_seq ?_
 have hG:Z0n C0 ⟨w,s0.Y,σ,ι⟩:=fun g cells hg => by cases hg
 have h1:=Z8D c0_ok (fn:=98) hG h0.inv h0.env (c:=A) (hA e x y σ.nx σ.ent)
 refine wp_mono h1 fun ex a1 w1 hh => ?_
 obtain ⟨x1,e1,σ1,ι1,hq,rfl,ht⟩:=hh
 have ht1:=h0.trans ht
 rcases hq with ⟨rfl,rfl,h4⟩ | ⟨hy0,rfl,k0,k1⟩
 ·refine hQ e1 σ1 a1 w1 ι1 ht1 ?_
  rw [h4,← hg]
  have:((Int.gcd x 0:Nat):Int) = x:=by rw [Int.gcd_zero_right];have:=hx.1;omega
  rw [this]
 ·simp only [Ex.out,Exit.then]
  refine wp_seq ?_
  have he1:EnvR ⟨w1,s0.Y,σ1,ι1⟩ 12 (set (set e1 0 (u64v x)) 1 (u64v y)) a1:=by
   rw [← Z6k k0,← Z6k k1]
   exact ht.env
  have hG1:Z0n C0 ⟨w1,s0.Y,σ1,ι1⟩:=fun g cells hg => by cases hg
  have h2:=Z8D c0_ok (fn:=98) hG1 ht.inv he1 (c:=B) (hB e1 x y σ1.nx σ1.ent hy0)
  refine wp_mono h2 fun ex a2 w2 hh => ?_
  obtain ⟨x2,e2,σ2,ι2,⟨rfl,j0,j1⟩,rfl,ht2⟩:=hh
  have ht3:=ht1.trans ht2
  have hm1:0≤x.tmod y:=Int.tmod_nonneg y hx.1
  have hm2:x.tmod y < y:=Int.tmod_lt_of_pos x (by have:=hy.1;omega)
  simp only [Ex.out,Exit.then]
  refine wp_goto ⟨rfl,⟨e2,σ2,ι2,y,x.tmod y,?_,hy,⟨hm1,by have:=hy.2;omega⟩,?_⟩,?_⟩
  ·rw [← Z6k j0,← Z6k j1]
   exact ht3
  ·rw [← hg]
   exact gcd_step hx.1 hy.1
  ·have u1:=ht2.env.2 1
   rw [j1] at u1
   have u2:=h0.env.2 1
   rw [int_val u1,int_val u2]
   simp only [uOf]
   omega
set_option maxRecDepth 100000 in
theorem gcd_calls {s:St} (hi:Inv s) {a b:Int} (ha:InUg a) (hb:InUg b):Calls Tryz.prog 98 #[.int .u64 a,.int .u64 b] s.w fun en w' => ∃ v,en = .returned v∧∃ σ',Post s.under (u64v (Int.gcd a b)) σ' v w':=by
 have hv:PVRs s.under [u64v a,u64v b] #[.int .u64 a,.int .u64 b]:=by
  refine ⟨rfl,fun i x hx => ?_⟩
  match i with
  | 0 => simp at hx;subst hx;exact .v (.int _ _)
  | 1 => simp at hx;subst hx;exact .v (.int _ _)
  | i + 2 => simp at hx
 have he:=env_of (s:=s.under) (k:=12) hv
 have hiu:=ZAe hi
 have hG:Z0n C0 s.under:=fun g cells hg => by cases hg
 refine (callsIn_wide (n:=0)).1 (callsIn_of_wp_marks Tryz.func98 rfl trivial ?_ rfl)
 refine wpIn_wide.2 ?_
 have hQ:∀ e σ a' w ι,Aft s.under 12 { tmps:=#[Value.int .u64 a,Value.int .u64 b] ++ Array.replicate (12 - 2) undef,defers:=[] } e σ a' w ι→e 4 = u64v (Int.gcd a b) →
   bodyPostM Fence.wide 0 Tryz.prog Tryz.f98 (fun en w' => ∃ v,en = .returned v∧∃ σ',Post s.under (u64v (Int.gcd a b)) σ' v w') .ret a' w:=by
  intro e σ a' w ι ht h4
  exact leaves_ok (X:=C0) (fu:=Tryz.f98) (xs:=[e 4]) rfl ht rfl fun v w' hp => ⟨v,rfl,σ,by rw [← h4];exact hp⟩
 refine wp_seq ?_
 refine wp_mono (Z8D (X:=C0) (s:=s.under) c0_ok (fn:=98) hG hiu he (Q:=fun ex e' σ' => ex = .normal∧e' 0 = u64v a∧e' 1 = u64v b) ?_) ?_
 ·show Runs C0 12 98 _ _ ⟨0,fun _ => .none⟩ _
  repeat' first
   | (apply Ops.moveV;exact rfl;exact rfl)
   | (apply Ops.int;exact rfl;exact rfl;exact rfl;exact rfl;exact rfl)
   | (apply Ops.Z9x;exact rfl;exact rfl)
   | apply Runs.then
   | (apply Runs.region;exact rfl)
   | apply Ops.nil
   | (apply Ops.extract;exact rfl;exact rfl;exact rfl)
   | (apply Ops.moveT;exact rfl;exact rfl)
   | (apply Ops.moveA;exact rfl;exact rfl)
   | (apply Ops.ZAE;exact rfl;exact rfl)
   | (apply Ops.not;exact rfl;exact rfl)
   | (apply Ops.neg;exact rfl;exact rfl)
   | (apply Ops.conv;exact rfl;exact rfl;exact rfl;exact rfl)
   | (apply Ops.shr;exact rfl;exact rfl;decide;exact rfl)
   | (apply Ops.shl;exact rfl;exact rfl;decide;exact rfl)
   | (apply Ops.neB;exact rfl;exact rfl;exact rfl;exact rfl)
   | (apply Ops.eqB;exact rfl;exact rfl;exact rfl;exact rfl)
   | (apply Ops.pickTV;exact rfl;exact rfl;exact rfl)
   | (apply Ops.pickFV;exact rfl;exact rfl;exact rfl)
   | (apply Ops.want;exact rfl;exact rfl)
   | (apply Ops.pass;exact rfl;exact rfl;exact rfl)
   | (apply Ops.passU;exact rfl;exact rfl;exact rfl)
   | (apply Runs.drawn;kernel_rfl;exact rfl)
   | apply Runs.inBlock
   | (apply Ops.knownT;exact rfl;exact rfl;assumption)
   | (apply Ops.knownF;exact rfl;exact rfl;assumption)
   | (refine Ops.split rfl rfl ?_ ?_ <;> intro _)
   | (apply Runs.yes;exact rfl)
   | (apply Runs.no;exact rfl)
   | (apply Runs.yesB;exact rfl;assumption)
   | (apply Runs.noB;exact rfl;assumption)
   | (refine Runs.whether rfl ?_ ?_ <;> intro _)
   | apply Runs.skip
   | apply Runs.ret
   | apply Runs.exit
   | (apply Ends.ret;exact rfl;exact rfl)
   | (apply Ends.normal;exact rfl;exact rfl)
  all_goals exact ⟨rfl,rfl,rfl⟩
 rintro ex a1 w1 ⟨x1,e1,σ1,ι1,⟨rfl,k0,k1⟩,rfl,ht⟩
 have ht':Aft s.under 12 { tmps:=#[Value.int .u64 a,Value.int .u64 b] ++ Array.replicate (12 - 2) undef,defers:=[] } (set (set e1 0 (u64v a)) 1 (u64v b)) σ1 a1 w1 ι1:=by
  rw [← Z6k k0,← Z6k k1]
  exact ht
 simp only [Ex.out,Exit.then]
 refine wp_scope_jumps 0 (gcdJ s.under { tmps:=#[Value.int .u64 a,Value.int .u64 b] ++ Array.replicate (12 - 2) undef,defers:=[] } (Int.gcd a b)) (fun a' _ => uOf (a'.tmps.getD 1 Go.undef)) rfl ?_ ?_
 ·refine wp_seq (wp_label ?_)
  refine wp_mono (gcd_loop ?_ ?_ hQ a1 w1 ⟨e1,σ1,ι1,a,b,ht',ha,hb,rfl⟩) fun ex a2 w2 hh => ?_
  ·intro e x y m ent
   repeat' first
    | (apply Ops.moveV;exact rfl;exact rfl)
    | (apply Ops.int;exact rfl;exact rfl;exact rfl;exact rfl;exact rfl)
    | (apply Ops.Z9x;exact rfl;exact rfl)
    | apply Runs.then
    | (apply Runs.region;exact rfl)
    | apply Ops.nil
    | (apply Ops.extract;exact rfl;exact rfl;exact rfl)
    | (apply Ops.moveT;exact rfl;exact rfl)
    | (apply Ops.moveA;exact rfl;exact rfl)
    | (apply Ops.ZAE;exact rfl;exact rfl)
    | (apply Ops.not;exact rfl;exact rfl)
    | (apply Ops.neg;exact rfl;exact rfl)
    | (apply Ops.conv;exact rfl;exact rfl;exact rfl;exact rfl)
    | (apply Ops.shr;exact rfl;exact rfl;decide;exact rfl)
    | (apply Ops.shl;exact rfl;exact rfl;decide;exact rfl)
    | (apply Ops.neB;exact rfl;exact rfl;exact rfl;exact rfl)
    | (apply Ops.eqB;exact rfl;exact rfl;exact rfl;exact rfl)
    | (apply Ops.pickTV;exact rfl;exact rfl;exact rfl)
    | (apply Ops.pickFV;exact rfl;exact rfl;exact rfl)
    | (apply Ops.want;exact rfl;exact rfl)
    | (apply Ops.pass;exact rfl;exact rfl;exact rfl)
    | (apply Ops.passU;exact rfl;exact rfl;exact rfl)
    | (apply Runs.drawn;kernel_rfl;exact rfl)
    | apply Runs.inBlock
    | (apply Ops.knownT;exact rfl;exact rfl;assumption)
    | (apply Ops.knownF;exact rfl;exact rfl;assumption)
    | (refine Ops.split rfl rfl ?_ ?_ <;> intro _)
    | (apply Runs.yes;exact rfl)
    | (apply Runs.no;exact rfl)
    | (apply Runs.yesB;exact rfl;assumption)
    | (apply Runs.noB;exact rfl;assumption)
    | (refine Runs.whether rfl ?_ ?_ <;> intro _)
    | apply Runs.skip
    | apply Runs.ret
    | apply Runs.exit
    | (apply Ends.ret;exact rfl;exact rfl)
    | (apply Ends.normal;exact rfl;exact rfl)
   ·rename_i h
    exact .inl ⟨eq_of_beq h,rfl,rfl⟩
   ·rename_i h
    exact .inr ⟨ne_of_beq_false h,rfl,rfl,rfl⟩
  ·intro e x y m ent hy
   repeat' first
    | (apply Ops.moveV;exact rfl;exact rfl)
    | (apply Ops.int;exact rfl;exact rfl;exact rfl;exact rfl;exact rfl)
    | (apply Ops.Z9x;exact rfl;exact rfl)
    | apply Runs.then
    | (apply Runs.region;exact rfl)
    | apply Ops.nil
    | (apply Ops.extract;exact rfl;exact rfl;exact rfl)
    | (apply Ops.moveT;exact rfl;exact rfl)
    | (apply Ops.moveA;exact rfl;exact rfl)
    | (apply Ops.ZAE;exact rfl;exact rfl)
    | (apply Ops.not;exact rfl;exact rfl)
    | (apply Ops.neg;exact rfl;exact rfl)
    | (apply Ops.conv;exact rfl;exact rfl;exact rfl;exact rfl)
    | (apply Ops.shr;exact rfl;exact rfl;decide;exact rfl)
    | (apply Ops.shl;exact rfl;exact rfl;decide;exact rfl)
    | (apply Ops.neB;exact rfl;exact rfl;exact rfl;exact rfl)
    | (apply Ops.eqB;exact rfl;exact rfl;exact rfl;exact rfl)
    | (apply Ops.pickTV;exact rfl;exact rfl;exact rfl)
    | (apply Ops.pickFV;exact rfl;exact rfl;exact rfl)
    | (apply Ops.want;exact rfl;exact rfl)
    | (apply Ops.pass;exact rfl;exact rfl;exact rfl)
    | (apply Ops.passU;exact rfl;exact rfl;exact rfl)
    | (apply Runs.drawn;kernel_rfl;exact rfl)
    | apply Runs.inBlock
    | refine Ops.rem rfl rfl hy rfl ?_
    | (apply Ops.knownT;exact rfl;exact rfl;assumption)
    | (apply Ops.knownF;exact rfl;exact rfl;assumption)
    | (refine Ops.split rfl rfl ?_ ?_ <;> intro _)
    | (apply Runs.yes;exact rfl)
    | (apply Runs.no;exact rfl)
    | (apply Runs.yesB;exact rfl;assumption)
    | (apply Runs.noB;exact rfl;assumption)
    | (refine Runs.whether rfl ?_ ?_ <;> intro _)
    | apply Runs.skip
    | apply Runs.ret
    | apply Runs.exit
    | (apply Ends.ret;exact rfl;exact rfl)
    | (apply Ends.normal;exact rfl;exact rfl)
   all_goals exact ⟨rfl,rfl,rfl⟩
  ·cases ex <;> first | exact hh | exact ⟨hh.1,hh.2.1⟩
 ·intro a2 w2 hj
  refine wp_seq (wp_skip ?_)
  refine gcd_loop ?_ ?_ hQ a2 w2 hj
  ·intro e x y m ent
   repeat' first
    | (apply Ops.moveV;exact rfl;exact rfl)
    | (apply Ops.int;exact rfl;exact rfl;exact rfl;exact rfl;exact rfl)
    | (apply Ops.Z9x;exact rfl;exact rfl)
    | apply Runs.then
    | (apply Runs.region;exact rfl)
    | apply Ops.nil
    | (apply Ops.extract;exact rfl;exact rfl;exact rfl)
    | (apply Ops.moveT;exact rfl;exact rfl)
    | (apply Ops.moveA;exact rfl;exact rfl)
    | (apply Ops.ZAE;exact rfl;exact rfl)
    | (apply Ops.not;exact rfl;exact rfl)
    | (apply Ops.neg;exact rfl;exact rfl)
    | (apply Ops.conv;exact rfl;exact rfl;exact rfl;exact rfl)
    | (apply Ops.shr;exact rfl;exact rfl;decide;exact rfl)
    | (apply Ops.shl;exact rfl;exact rfl;decide;exact rfl)
    | (apply Ops.neB;exact rfl;exact rfl;exact rfl;exact rfl)
    | (apply Ops.eqB;exact rfl;exact rfl;exact rfl;exact rfl)
    | (apply Ops.pickTV;exact rfl;exact rfl;exact rfl)
    | (apply Ops.pickFV;exact rfl;exact rfl;exact rfl)
    | (apply Ops.want;exact rfl;exact rfl)
    | (apply Ops.pass;exact rfl;exact rfl;exact rfl)
    | (apply Ops.passU;exact rfl;exact rfl;exact rfl)
    | (apply Runs.drawn;kernel_rfl;exact rfl)
    | apply Runs.inBlock
    | (apply Ops.knownT;exact rfl;exact rfl;assumption)
    | (apply Ops.knownF;exact rfl;exact rfl;assumption)
    | (refine Ops.split rfl rfl ?_ ?_ <;> intro _)
    | (apply Runs.yes;exact rfl)
    | (apply Runs.no;exact rfl)
    | (apply Runs.yesB;exact rfl;assumption)
    | (apply Runs.noB;exact rfl;assumption)
    | (refine Runs.whether rfl ?_ ?_ <;> intro _)
    | apply Runs.skip
    | apply Runs.ret
    | apply Runs.exit
    | (apply Ends.ret;exact rfl;exact rfl)
    | (apply Ends.normal;exact rfl;exact rfl)
   ·rename_i h
    exact .inl ⟨eq_of_beq h,rfl,rfl⟩
   ·rename_i h
    exact .inr ⟨ne_of_beq_false h,rfl,rfl,rfl⟩
  ·intro e x y m ent hy
   repeat' first
    | (apply Ops.moveV;exact rfl;exact rfl)
    | (apply Ops.int;exact rfl;exact rfl;exact rfl;exact rfl;exact rfl)
    | (apply Ops.Z9x;exact rfl;exact rfl)
    | apply Runs.then
    | (apply Runs.region;exact rfl)
    | apply Ops.nil
    | (apply Ops.extract;exact rfl;exact rfl;exact rfl)
    | (apply Ops.moveT;exact rfl;exact rfl)
    | (apply Ops.moveA;exact rfl;exact rfl)
    | (apply Ops.ZAE;exact rfl;exact rfl)
    | (apply Ops.not;exact rfl;exact rfl)
    | (apply Ops.neg;exact rfl;exact rfl)
    | (apply Ops.conv;exact rfl;exact rfl;exact rfl;exact rfl)
    | (apply Ops.shr;exact rfl;exact rfl;decide;exact rfl)
    | (apply Ops.shl;exact rfl;exact rfl;decide;exact rfl)
    | (apply Ops.neB;exact rfl;exact rfl;exact rfl;exact rfl)
    | (apply Ops.eqB;exact rfl;exact rfl;exact rfl;exact rfl)
    | (apply Ops.pickTV;exact rfl;exact rfl;exact rfl)
    | (apply Ops.pickFV;exact rfl;exact rfl;exact rfl)
    | (apply Ops.want;exact rfl;exact rfl)
    | (apply Ops.pass;exact rfl;exact rfl;exact rfl)
    | (apply Ops.passU;exact rfl;exact rfl;exact rfl)
    | (apply Runs.drawn;kernel_rfl;exact rfl)
    | apply Runs.inBlock
    | refine Ops.rem rfl rfl hy rfl ?_
    | (apply Ops.knownT;exact rfl;exact rfl;assumption)
    | (apply Ops.knownF;exact rfl;exact rfl;assumption)
    | (refine Ops.split rfl rfl ?_ ?_ <;> intro _)
    | (apply Runs.yes;exact rfl)
    | (apply Runs.no;exact rfl)
    | (apply Runs.yesB;exact rfl;assumption)
    | (apply Runs.noB;exact rfl;assumption)
    | (refine Runs.whether rfl ?_ ?_ <;> intro _)
    | apply Runs.skip
    | apply Runs.ret
    | apply Runs.exit
    | (apply Ends.ret;exact rfl;exact rfl)
    | (apply Ends.normal;exact rfl;exact rfl)
   all_goals exact ⟨rfl,rfl,rfl⟩
set_option maxRecDepth 100000 in
theorem cloneT66:CloneT Tryz.prog 44 46 2 16 [.v (.int .i64 0),.v (.int .i64 0)]:=⟨rfl,rfl,rfl,rfl,rfl⟩
theorem pvrs_one' {s:St} {x:PV} {vs:Array Value} (h:PVRs s [x] vs):∃ v,vs = #[v]∧PVR s x v:=by
 obtain ⟨hl,hx⟩:=h
 have:vs.size = 1:=hl.symm
 refine ⟨vs.getD 0 Go.undef,?_,hx 0 x rfl⟩
 apply Array.ext
 ·simpa using this
 ·intro i h1 h2
  have:i = 0:=by simp at h2;omega
  subst this
  simp [Array.getD,h1]
theorem ca_ok:CtxOK CA:=by
 refine ⟨prog_ok,fun f args r h s hi hG vs hv hp => ?_⟩
 simp only [CA] at h
 split at h
 ·rename_i hf
  subst hf
  refine ⟨prog_call 98 _ _ _ Tryz.func98 rfl,?_⟩
  unfold gcdV at h
  split at h
  ·rename_i a b
   split at h
   ·rename_i hab
    cases h
    obtain ⟨v0,v1,rfl,h0,h1⟩:=pvrs_two hv
    obtain rfl:=Z2X h0
    obtain rfl:=Z2X h1
    exact intr_under hi rfl (gcd_calls hi hab.1 hab.2)
   ·cases h
  ·cases h
 split at h
 ·rename_i hf
  subst hf
  refine ⟨prog_call 66 _ _ _ Tryz.func66 rfl,?_⟩
  unfold cloneV at h
  split at h
  ·split at h
   ·rename_i xs hx
    cases h
    obtain ⟨v,rfl,hv1⟩:=pvrs_one' hv
    exact clone_calls (X:=C0) (b:=4) c0_ok Tryz.func66 rfl rfl rfl (fun _ => rfl) cloneT66 hi hx.1 hx.2 hv1
   ·cases h
  ·cases h
 cases h
noncomputable def CX:Ctx:={ P:=Tryz.prog,glob:=fun _ => none,intr:=fun f args => CA.intr f args,opn:=fun f => f == 6 || f == 9 || f == 35 || f == 47 || f == 48 || f == 59 || f == 88,keep:=fun f => f == 47 || f == 48 || f == 59 }
theorem cx_ok:CtxOK CX:=by
 refine ⟨prog_ok,fun f args r h s hi hG vs hv hp => ?_⟩
 simp only [CX] at h
 exact ca_ok.intr f args r h s hi hG vs hv hp
theorem cx_intr66 (args:List PV):CX.intr 66 args = cloneV 2 16 args:=rfl
theorem cx_intr98 (args:List PV):CX.intr 98 args = gcdV args:=rfl
end Go.Dn

namespace Go.Dn
open Go
noncomputable section
structure Span where
 From:Int
 To:Int
 deriving DecidableEq
def Span.cs (x:Span):List FV:=[(.int .i64 x.From),(.int .i64 x.To)]
def Span.ok (x:Span):Prop:=okI .i64 x.From∧okI .i64 x.To
structure Granule where
 Index:Int
 Ticks:(List Span)
 deriving DecidableEq
def Granule.cs (x:Granule):List FV:=[(.int .i64 x.Index),(.sl (x.Ticks.map Span.cs))]
def Granule.ok (x:Granule):Prop:=okI .i64 x.Index∧okL 16 Span.ok x.Ticks
structure Form where
 Period:Int
 Count:Int
 Core:(List (List Span))
 Odd:(List Granule)
 deriving DecidableEq
def Form.cs (x:Form):List FV:=[(.int .i64 x.Period),(.int .i64 x.Count),(.sl (x.Core.map (cL Span.cs))),(.sl (x.Odd.map Granule.cs))]
def Form.ok (x:Form):Prop:=okI .i64 x.Period∧okI .i64 x.Count∧okL 24 (okL 16 Span.ok) x.Core∧okL 32 Granule.ok x.Odd
structure Bound where
 Inf:Int
 N:Int
 deriving DecidableEq
def Bound.cs (x:Bound):List FV:=[(.int .i8 x.Inf),(.int .i64 x.N)]
def Bound.ok (x:Bound):Prop:=okI .i8 x.Inf∧okI .i64 x.N
structure Range where
 Low:Int
 High:Int
 HasLow:Bool
 HasHigh:Bool
 deriving DecidableEq
def Range.cs (x:Range):List FV:=[(.int .i64 x.Low),(.int .i64 x.High),(.bool x.HasLow),(.bool x.HasHigh)]
def Range.ok (x:Range):Prop:=okI .i64 x.Low∧okI .i64 x.High∧okB x.HasLow∧okB x.HasHigh
structure size_place where
 first:Int
 last:Int
 deriving DecidableEq
def size_place.cs (x:size_place):List FV:=[(.int .i64 x.first),(.int .i64 x.last)]
def size_place.ok (x:size_place):Prop:=okI .i64 x.first∧okI .i64 x.last
structure size_spot where
 index:Int
 place:size_place
 deriving DecidableEq
def size_spot.cs (x:size_spot):List FV:=[(.int .i64 x.index),(.int .i64 x.place.first),(.int .i64 x.place.last)]
def size_spot.ok (x:size_spot):Prop:=okI .i64 x.index∧size_place.ok x.place
structure size_form where
 Form:Form
 spots:(List size_spot)
 deriving DecidableEq
def size_form.cs (x:size_form):List FV:=[(.int .i64 x.Form.Period),(.int .i64 x.Form.Count),(.sl (x.Form.Core.map (cL Span.cs))),(.sl (x.Form.Odd.map Granule.cs)),(.sl (x.spots.map size_spot.cs))]
def size_form.ok (x:size_form):Prop:=Form.ok x.Form∧okL 24 size_spot.ok x.spots
structure carry_asked where
 f:Form
 m:Int
 deriving DecidableEq
def carry_asked.cs (x:carry_asked):List FV:=[(.int .i64 x.f.Period),(.int .i64 x.f.Count),(.sl (x.f.Core.map (cL Span.cs))),(.sl (x.f.Odd.map Granule.cs)),(.int .i64 x.m)]
def carry_asked.ok (x:carry_asked):Prop:=Form.ok x.f∧okI .i64 x.m
structure epactref22_Place where
 Index:Int
 First:Int
 Last:Int
 deriving DecidableEq
def epactref22_Place.cs (x:epactref22_Place):List FV:=[(.int .i64 x.Index),(.int .i64 x.First),(.int .i64 x.Last)]
def epactref22_Place.ok (x:epactref22_Place):Prop:=okI .i64 x.Index∧okI .i64 x.First∧okI .i64 x.Last
def Z0A.s0 (f:Form) (s1:Int × Int):Option ((Int × Int) ⊕ (Int)) :=
 (bif (decide (s1.2 < (f.Core.length:Int))) then
  (at? f.Core s1.2).bind fun x1 =>
  some (.inl ((w64 (s1.1 + (x1.length:Int))),(w64 (s1.2 + 1))))
 else
  some (.inr s1.1))
def Z0A.s1 (f:Form) (s2:Int × Int):Option ((Int × Int) ⊕ (Int)) :=
 (bif (decide (s2.2 < (f.Odd.length:Int))) then
  (at? f.Odd s2.2).bind fun x2 =>
  some (.inl ((w64 (s2.1 + (x2.Ticks.length:Int))),(w64 (s2.2 + 1))))
 else
  some (.inr s2.1))
def Z0A (f:Form):Option (Int) :=
 (loopO (Z0A.s0 f) (0,0)).bind fun (y1:Int) =>
 (loopO (Z0A.s1 f) (y1,0)).bind fun (y2:Int) =>
 some y2
def Z0d (f:Form):Option (Bool) :=
 (
  (bif ((decide ((f.Core.length:Int)≤12)) && (decide ((f.Odd.length:Int)≤8))) then
   (Z0A f).bind fun x1 =>
   some (decide (x1≤60))
  else
   some false)).bind fun (y1:Bool) =>
 some y1
def Z0v (t:Int):Bool :=
 ((decide (t ≥ (-1099511627776))) && (decide (t≤1099511627776)))
def Z0B.s0 (l:(List Span)) (s1:Int):Option ((Int) ⊕ (Jx (Unit) (Bool))) :=
 (bif (decide (s1 < (l.length:Int))) then
  (at? l s1).bind fun x1 =>
  (
   (bif (((!(Z0v x1.From)) || (!(Z0v x1.To))) || (decide (x1.From > x1.To))) then
    some true
   else
    (
     (bif (decide (s1 > 0)) then
      (at? l (w64 (s1 - 1))).bind fun x2 =>
      some (decide (x1.From < (w64 (x2.To + 2))))
     else
      some false)).bind fun (y3:Bool) =>
    some y3)).bind fun (y2:Bool) =>
  (bif y2 then
   some (.inr (.ret false))
  else
   some (.inl (w64 (s1 + 1))))
 else
  some (.inr (.go ())))
def Z0B (l:(List Span)):Option (Bool) :=
 (loopO (Z0B.s0 l) 0).bind fun (y1:Jx (Unit) (Bool)) =>
 y1.elim (fun r' =>
   some r') fun a2 =>
 some true
def Z14 (i:Int):Bool :=
 ((decide (i ≥ (-1099511627776))) && (decide (i≤1099511627776)))
def Zj.s0 (f:Form) (s1:Int):Option ((Int) ⊕ (Jx (Unit) (Bool))) :=
 (bif (decide (s1 < (f.Core.length:Int))) then
  (at? f.Core s1).bind fun x1 =>
  (Z0B x1).bind fun x2 =>
  (bif (!x2) then
   some (.inr (.ret false))
  else
   some (.inl (w64 (s1 + 1))))
 else
  some (.inr (.go ())))
def Zj.s1 (f:Form) (s2:Int):Option ((Int) ⊕ (Jx (Unit) (Bool))) :=
 (bif (decide (s2 < (f.Odd.length:Int))) then
  (at? f.Odd s2).bind fun x3 =>
  (Z0B x3.Ticks).bind fun x4 =>
  (
   (bif ((!x4) || (!(Z14 x3.Index))) then
    some true
   else
    (
     (bif (decide (s2 > 0)) then
      (at? f.Odd (w64 (s2 - 1))).bind fun x5 =>
      some (decide (x3.Index≤x5.Index))
     else
      some false)).bind fun (y4:Bool) =>
    some y4)).bind fun (y3:Bool) =>
  (bif y3 then
   some (.inr (.ret false))
  else
   some (.inl (w64 (s2 + 1))))
 else
  some (.inr (.go ())))
def Zj (f:Form):Option (Bool) :=
 (bif ((((f.Count != (f.Core.length:Int)) || ((f.Count == 0) != (f.Period == 0))) || (decide (f.Period < 0))) || (decide (f.Period > 1099511627776))) then
  some false
 else
  (loopO (Zj.s0 f) 0).bind fun (y1:Jx (Unit) (Bool)) =>
  y1.elim (fun r' =>
    some r') fun a2 =>
  (loopO (Zj.s1 f) 0).bind fun (y2:Jx (Unit) (Bool)) =>
  y2.elim (fun r' =>
    some r') fun a4 =>
  some true)
def Z0F.s0 (f:Form) (s2:Int × (List (List Span))):Option ((Int × (List (List Span))) ⊕ ((List (List Span)))) :=
 (bif (decide (s2.1 < (f.Core.length:Int))) then
  (
   (
    (at? f.Core s2.1).bind fun x1 =>
    (bif (decide ((x1.length:Int) > 0)) then
     (app? 24 s2.2 [x1]).bind fun x2 =>
     some x2
    else
     some s2.2)).bind fun (y3:(List (List Span))) =>
   some y3).bind fun (y2:(List (List Span))) =>
  some (.inl ((w64 (s2.1 + 1)),y2))
 else
  some (.inr s2.2))
def Z0F.s1 (f:Form) (y1:(List (List Span))) (s3:Int):Option ((Int) ⊕ (Jx (Unit) (Bool))) :=
 (bif (decide (s3 < (y1.length:Int))) then
  (
   (
    (at? y1 s3).bind fun x3 =>
    (nz? (y1.length:Int)).bind fun u1 =>
    (at? y1 ((w64 (s3 + 1)).tmod (y1.length:Int))).bind fun x4 =>
    (
     (bif ((w64 (s3 + 1)) == (y1.length:Int)) then
      some f.Period
     else
      some 0)).bind fun (y7:Int) =>
    (at? x3 (w64 ((x3.length:Int) - 1))).bind fun x5 =>
    (at? x4 0).bind fun x6 =>
    (bif (decide (x5.To ≥ (w64 (x6.From + y7)))) then
     some (.ret false)
    else
     some (.go ()))).bind fun (y6:Jx (Unit) (Bool)) =>
   y6.elim (fun r' =>
     some (.ret r')) fun a4 =>
   some (.go ())).bind fun (y5:Jx (Unit) (Bool)) =>
  y5.elim (fun r' =>
    some (.inr (.ret r'))) fun a5 =>
  some (.inl (w64 (s3 + 1)))
 else
  some (.inr (.go ())))
def Z0F (f:Form):Option (Bool) :=
 (loopO (Z0F.s0 f) (0,[])).bind fun (y1:(List (List Span))) =>
 (loopO (Z0F.s1 f y1) 0).bind fun (y4:Jx (Unit) (Bool)) =>
 y4.elim (fun r' =>
   some r') fun a6 =>
 some true
def Z2.s0 (x':(List Granule)) (target:Int) (cmp:Granule→Int→Option Int) (s1:Int × Int):Option ((Int × Int) ⊕ (Int)) :=
 (bif (decide (s1.1 < s1.2)) then
  (
   (at? x' (w64 ((IntKind.u64.wrap (w64 (s1.1 + s1.2))).fdiv (2 ^ 1)))).bind fun x1 =>
   (cmp x1 target).bind fun x2 =>
   (bif (decide (x2 < 0)) then
    some ((w64 ((w64 ((IntKind.u64.wrap (w64 (s1.1 + s1.2))).fdiv (2 ^ 1))) + 1)),s1.2)
   else
    some (s1.1,(w64 ((IntKind.u64.wrap (w64 (s1.1 + s1.2))).fdiv (2 ^ 1)))))).bind fun (y2:Int × Int) =>
  some (.inl (y2.1,y2.2))
 else
  some (.inr s1.1))
def Z2 (x':(List Granule)) (target:Int) (cmp:Granule→Int→Option Int):Option (Int × Bool) :=
 (loopO (Z2.s0 x' target cmp) (0,(x'.length:Int))).bind fun (y1:Int) =>
 (
  (bif (decide (y1 < (x'.length:Int))) then
   (at? x' y1).bind fun x3 =>
   (cmp x3 target).bind fun x4 =>
   some (x4 == 0)
  else
   some false)).bind fun (y3:Bool) =>
 some (y1,y3)
def Z2l (x':Int):Bool :=
 (x' != x')
def Z20 (x':Int) (y:Int):Int :=
 (bif (Z2l x') then
  (bif (Z2l y) then
   0
  else
   (-1))
 else
  (bif (Z2l y) then
   1
  else
   (bif (decide (x' < y)) then
    (-1)
   else
    (bif (decide (x' > y)) then
     1
    else
     0))))
def Z3e (g:Granule) (i:Int):Int :=
 (Z20 g.Index i)
def Z4p (f:Form) (i:Int):Option (Int × Bool) :=
 (Z2 f.Odd i (fun z0 z1 => some (Z3e z0 z1))).bind fun x1 =>
 some (x1.1,x1.2)
def Z0P (a:Int) (b:Int):Option (Int × Int × Int) :=
 (bif (b == 0) then
  some (0,0,11)
 else
  (bif ((b == (-1)) && (a == (-9223372036854775808))) then
   some (0,0,10)
  else
   (nz? b).bind fun u1 =>
   (nz? b).bind fun u2 =>
   (
    (bif (((a.tmod b) != 0) && ((decide ((a.tmod b) < 0)) != (decide (b < 0)))) then
     some ((w64 ((w64 (a.tdiv b)) - 1)),(w64 ((a.tmod b) + b)))
    else
     some ((w64 (a.tdiv b)),(a.tmod b)))).bind fun (y1:Int × Int) =>
   some (y1.1,y1.2,0)))
def Zg (a:Int):Int :=
 (bif (decide (a < 0)) then
  (IntKind.u64.wrap (0 - (IntKind.u64.wrap a)))
 else
  (IntKind.u64.wrap a))
def Zw (x':Int) (y:Int):Int × Int :=
 ((IntKind.u64.wrap ((IntKind.u64.wrap ((IntKind.u64.wrap ((x'.fdiv (2 ^ 32)) * (y.fdiv (2 ^ 32)))) + ((IntKind.u64.wrap ((IntKind.u64.wrap ((x'.fdiv (2 ^ 32)) * (iAnd .u64 y 4294967295))) + ((IntKind.u64.wrap ((iAnd .u64 x' 4294967295) * (iAnd .u64 y 4294967295))).fdiv (2 ^ 32)))).fdiv (2 ^ 32)))) + ((IntKind.u64.wrap ((iAnd .u64 (IntKind.u64.wrap ((IntKind.u64.wrap ((x'.fdiv (2 ^ 32)) * (iAnd .u64 y 4294967295))) + ((IntKind.u64.wrap ((iAnd .u64 x' 4294967295) * (iAnd .u64 y 4294967295))).fdiv (2 ^ 32)))) 4294967295) + (IntKind.u64.wrap ((iAnd .u64 x' 4294967295) * (y.fdiv (2 ^ 32)))))).fdiv (2 ^ 32)))),(IntKind.u64.wrap (x' * y)))
def Z2T (n:Int) (minus:Bool):Int × Int :=
 (bif (minus && (decide (n≤9223372036854775808))) then
  ((w64 (IntKind.u64.wrap (0 - n))),0)
 else
  (bif ((!minus) && (decide (n≤9223372036854775807))) then
   ((w64 n),0)
  else
   (0,10)))
def ZL (a:Int) (b:Int):Int × Int :=
 (bif (((Zw (Zg a) (Zg b)).1) != 0) then
  (0,10)
 else
  ((Z2T ((Zw (Zg a) (Zg b)).2) ((decide (a < 0)) != (decide (b < 0)))).1,(Z2T ((Zw (Zg a) (Zg b)).2) ((decide (a < 0)) != (decide (b < 0)))).2))
def Z2f (f:Form) (i:Int):Option ((List Span) × Int × Int) :=
 (Z4p f i).bind fun x1 =>
 (bif x1.2 then
  (at? f.Odd x1.1).bind fun x2 =>
  some (x2.Ticks,0,0)
 else
  (bif (f.Count == 0) then
   some ([],0,0)
  else
   (Z0P i f.Count).bind fun x3 =>
   (at? f.Core x3.2.1).bind fun x4 =>
   some (x4,(ZL x3.1 f.Period).1,(ZL x3.1 f.Period).2)))
def ZN (a:Int) (b:Int):Int × Int :=
 (bif (((decide ((w64 (a + b)) > a)) != (decide (b > 0))) && (b != 0)) then
  (0,10)
 else
  ((w64 (a + b)),0))
def Z0H.s0 (l:(List Span)) (by':Int) (s2:Int × (List Span)):Option ((Int × (List Span)) ⊕ (Jx ((List Span)) ((List Span) × Int))) :=
 (bif (decide (s2.1 < (l.length:Int))) then
  (at? l s2.1).bind fun x1 =>
  (bif ((((((ZN x1.From by').2) != 0) || (((ZN x1.To by').2) != 0)) || (!(Z0v ((ZN x1.From by').1)))) || (!(Z0v ((ZN x1.To by').1)))) then
   some (.inr (.ret ([],20)))
  else
   (app? 16 s2.2 [(Span.mk ((ZN x1.From by').1) ((ZN x1.To by').1))]).bind fun x2 =>
   some (.inl ((w64 (s2.1 + 1)),x2)))
 else
  some (.inr (.go s2.2)))
def Z0H (l:(List Span)) (by':Int):Option ((List Span) × Int) :=
 (loopO (Z0H.s0 l by') (0,[])).bind fun (y1:Jx ((List Span)) ((List Span) × Int)) =>
 y1.elim (fun r' =>
   some r') fun a2 =>
 some (a2,0)
def Z0Z (f:Form) (i:Int):Option ((List Span) × Int) :=
 (bif (!(Z14 i)) then
  some ([],20)
 else
  (Z2f f i).bind fun x1 =>
  (bif ((x1.1.length:Int) == 0) then
   some ([],0)
  else
   (bif (x1.2.2 != 0) then
    some ([],20)
   else
    (Z0H x1.1 x1.2.1).bind fun x2 =>
    some (x2.1,x2.2))))
def ZE.s0 (s:(List (List Span))) (f:(List Span)→Option Bool) (s1:Int):Option ((Int) ⊕ (Jx (Unit) (Int))) :=
 (bif (decide (s1 < (s.length:Int))) then
  (at? s s1).bind fun x1 =>
  (f x1).bind fun x2 =>
  (bif x2 then
   some (.inr (.ret s1))
  else
   some (.inl (w64 (s1 + 1))))
 else
  some (.inr (.go ())))
def ZE (s:(List (List Span))) (f:(List Span)→Option Bool):Option (Int) :=
 (loopO (ZE.s0 s f) 0).bind fun (y1:Jx (Unit) (Int)) =>
 y1.elim (fun r' =>
   some r') fun a2 =>
 some (-1)
def ZX (s:(List (List Span))) (f:(List Span)→Option Bool):Option (Bool) :=
 (ZE s f).bind fun x1 =>
 some (decide (x1 ≥ 0))
def Z4o (l:(List Span)):Bool :=
 (decide ((l.length:Int) > 0))
def Z38 (f:Form):Option (Bool) :=
 (ZX f.Core (fun z0 => some (Z4o z0))).bind fun x1 =>
 some (!x1)
def Z4Q (f:Form) (i:Int):Option (Bool) :=
 (Z2f f i).bind fun x1 =>
 some (decide ((x1.1.length:Int) > 0))
def Zu.s0 (f:Form) (by':Int) (s1:Int):Option ((Int) ⊕ (Jx (Unit) (Int × Bool))) :=
 (bif ((decide (s1 ≥ 0)) && (decide (s1 < (f.Odd.length:Int)))) then
  (at? f.Odd s1).bind fun x3 =>
  (bif (decide ((x3.Ticks.length:Int) > 0)) then
   (at? f.Odd s1).bind fun x4 =>
   some (.inr (.ret (x4.Index,true)))
  else
   some (.inl (w64 (s1 + by'))))
 else
  some (.inr (.go ())))
def Zu.s1 (f:Form) (by':Int) (s2:Int):Option ((Int) ⊕ (Jx (Unit) (Int × Bool))) :=
 (bif (Z14 s2) then
  (Z4Q f s2).bind fun x5 =>
  (bif x5 then
   some (.inr (.ret (s2,true)))
  else
   some (.inl (w64 (s2 + by'))))
 else
  some (.inr (.go ())))
def Zu (f:Form) (from':Int) (by':Int):Option (Int × Bool) :=
 (Z38 f).bind fun x1 =>
 (bif x1 then
  (Z4p f from').bind fun x2 =>
  (
   (bif ((decide (by' < 0)) && (!x2.2)) then
    some (w64 (x2.1 - 1))
   else
    some x2.1)).bind fun (y1:Int) =>
  (loopO (Zu.s0 f by') y1).bind fun (y2:Jx (Unit) (Int × Bool)) =>
  y2.elim (fun r' =>
    some r') fun a2 =>
  some (0,false)
 else
  (loopO (Zu.s1 f by') from').bind fun (y3:Jx (Unit) (Int × Bool)) =>
  y3.elim (fun r' =>
    some r') fun a4 =>
  some (0,false))
def Z1n (f:Form) (i:Int):Option (Int × Bool) :=
 (bif (decide (i≤(-1099511627776))) then
  some (0,false)
 else
  (Zu f (iMin (w64 (i - 1)) 1099511627776) (-1)).bind fun x1 =>
  some (x1.1,x1.2))
def Z22 (f:Form) (i:Int):Option (Int × Bool) :=
 (bif (decide (i ≥ 1099511627776)) then
  some (0,false)
 else
  (Zu f (iMax (w64 (i + 1)) (-1099511627776)) 1).bind fun x1 =>
  some (x1.1,x1.2))
def Z0j (a:(List Span)) (b:(List Span)):Option (Bool) :=
 (
  (bif (((a.length:Int) == 0) || ((b.length:Int) == 0)) then
   some true
  else
   (at? a (w64 ((a.length:Int) - 1))).bind fun x1 =>
   (at? b 0).bind fun x2 =>
   some (decide (x1.To < x2.From)))).bind fun (y1:Bool) =>
 some y1
def Z25 (f:Form) (i:Int):Option (Bool) :=
 (Z0Z f i).bind fun x1 =>
 (bif (x1.2 != 0) then
  some false
 else
  (Z1n f i).bind fun x2 =>
  (Z22 f i).bind fun x3 =>
  (
   (bif x2.2 then
    (Z0Z f x2.1).bind fun x4 =>
    (bif (x4.2 != 0) then
     some (.ret false)
    else
     some (.go x4.1))
   else
    some (.go []))).bind fun (y1:Jx ((List Span)) (Bool)) =>
  y1.elim (fun r' =>
    some r') fun a2 =>
  (
   (bif x3.2 then
    (Z0Z f x3.1).bind fun x5 =>
    (bif (x5.2 != 0) then
     some (.ret false)
    else
     some (.go x5.1))
   else
    some (.go []))).bind fun (y2:Jx ((List Span)) (Bool)) =>
  y2.elim (fun r' =>
    some r') fun a4 =>
  (Z0j a2 x1.1).bind fun x6 =>
  (
   (bif x6 then
    (Z0j x1.1 a4).bind fun x7 =>
    some x7
   else
    some false)).bind fun (y3:Bool) =>
  (
   (bif y3 then
    (Z0j a2 a4).bind fun x8 =>
    some x8
   else
    some false)).bind fun (y4:Bool) =>
  some y4)
def Zz.s0 (f:Form) (s1:Int):Option ((Int) ⊕ (Jx (Unit) (Int))) :=
 (bif (decide (s1 < (f.Odd.length:Int))) then
  (at? f.Odd s1).bind fun x4 =>
  (Z25 f x4.Index).bind fun x5 =>
  (bif (!x5) then
   some (.inr (.ret 50))
  else
   some (.inl (w64 (s1 + 1))))
 else
  some (.inr (.go ())))
def Zz (f:Form):Option (Int) :=
 (
  (bif ((decide ((f.Core.length:Int) > 6000)) || (decide ((f.Odd.length:Int) > 6000))) then
   some true
  else
   (Z0A f).bind fun x1 =>
   some (decide (x1 > 60000)))).bind fun (y1:Bool) =>
 (bif y1 then
  some 3
 else
  (Zj f).bind fun x2 =>
  (
   (bif (!x2) then
    some true
   else
    (Z0F f).bind fun x3 =>
    some (!x3))).bind fun (y2:Bool) =>
  (bif y2 then
   some 50
  else
   (loopO (Zz.s0 f) 0).bind fun (y3:Jx (Unit) (Int)) =>
   y3.elim (fun r' =>
     some r') fun a2 =>
   some 0))
def Z4O (f:Form):Option (Bool) :=
 (Z0d f).bind fun x1 =>
 (
  (bif x1 then
   (Zz f).bind fun x2 =>
   some (x2 == 0)
  else
   some false)).bind fun (y1:Bool) =>
 some y1
def Z0w:Bool:=true
def ZV.s0 (s1':(List Span)) (s2':(List Span)) (s1:Int):Option ((Int) ⊕ (Jx (Unit) (Bool))) :=
 (bif (decide (s1 < (s1'.length:Int))) then
  (at? s1' s1).bind fun x1 =>
  (at? s2' s1).bind fun x2 =>
  (bif (!((x1.From == x2.From) && ((x1.To == x2.To) && true))) then
   some (.inr (.ret false))
  else
   some (.inl (w64 (s1 + 1))))
 else
  some (.inr (.go ())))
def ZV (s1':(List Span)) (s2':(List Span)):Option (Bool) :=
 (bif ((s1'.length:Int) != (s2'.length:Int)) then
  some false
 else
  (loopO (ZV.s0 s1' s2') 0).bind fun (y1:Jx (Unit) (Bool)) =>
  y1.elim (fun r' =>
    some r') fun a2 =>
  some true)
def Z1J (a:(List Span)) (b:(List Span)):Option (Bool) :=
 (ZV a b).bind fun x1 =>
 some x1
def epactlaw05_FormOrder (f:Form) (i:Int) (k:Int):Option (Bool) :=
 (Z4O f).bind fun x1 =>
 (bif (!x1) then
  some Z0w
 else
  (Z0Z f (iMin i k)).bind fun x2 =>
  (Z0Z f (iMax i k)).bind fun x3 =>
  (bif ((x2.2 != 0) || (x3.2 != 0)) then
   some ((((x2.2 == 0) || ((x2.2 == 20) && ((x2.1.length:Int) == 0))) && ((x3.2 == 0) || ((x3.2 == 20) && ((x3.1.length:Int) == 0)))) && Z0w)
  else
   (Z0B x2.1).bind fun x4 =>
   (
    (bif x4 then
     (Z0B x3.1).bind fun x5 =>
     some x5
    else
     some false)).bind fun (y1:Bool) =>
   (
    (bif y1 then
     (
      (bif ((iMin i k) == (iMax i k)) then
       (Z1J x2.1 x3.1).bind fun x6 =>
       some x6
      else
       some false)).bind fun (y3:Bool) =>
     (
      (bif y3 then
       some true
      else
       (
        (bif (decide ((iMin i k) < (iMax i k))) then
         (Z0j x2.1 x3.1).bind fun x7 =>
         some x7
        else
         some false)).bind fun (y5:Bool) =>
       some y5)).bind fun (y4:Bool) =>
     some y4
    else
     some false)).bind fun (y2:Bool) =>
   some (y2 && Z0w)))
def Z42.s0 (f:Form) (i:Int) (s1:Int):Option ((Int) ⊕ (Jx (Unit) (Bool))) :=
 (bif (decide (s1 < (f.Odd.length:Int))) then
  (at? f.Odd s1).bind fun x1 =>
  (bif (x1.Index == i) then
   some (.inr (.ret true))
  else
   some (.inl (w64 (s1 + 1))))
 else
  some (.inr (.go ())))
def Z42 (f:Form) (i:Int):Option (Bool) :=
 (loopO (Z42.s0 f i) 0).bind fun (y1:Jx (Unit) (Bool)) =>
 y1.elim (fun r' =>
   some r') fun a2 =>
 some false
def epactlaw05_FormTurns (f:Form) (i:Int):Option (Bool) :=
 (Z4O f).bind fun x1 =>
 (
  (bif ((!x1) || (f.Count == 0)) then
   some true
  else
   (Z42 f ((w64 i).tmod 1048576)).bind fun x2 =>
   some x2)).bind fun (y1:Bool) =>
 (
  (bif y1 then
   some true
  else
   (Z42 f (w64 (((w64 i).tmod 1048576) + f.Count))).bind fun x3 =>
   some x3)).bind fun (y2:Bool) =>
 (bif y2 then
  some Z0w
 else
  (Z0Z f ((w64 i).tmod 1048576)).bind fun x4 =>
  (Z0Z f (w64 (((w64 i).tmod 1048576) + f.Count))).bind fun x5 =>
  (bif ((x4.2 != 0) || (x5.2 != 0)) then
   some Z0w
  else
   (Z0H x4.1 f.Period).bind fun x6 =>
   (
    (bif (x6.2 == 0) then
     (Z1J x6.1 x5.1).bind fun x7 =>
     some x7
    else
     some false)).bind fun (y3:Bool) =>
   some (y3 && Z0w)))
def Z2I.s0 (f:Form) (i:Int) (x2:Int × Bool) (s1:Int):Option ((Int) ⊕ (Jx (Int) (Bool))) :=
 (bif ((x2.2 && (decide (s1 < x2.1))) && (decide (s1 < (w64 (((w64 i).fdiv (2 ^ 1)) + 40))))) then
  (Z0Z f s1).bind fun x4 =>
  (bif ((x4.2 == 0) && (decide ((x4.1.length:Int) > 0))) then
   some (.inr (.ret false))
  else
   some (.inl (w64 (s1 + 1))))
 else
  some (.inr (.go ((w64 i).fdiv (2 ^ 1)))))
def Z2I.s1 (f:Form) (x3:Int × Bool) (a2:Int) (s2:Int):Option ((Int) ⊕ (Jx (Unit) (Bool))) :=
 (bif ((x3.2 && (decide (s2 > x3.1))) && (decide (s2 > (w64 (a2 - 40))))) then
  (Z0Z f s2).bind fun x5 =>
  (bif ((x5.2 == 0) && (decide ((x5.1.length:Int) > 0))) then
   some (.inr (.ret false))
  else
   some (.inl (w64 (s2 - 1))))
 else
  some (.inr (.go ())))
def Z2I (f:Form) (i:Int):Option (Bool) :=
 (Z4O f).bind fun x1 =>
 (bif (!x1) then
  some Z0w
 else
  (Z22 f ((w64 i).fdiv (2 ^ 1))).bind fun x2 =>
  (Z1n f ((w64 i).fdiv (2 ^ 1))).bind fun x3 =>
  (bif ((x2.2 && (decide (x2.1≤((w64 i).fdiv (2 ^ 1))))) || (x3.2 && (decide (x3.1 ≥ ((w64 i).fdiv (2 ^ 1)))))) then
   some false
  else
   (loopO (Z2I.s0 f i x2) (w64 (((w64 i).fdiv (2 ^ 1)) + 1))).bind fun (y1:Jx (Int) (Bool)) =>
   y1.elim (fun r' =>
     some r') fun a2 =>
   (loopO (Z2I.s1 f x3 a2) (w64 (a2 - 1))).bind fun (y2:Jx (Unit) (Bool)) =>
   y2.elim (fun r' =>
     some r') fun a4 =>
   (
    (bif x2.2 then
     (Z1n f x2.1).bind fun x6 =>
     (bif ((x6.2 && (decide (x6.1 > a2))) || (x3.2 && ((!x6.2) || (decide (x6.1 < x3.1))))) then
      some (.ret false)
     else
      some (.go ()))
    else
     some (.go ()))).bind fun (y3:Jx (Unit) (Bool)) =>
   y3.elim (fun r' =>
     some r') fun a6 =>
   some Z0w))
def ZD.s0 (s1':(List Span)) (s2':(List Span)) (eq:Span→Span→Option Bool) (s1:Int):Option ((Int) ⊕ (Jx (Unit) (Bool))) :=
 (bif (decide (s1 < (s1'.length:Int))) then
  (at? s1' s1).bind fun x1 =>
  (at? s2' s1).bind fun x2 =>
  (eq x1 x2).bind fun x3 =>
  (bif (!x3) then
   some (.inr (.ret false))
  else
   some (.inl (w64 (s1 + 1))))
 else
  some (.inr (.go ())))
def ZD (s1':(List Span)) (s2':(List Span)) (eq:Span→Span→Option Bool):Option (Bool) :=
 (bif ((s1'.length:Int) != (s2'.length:Int)) then
  some false
 else
  (loopO (ZD.s0 s1' s2' eq) 0).bind fun (y1:Jx (Unit) (Bool)) =>
  y1.elim (fun r' =>
    some r') fun a2 =>
  some true)
def Z0O.s0 (s1':(List (List Span))) (s2':(List (List Span))) (eq:(List Span)→(List Span)→Option Bool) (s1:Int):Option ((Int) ⊕ (Jx (Unit) (Bool))) :=
 (bif (decide (s1 < (s1'.length:Int))) then
  (at? s1' s1).bind fun x1 =>
  (at? s2' s1).bind fun x2 =>
  (eq x1 x2).bind fun x3 =>
  (bif (!x3) then
   some (.inr (.ret false))
  else
   some (.inl (w64 (s1 + 1))))
 else
  some (.inr (.go ())))
def Z0O (s1':(List (List Span))) (s2':(List (List Span))) (eq:(List Span)→(List Span)→Option Bool):Option (Bool) :=
 (bif ((s1'.length:Int) != (s2'.length:Int)) then
  some false
 else
  (loopO (Z0O.s0 s1' s2' eq) 0).bind fun (y1:Jx (Unit) (Bool)) =>
  y1.elim (fun r' =>
    some r') fun a2 =>
  some true)
def Z00.s0 (s1':(List Granule)) (s2':(List Granule)) (eq:Granule→Granule→Option Bool) (s1:Int):Option ((Int) ⊕ (Jx (Unit) (Bool))) :=
 (bif (decide (s1 < (s1'.length:Int))) then
  (at? s1' s1).bind fun x1 =>
  (at? s2' s1).bind fun x2 =>
  (eq x1 x2).bind fun x3 =>
  (bif (!x3) then
   some (.inr (.ret false))
  else
   some (.inl (w64 (s1 + 1))))
 else
  some (.inr (.go ())))
def Z00 (s1':(List Granule)) (s2':(List Granule)) (eq:Granule→Granule→Option Bool):Option (Bool) :=
 (bif ((s1'.length:Int) != (s2'.length:Int)) then
  some false
 else
  (loopO (Z00.s0 s1' s2' eq) 0).bind fun (y1:Jx (Unit) (Bool)) =>
  y1.elim (fun r' =>
    some r') fun a2 =>
  some true)
def Z07.s0 (a:(List Span)) (b:(List Span)) (s1:Int):Option ((Int) ⊕ (Jx (Unit) (Bool))) :=
 (bif (decide (s1 < (a.length:Int))) then
  (at? a s1).bind fun x1 =>
  (at? b s1).bind fun x2 =>
  (bif (!((x2.From == x1.From) && ((x2.To == x1.To) && true))) then
   some (.inr (.ret false))
  else
   some (.inl (w64 (s1 + 1))))
 else
  some (.inr (.go ())))
def Z07 (a:(List Span)) (b:(List Span)):Option (Bool) :=
 (bif ((a.length:Int) != (b.length:Int)) then
  some false
 else
  (loopO (Z07.s0 a b) 0).bind fun (y1:Jx (Unit) (Bool)) =>
  y1.elim (fun r' =>
    some r') fun a2 =>
  some true)
def ZO.s0 (a:Form) (b:Form) (s1:Int):Option ((Int) ⊕ (Jx (Unit) (Bool))) :=
 (bif (decide (s1 < (a.Core.length:Int))) then
  (at? a.Core s1).bind fun x1 =>
  (at? b.Core s1).bind fun x2 =>
  (Z07 x1 x2).bind fun x3 =>
  (bif (!x3) then
   some (.inr (.ret false))
  else
   some (.inl (w64 (s1 + 1))))
 else
  some (.inr (.go ())))
def ZO.s1 (a:Form) (b:Form) (s2:Int):Option ((Int) ⊕ (Jx (Unit) (Bool))) :=
 (bif (decide (s2 < (a.Odd.length:Int))) then
  (at? a.Odd s2).bind fun x4 =>
  (at? b.Odd s2).bind fun x5 =>
  (
   (bif (x4.Index != x5.Index) then
    some true
   else
    (at? b.Odd s2).bind fun x6 =>
    (Z07 x4.Ticks x6.Ticks).bind fun x7 =>
    some (!x7))).bind fun (y3:Bool) =>
  (bif y3 then
   some (.inr (.ret false))
  else
   some (.inl (w64 (s2 + 1))))
 else
  some (.inr (.go ())))
def ZO (a:Form) (b:Form):Option (Bool) :=
 (bif ((((a.Period != b.Period) || (a.Count != b.Count)) || ((a.Core.length:Int) != (b.Core.length:Int))) || ((a.Odd.length:Int) != (b.Odd.length:Int))) then
  some false
 else
  (loopO (ZO.s0 a b) 0).bind fun (y1:Jx (Unit) (Bool)) =>
  y1.elim (fun r' =>
    some r') fun a2 =>
  (loopO (ZO.s1 a b) 0).bind fun (y2:Jx (Unit) (Bool)) =>
  y2.elim (fun r' =>
    some r') fun a4 =>
  some true)
def Z3E (f:Form):Option (Bool) :=
 (Z0d f).bind fun x1 =>
 (
  (bif x1 then
   (Zz f).bind fun x2 =>
   some (x2 == 0)
  else
   some false)).bind fun (y1:Bool) =>
 some y1
def Z3Z.s0 (f:Form) (most:Int) (s1:Int):Option ((Int) ⊕ (Jx (Unit) (Bool))) :=
 (bif (decide (s1 < (f.Odd.length:Int))) then
  (at? f.Odd s1).bind fun x1 =>
  (bif ((decide (x1.Index < (w64 (0 - most)))) || (decide (x1.Index > most))) then
   some (.inr (.ret false))
  else
   some (.inl (w64 (s1 + 1))))
 else
  some (.inr (.go ())))
def Z3Z (f:Form) (most:Int):Option (Bool) :=
 (loopO (Z3Z.s0 f most) 0).bind fun (y1:Jx (Unit) (Bool)) =>
 y1.elim (fun r' =>
   some r') fun a2 =>
 some true
def Z1O:Bool:=true
def Z59 (l:(List Span)):Bool :=
 (decide ((l.length:Int) > 0))
def Z3i (f:Form):Option (Bool) :=
 (ZX f.Core (fun z0 => some (Z59 z0))).bind fun x1 =>
 some (!x1)
def Zs.s0 (p1':Int) {S:Type} (yield:S→Int→Option (S × Bool)) (s1:Int × S):Option ((Int × S) ⊕ (Jx (S) (S))) :=
 (bif (decide (s1.1≤p1')) then
  (nz? s1.1).bind fun u1 =>
  (
   (bif ((p1'.tmod s1.1) == 0) then
    (yield s1.2 s1.1).bind fun x1 =>
    some ((!x1.2),x1.1)
   else
    some (false,s1.2))).bind fun (y2:Bool × S) =>
  (bif y2.1 then
   some (.inr (.ret y2.2))
  else
   some (.inl ((w64 (s1.1 + 1)),y2.2)))
 else
  some (.inr (.go s1.2)))
def Zs {S:Type} (p1':Int) (yield:S→Int→Option (S × Bool)) (st':S):Option (S) :=
 (loopO (Zs.s0 p1' yield) (1,st')).bind fun (y1:Jx (S) (S)) =>
 y1.elim (fun r' =>
   some r') fun a2 =>
 some a2
def Z1d (x':Span) (y:Span) (p2':Int):Bool :=
 (((w64 (y.From - x'.From)) == p2') && ((w64 (y.To - x'.To)) == p2'))
def Z2E (a:(List Span)) (b:(List Span)) (by':Int):Option (Bool) :=
 (ZD a b (fun z0 z1 => some (Z1d z0 z1 by'))).bind fun x1 =>
 some x1
def Z0u.s0 (f:Form) (d:Int) (by':Int) (s1:Int):Option ((Int) ⊕ (Jx (Unit) (Bool))) :=
 (bif (decide (s1 < (f.Core.length:Int))) then
  (
   (
    (at? f.Core s1).bind fun x1 =>
    (
     (bif (decide ((w64 (s1 + d)) ≥ f.Count)) then
      some ((w64 ((w64 (s1 + d)) - f.Count)),f.Period)
     else
      some ((w64 (s1 + d)),0))).bind fun (y4:Int × Int) =>
    (at? f.Core y4.1).bind fun x2 =>
    (Z2E x1 x2 (w64 (by' - y4.2))).bind fun x3 =>
    (bif (!x3) then
     some (.ret false)
    else
     some (.go ()))).bind fun (y3:Jx (Unit) (Bool)) =>
   y3.elim (fun r' =>
     some (.ret r')) fun a4 =>
   some (.go ())).bind fun (y2:Jx (Unit) (Bool)) =>
  y2.elim (fun r' =>
    some (.inr (.ret r'))) fun a5 =>
  some (.inl (w64 (s1 + 1)))
 else
  some (.inr (.go ())))
def Z0u (f:Form) (d:Int) (by':Int):Option (Bool) :=
 (loopO (Z0u.s0 f d by') 0).bind fun (y1:Jx (Unit) (Bool)) =>
 y1.elim (fun r' =>
   some r') fun a6 =>
 some true
def Zp.s1 (x4:(List (List Span))) (s3:Int × (List (List Span))):Option ((Int × (List (List Span))) ⊕ ((List (List Span)))) :=
 (bif (decide (s3.1 < (x4.length:Int))) then
  (at? x4 s3.1).bind fun x5 =>
  (clone? 16 x5).bind fun x6 =>
  (app? 24 s3.2 [x6]).bind fun x7 =>
  some (.inl ((w64 (s3.1 + 1)),x7))
 else
  some (.inr s3.2))
def Zp.b0 (f:Form) (s2:(List (List Span)) × Int × Int) (z2:Int):Option (((List (List Span)) × Int × Int) × Nat) :=
 (nz? z2).bind fun u1 =>
 (Z0P f.Period (w64 (f.Count.tdiv z2))).bind fun x2 =>
 (
  (bif (x2.2.1 != 0) then
   some true
  else
   (Z0u f z2 x2.1).bind fun x3 =>
   some (!x3))).bind fun (y3:Bool) =>
 (bif y3 then
  some ((s2.1,s2.2.1,s2.2.2),0)
 else
  (cut? f.Core 0 z2).bind fun x4 =>
  (loopO (Zp.s1 x4) (0,s2.1)).bind fun (y4:(List (List Span))) =>
  some ((y4,x2.1,z2),1))
def Zp (f:Form):Option (Form) :=
 (Z3i f).bind fun x1 =>
 (bif x1 then
  some (Form.mk 0 0 [] [])
 else
  (
   (Zs f.Count (Z3L (Zp.b0 f)) (([],0,0),0)).bind fun (y2:((List (List Span)) × Int × Int) × Nat) =>
   (bif (y2.2 == 0) then
    some (y2.1.1,y2.1.2.1,y2.1.2.2)
   else
    some (y2.1.1,y2.1.2.1,y2.1.2.2))).bind fun (y1:(List (List Span)) × Int × Int) =>
  some (Form.mk y1.2.1 y1.2.2 y1.1 []))
def Z2z (f:Form) (g:Granule):Option (Bool) :=
 (Z0Z f g.Index).bind fun x1 =>
 (
  (bif (x1.2 == 0) then
   (Z1J x1.1 g.Ticks).bind fun x2 =>
   some x2
  else
   some false)).bind fun (y1:Bool) =>
 some y1
def Zi.s0 (f:Form) (x1:Form) (s2:Int × (List Granule)):Option ((Int × (List Granule)) ⊕ ((List Granule))) :=
 (bif (decide (s2.1 < (f.Odd.length:Int))) then
  (
   (
    (at? f.Odd s2.1).bind fun x2 =>
    (Z2z x1 x2).bind fun x3 =>
    (bif (!x3) then
     (clone? 16 x2.Ticks).bind fun x4 =>
     (app? 32 s2.2 [(Granule.mk x2.Index x4)]).bind fun x5 =>
     some x5
    else
     some s2.2)).bind fun (y3:(List Granule)) =>
   some y3).bind fun (y2:(List Granule)) =>
  some (.inl ((w64 (s2.1 + 1)),y2))
 else
  some (.inr s2.2))
def Zi (f:Form):Option (Form) :=
 (Zp f).bind fun x1 =>
 (loopO (Zi.s0 f x1) (0,[])).bind fun (y1:(List Granule)) =>
 some (Form.mk x1.Period x1.Count x1.Core y1)
def canon_equal_1 (x':Granule) (y:Granule):Option (Bool) :=
 (
  (bif (x'.Index == y.Index) then
   (Z1J x'.Ticks y.Ticks).bind fun x1 =>
   some x1
  else
   some false)).bind fun (y1:Bool) =>
 some y1
def ZBH (a:Form) (b:Form):Option (Bool) :=
 (
  (bif ((a.Period == b.Period) && (a.Count == b.Count)) then
   (Z0O a.Core b.Core (fun z0 z1 => Z1J z0 z1)).bind fun x1 =>
   some x1
  else
   some false)).bind fun (y1:Bool) =>
 (
  (bif y1 then
   (Z00 a.Odd b.Odd (fun z0 z1 => canon_equal_1 z0 z1)).bind fun x2 =>
   some x2
  else
   some false)).bind fun (y2:Bool) =>
 some y2
def ZCA (f:Form) (g:Form):Option (Bool) :=
 (Zi f).bind fun x1 =>
 (Zi g).bind fun x2 =>
 (ZBH x1 x2).bind fun x3 =>
 some x3
def Z4m.s0 (f:Form) (g:Form) (s1:Int):Option ((Int) ⊕ (Jx (Bool) (Bool))) :=
 (bif (decide (s1≤2000)) then
  (Z0Z f s1).bind fun x5 =>
  (Z0Z g s1).bind fun x6 =>
  (bif ((x5.2 != 0) || (x6.2 != 0)) then
   some (.inr (.ret Z1O))
  else
   (Z1J x5.1 x6.1).bind fun x7 =>
   (bif (!x7) then
    some (.inr (.go false))
   else
    some (.inl (w64 (s1 + 1)))))
 else
  some (.inr (.go true)))
def Z4m (f:Form) (g:Form):Option (Bool) :=
 (Z3E f).bind fun x1 =>
 (
  (bif (!x1) then
   some true
  else
   (Z3E g).bind fun x2 =>
   some (!x2))).bind fun (y1:Bool) =>
 (
  (bif y1 then
   some true
  else
   (Z3Z f 200).bind fun x3 =>
   some (!x3))).bind fun (y2:Bool) =>
 (
  (bif y2 then
   some true
  else
   (Z3Z g 200).bind fun x4 =>
   some (!x4))).bind fun (y3:Bool) =>
 (bif ((y3 || (decide (f.Period > 32768))) || (decide (g.Period > 32768))) then
  some Z1O
 else
  (loopO (Z4m.s0 f g) (-2000)).bind fun (y4:Jx (Bool) (Bool)) =>
  y4.elim (fun r' =>
    some r') fun a2 =>
  (ZCA f g).bind fun x8 =>
  (
   (bif (x8 == a2) then
    (Zi f).bind fun x9 =>
    (Zi g).bind fun x10 =>
    (ZO x9 x10).bind fun x11 =>
    some (x11 == a2)
   else
    some false)).bind fun (y5:Bool) =>
  some (y5 && Z1O))
def canon_Is (f:Form):Option (Bool) :=
 (Zi f).bind fun x1 =>
 (ZBH f x1).bind fun x2 =>
 some x2
def Z4D.s0 (f:Form) (i:Int) (x2:Form) (s1:Int):Option ((Int) ⊕ (Jx (Unit) (Bool))) :=
 (bif (decide (s1 < ([i,0,1,(-1),(w64 ((i.tmod 50) - 25))].length:Int))) then
  (at? [i,0,1,(-1),(w64 ((i.tmod 50) - 25))] s1).bind fun x9 =>
  (Z0Z f x9).bind fun x10 =>
  (Z0Z x2 x9).bind fun x11 =>
  (
   (bif (x10.2 != x11.2) then
    some true
   else
    (Z1J x10.1 x11.1).bind fun x12 =>
    some (!x12))).bind fun (y5:Bool) =>
  (bif y5 then
   some (.inr (.ret false))
  else
   some (.inl (w64 (s1 + 1))))
 else
  some (.inr (.go ())))
def Z4D (f:Form) (i:Int):Option (Bool) :=
 (Z3E f).bind fun x1 =>
 (bif (!x1) then
  some Z1O
 else
  (Zi f).bind fun x2 =>
  (Zz x2).bind fun x3 =>
  (
   (bif (x3 != 0) then
    some true
   else
    (canon_Is x2).bind fun x4 =>
    some (!x4))).bind fun (y1:Bool) =>
  (
   (bif y1 then
    some true
   else
    (Zi x2).bind fun x5 =>
    (ZO x5 x2).bind fun x6 =>
    some (!x6))).bind fun (y2:Bool) =>
  (
   (bif (((y2 || (decide (x2.Count > f.Count))) || (decide (x2.Period > f.Period))) || (decide ((x2.Odd.length:Int) > (f.Odd.length:Int)))) then
    some true
   else
    (Z0A x2).bind fun x7 =>
    (Z0A f).bind fun x8 =>
    some (decide (x7 > x8)))).bind fun (y3:Bool) =>
  (bif y3 then
   some false
  else
   (loopO (Z4D.s0 f i x2) 0).bind fun (y4:Jx (Unit) (Bool)) =>
   y4.elim (fun r' =>
     some r') fun a2 =>
   (ZCA f x2).bind fun x13 =>
   some (x13 && Z1O)))
def Z2i (l:(List Span)):Option ((List Span)) :=
 (new? 16 (l.length:Int) (Span.mk 0 0)).bind fun x1 =>
 some (cpy x1 l)
def Zb.s0 (f:Form) (s2:Int × (List (List Span))):Option ((Int × (List (List Span))) ⊕ ((List (List Span)))) :=
 (bif (decide (s2.1 < (f.Core.length:Int))) then
  (at? f.Core s2.1).bind fun x1 =>
  (Z2i x1).bind fun x2 =>
  (app? 24 s2.2 [x2]).bind fun x3 =>
  some (.inl ((w64 (s2.1 + 1)),x3))
 else
  some (.inr s2.2))
def Zb.s1 (f:Form) (s4:Int × (List Granule)):Option ((Int × (List Granule)) ⊕ ((List Granule))) :=
 (bif (decide (s4.1 < (f.Odd.length:Int))) then
  (at? f.Odd s4.1).bind fun x4 =>
  (Z2i x4.Ticks).bind fun x5 =>
  (app? 32 s4.2 [(Granule.mk x4.Index x5)]).bind fun x6 =>
  some (.inl ((w64 (s4.1 + 1)),x6))
 else
  some (.inr s4.2))
def Zb (f:Form):Option (Form) :=
 (loopO (Zb.s0 f) (0,[])).bind fun (y1:(List (List Span))) =>
 (loopO (Zb.s1 f) (0,[])).bind fun (y2:(List Granule)) =>
 some (Form.mk f.Period f.Count y1 y2)
def Z4t.s0 (f:Form) (s1:Int):Option ((Int) ⊕ (Jx (Unit) (Bool))) :=
 (bif (decide (s1 < (f.Core.length:Int))) then
  (at? f.Core s1).bind fun x1 =>
  (bif (decide ((x1.length:Int) > 0)) then
   some (.inr (.ret false))
  else
   some (.inl (w64 (s1 + 1))))
 else
  some (.inr (.go ())))
def Z4t (f:Form):Option (Bool) :=
 (loopO (Z4t.s0 f) 0).bind fun (y1:Jx (Unit) (Bool)) =>
 y1.elim (fun r' =>
   some r') fun a2 =>
 some true
def Z1C (a:Int) (b:Int):Option (Int × Int) :=
 (nz? b).bind fun u1 =>
 (nz? b).bind fun u2 =>
 (
  (bif (decide ((a.tmod b) < 0)) then
   some ((w64 ((w64 (a.tdiv b)) - 1)),(w64 ((a.tmod b) + b)))
  else
   some ((w64 (a.tdiv b)),(a.tmod b)))).bind fun (y1:Int × Int) =>
 some (y1.1,y1.2)
def Z5M (f:Form) (i:Int):Option ((List Span) × Int) :=
 (Z1C i f.Count).bind fun x1 =>
 (at? f.Core x1.2).bind fun x2 =>
 some (x2,(w64 (x1.1 * f.Period)))
def Z3V.s0 (a:(List Span)) (x':Int) (b:(List Span)) (y:Int) (s1:Int):Option ((Int) ⊕ (Jx (Unit) (Bool))) :=
 (bif (decide (s1 < (a.length:Int))) then
  (at? a s1).bind fun x1 =>
  (at? b s1).bind fun x2 =>
  (
   (bif ((w64 (x1.From + x')) != (w64 (x2.From + y))) then
    some true
   else
    (at? a s1).bind fun x3 =>
    (at? b s1).bind fun x4 =>
    some ((w64 (x3.To + x')) != (w64 (x4.To + y))))).bind fun (y2:Bool) =>
  (bif y2 then
   some (.inr (.ret false))
  else
   some (.inl (w64 (s1 + 1))))
 else
  some (.inr (.go ())))
def Z3V (a:(List Span)) (x':Int) (b:(List Span)) (y:Int):Option (Bool) :=
 (bif ((a.length:Int) != (b.length:Int)) then
  some false
 else
  (loopO (Z3V.s0 a x' b y) 0).bind fun (y1:Jx (Unit) (Bool)) =>
  y1.elim (fun r' =>
    some r') fun a2 =>
  some true)
def Z4H.s0 (f:Form) (d:Int) (s1:Int):Option ((Int) ⊕ (Jx (Unit) (Bool))) :=
 (bif (decide (s1 < f.Count)) then
  (Z5M f s1).bind fun x1 =>
  (Z5M f (w64 (s1 + d))).bind fun x2 =>
  (nz? f.Count).bind fun u3 =>
  (Z3V x1.1 (w64 (x1.2 + (w64 ((w64 (f.Period * d)).tdiv f.Count)))) x2.1 x2.2).bind fun x3 =>
  (bif (!x3) then
   some (.inr (.ret false))
  else
   some (.inl (w64 (s1 + 1))))
 else
  some (.inr (.go ())))
def Z4H (f:Form) (d:Int):Option (Bool) :=
 (nz? d).bind fun u1 =>
 (
  (bif ((f.Count.tmod d) != 0) then
   some true
  else
   (nz? f.Count).bind fun u2 =>
   some (((w64 (f.Period * d)).tmod f.Count) != 0))).bind fun (y1:Bool) =>
 (bif y1 then
  some false
 else
  (loopO (Z4H.s0 f d) 0).bind fun (y2:Jx (Unit) (Bool)) =>
  y2.elim (fun r' =>
    some r') fun a2 =>
  some true)
def Z1Z.s0 (f:Form) (s1:Int):Option ((Int) ⊕ (Int)) :=
 (Z4H f s1).bind fun x2 =>
 (bif (!x2) then
  some (.inl (w64 (s1 + 1)))
 else
  some (.inr s1))
def Z1Z.s1 (f:Form) (y2:Int) (s2:Int × (List (List Span))):Option ((Int × (List (List Span))) ⊕ ((List (List Span)) × Int)) :=
 (bif (decide (s2.1 < y2)) then
  (at? f.Core s2.1).bind fun x3 =>
  (app? 16 [] x3).bind fun x4 =>
  (app? 24 s2.2 [x4]).bind fun x5 =>
  some (.inl ((w64 (s2.1 + 1)),x5))
 else
  some (.inr (s2.2,(w64 ((w64 (f.Period * y2)).tdiv f.Count)))))
def Z1Z.s2 (f:Form) (y1:(List (List Span)) × Int × Int) (s3:Int × (List Granule)):Option ((Int × (List Granule)) ⊕ ((List Granule))) :=
 (bif (decide (s3.1 < (f.Odd.length:Int))) then
  (
   (
    (
     (bif (decide (y1.2.2 > 0)) then
      (at? f.Odd s3.1).bind fun x6 =>
      (Z5M (Form.mk y1.2.1 y1.2.2 y1.1 []) x6.Index).bind fun x7 =>
      some (x7.1,x7.2)
     else
      some ([],0))).bind fun (y7:(List Span) × Int) =>
    (at? f.Odd s3.1).bind fun x8 =>
    (Z3V y7.1 y7.2 x8.Ticks 0).bind fun x9 =>
    (bif (!x9) then
     (at? f.Odd s3.1).bind fun x10 =>
     (at? f.Odd s3.1).bind fun x11 =>
     (app? 16 [] x11.Ticks).bind fun x12 =>
     (app? 32 s3.2 [(Granule.mk x10.Index x12)]).bind fun x13 =>
     some x13
    else
     some s3.2)).bind fun (y6:(List Granule)) =>
   some y6).bind fun (y5:(List Granule)) =>
  some (.inl ((w64 (s3.1 + 1)),y5))
 else
  some (.inr s3.2))
def Z1Z (f:Form):Option (Form) :=
 (
  (Z4t f).bind fun x1 =>
  (bif (!x1) then
   (loopO (Z1Z.s0 f) 1).bind fun (y2:Int) =>
   (nz? f.Count).bind fun u1 =>
   (loopO (Z1Z.s1 f y2) (0,[])).bind fun (y3:(List (List Span)) × Int) =>
   some (y3.1,y3.2,y2)
  else
   some ([],0,0))).bind fun (y1:(List (List Span)) × Int × Int) =>
 (loopO (Z1Z.s2 f y1) (0,[])).bind fun (y4:(List Granule)) =>
 some (Form.mk y1.2.1 y1.2.2 y1.1 y4)
def epactlaw06_CanonTells (f:Form):Option (Bool) :=
 (Z3E f).bind fun x1 =>
 (bif (!x1) then
  some Z1O
 else
  (Zb f).bind fun x2 =>
  (Zi x2).bind fun x3 =>
  (Z1Z f).bind fun x4 =>
  (ZO x3 x4).bind fun x5 =>
  (
   (bif x5 then
    (canon_Is x2).bind fun x6 =>
    (ZO f x4).bind fun x7 =>
    some (x6 == x7)
   else
    some false)).bind fun (y1:Bool) =>
  (
   (bif y1 then
    (ZO x2 f).bind fun x8 =>
    some x8
   else
    some false)).bind fun (y2:Bool) =>
  some (y2 && Z1O))
def Z6e (f:Form):Option (Bool) :=
 (Z0d f).bind fun x1 =>
 (
  (bif x1 then
   (Zz f).bind fun x2 =>
   some (x2 == 0)
  else
   some false)).bind fun (y1:Bool) =>
 some y1
def Z1K:Bool:=true
def Z1r (a:Bound):Bool :=
 ((a.Inf == 0) || (((a.Inf == 1) || (a.Inf == (-1))) && (a.N == 0)))
def Z0r (k:Int):Bool :=
 ((decide (k ≥ (-1099511627776))) && (decide (k≤1099511627776)))
def Z09 (l:(List Span)):Option (Span × Bool) :=
 (bif ((l.length:Int) == 0) then
  some ((Span.mk 0 0),false)
 else
  (at? l 0).bind fun x1 =>
  (at? l (w64 ((l.length:Int) - 1))).bind fun x2 =>
  some ((Span.mk x1.From x2.To),true))
def Z1M.s0 (x1:Form) (s2:Int × (List size_spot)):Option ((Int × (List size_spot)) ⊕ ((List size_spot))) :=
 (bif (decide (s2.1 < (x1.Core.length:Int))) then
  (
   (
    (at? x1.Core s2.1).bind fun x2 =>
    (Z09 x2).bind fun x3 =>
    (bif x3.2 then
     (app? 24 s2.2 [(size_spot.mk s2.1 (size_place.mk x3.1.From x3.1.To))]).bind fun x4 =>
     some x4
    else
     some s2.2)).bind fun (y3:(List size_spot)) =>
   some y3).bind fun (y2:(List size_spot)) =>
  some (.inl ((w64 (s2.1 + 1)),y2))
 else
  some (.inr s2.2))
def Z1M (f:Form):Option (size_form) :=
 (Zi f).bind fun x1 =>
 (loopO (Z1M.s0 x1) (0,[])).bind fun (y1:(List size_spot)) =>
 some (size_form.mk x1 y1)
def Z0V.s0 (f:Int→Option Bool) (s1:Int × Int):Option ((Int × Int) ⊕ (Int)) :=
 (bif (decide (s1.1 < s1.2)) then
  (
   (f (w64 ((IntKind.u64.wrap (w64 (s1.1 + s1.2))).fdiv (2 ^ 1)))).bind fun x1 =>
   (bif (!x1) then
    some ((w64 ((w64 ((IntKind.u64.wrap (w64 (s1.1 + s1.2))).fdiv (2 ^ 1))) + 1)),s1.2)
   else
    some (s1.1,(w64 ((IntKind.u64.wrap (w64 (s1.1 + s1.2))).fdiv (2 ^ 1)))))).bind fun (y2:Int × Int) =>
  some (.inl (y2.1,y2.2))
 else
  some (.inr s1.1))
def Z0V (n:Int) (f:Int→Option Bool):Option (Int) :=
 (loopO (Z0V.s0 f) (0,n)).bind fun (y1:Int) =>
 some y1
def Z1p (n:Int) (p1':size_form) (p2':Int) (p3':Int):Option (Bool) :=
 (at? p1'.spots n).bind fun x1 =>
 some (decide ((w64 (x1.place.last - (w64 (p2' * p1'.Form.Period)))) ≥ p3'))
def Z1o (n:Int) (p1':size_form) (p2':Int) (p3':Int):Option (Bool) :=
 (at? p1'.spots n).bind fun x1 =>
 some (decide ((w64 (x1.place.first + (w64 (p2' * p1'.Form.Period)))) > p3'))
def Z0I (f:size_form) (t:Int) (up:Bool):Option (Int) :=
 (bif up then
  (at? f.spots (w64 ((f.spots.length:Int) - 1))).bind fun x1 =>
  (Z0P (w64 (x1.place.last - t)) f.Form.Period).bind fun x2 =>
  (Z0V (f.spots.length:Int) (fun z0 => Z1p z0 f x2.1 t)).bind fun x3 =>
  (at? f.spots x3).bind fun x4 =>
  some (w64 (x4.index - (w64 (x2.1 * f.Form.Count))))
 else
  (at? f.spots 0).bind fun x5 =>
  (Z0P (w64 (t - x5.place.first)) f.Form.Period).bind fun x6 =>
  (Z0V (f.spots.length:Int) (fun z0 => Z1o z0 f x6.1 t)).bind fun x7 =>
  (at? f.spots (w64 (x7 - 1))).bind fun x8 =>
  some (w64 (x8.index + (w64 (x6.1 * f.Form.Count)))))
def Z1z (g:Granule) (i:Int):Int :=
 (Z20 g.Index i)
def Z1Q (f:size_form) (i:Int):Option (Int) :=
 (Z2 f.Form.Odd i (fun z0 z1 => some (Z1z z0 z1))).bind fun x1 =>
 (bif (!x1.2) then
  some (-1)
 else
  some x1.1)
def Z2h (f:size_form) (i:Int):Option (Bool) :=
 (Z0P i f.Form.Count).bind fun x1 =>
 (at? f.Form.Core x1.2.1).bind fun x2 =>
 some (decide ((x2.length:Int) > 0))
def Z5.s0 (f:size_form) (y1:Int) (s1:Int):Option ((Int) ⊕ (Int)) :=
 (Z1Q f s1).bind fun x2 =>
 (
  (bif (decide (x2 ≥ 0)) then
   some true
  else
   (Z2h f s1).bind fun x3 =>
   some (!x3))).bind fun (y4:Bool) =>
 (bif y4 then
  some (.inl (w64 (s1 + y1)))
 else
  some (.inr s1))
def Z5.s1 (s2:Int × Int × (List Int) × Int × Bool):Option ((Int × Int × (List Int) × Int × Bool) ⊕ ((List Int) × Int × Bool)) :=
 (bif (decide (s2.2.1 < s2.1)) then
  (
   (
    (at? s2.2.2.1 s2.2.1).bind fun x4 =>
    (bif ((!s2.2.2.2.2) || (decide (x4 > s2.2.2.2.1))) then
     some (x4,true)
    else
     some (s2.2.2.2.1,s2.2.2.2.2))).bind fun (y8:Int × Bool) =>
   some (y8.1,y8.2)).bind fun (y7:Int × Bool) =>
  some (.inl (s2.1,(w64 (s2.2.1 + 1)),s2.2.2.1,y7.1,y7.2))
 else
  some (.inr (s2.2.2.1,s2.2.2.2.1,s2.2.2.2.2)))
def Z5.s3 (s4:Int × Int × (List Int) × Int × Bool):Option ((Int × Int × (List Int) × Int × Bool) ⊕ ((List Int) × Int × Bool)) :=
 (bif (decide (s4.2.1 < s4.1)) then
  (
   (
    (at? s4.2.2.1 s4.2.1).bind fun x7 =>
    (bif ((!s4.2.2.2.2) || (decide (x7 > s4.2.2.2.1))) then
     some (x7,true)
    else
     some (s4.2.2.2.1,s4.2.2.2.2))).bind fun (y15:Int × Bool) =>
   some (y15.1,y15.2)).bind fun (y14:Int × Bool) =>
  some (.inl (s4.1,(w64 (s4.2.1 + 1)),s4.2.2.1,y14.1,y14.2))
 else
  some (.inr (s4.2.2.1,s4.2.2.2.1,s4.2.2.2.2)))
def Z5.s2 (f:size_form) (t:Int) (up:Bool) (y1:Int) (s3:Int × Int × Bool):Option ((Int × Int × Bool) ⊕ (Int × Bool)) :=
 (bif (decide (s3.1 < (f.Form.Odd.length:Int))) then
  (
   (
    (at? f.Form.Odd s3.1).bind fun x5 =>
    (Z09 x5.Ticks).bind fun x6 =>
    (bif (x6.2 && ((up && (decide (x6.1.To ≥ t))) || ((!up) && (decide (x6.1.From≤t))))) then
     (
      (loopO (Z5.s3) (([(w64 ((w64 (0 - y1)) * x5.Index))].length:Int),0,[(w64 ((w64 (0 - y1)) * x5.Index))],s3.2.1,s3.2.2)).bind fun (y13:(List Int) × Int × Bool) =>
      some (y13.1,y13.2.1,y13.2.2)).bind fun (y12:(List Int) × Int × Bool) =>
     some (y12.2.1,y12.2.2)
    else
     some (s3.2.1,s3.2.2))).bind fun (y11:Int × Bool) =>
   some (y11.1,y11.2)).bind fun (y10:Int × Bool) =>
  some (.inl ((w64 (s3.1 + 1)),y10.1,y10.2))
 else
  some (.inr (s3.2.1,s3.2.2)))
def Z5 (f:size_form) (t:Int) (up:Bool):Option (Int × Bool) :=
 (
  (bif up then
   some 1
  else
   some (-1))).bind fun (y1:Int) =>
 (
  (bif (decide (f.Form.Count > 0)) then
   (Z0I f t up).bind fun x1 =>
   (loopO (Z5.s0 f y1) x1).bind fun (y3:Int) =>
   (
    (loopO (Z5.s1) (([(w64 ((w64 (0 - y1)) * y3))].length:Int),0,[(w64 ((w64 (0 - y1)) * y3))],0,false)).bind fun (y6:(List Int) × Int × Bool) =>
    some (y6.1,y6.2.1,y6.2.2)).bind fun (y5:(List Int) × Int × Bool) =>
   some (y5.2.1,y5.2.2)
  else
   some (0,false))).bind fun (y2:Int × Bool) =>
 (loopO (Z5.s2 f t up y1) (0,y2.1,y2.2)).bind fun (y9:Int × Bool) =>
 some ((w64 ((w64 (0 - y1)) * y9.1)),y9.2)
def ZQ.s1 (s2:Int × Int × (List Int) × Int × Bool):Option ((Int × Int × (List Int) × Int × Bool) ⊕ ((List Int) × Int × Bool)) :=
 (bif (decide (s2.2.1 < s2.1)) then
  (
   (
    (at? s2.2.2.1 s2.2.1).bind fun x4 =>
    (bif ((!s2.2.2.2.2) || (decide (x4 > s2.2.2.2.1))) then
     some (x4,true)
    else
     some (s2.2.2.2.1,s2.2.2.2.2))).bind fun (y9:Int × Bool) =>
   some (y9.1,y9.2)).bind fun (y8:Int × Bool) =>
  some (.inl (s2.1,(w64 (s2.2.1 + 1)),s2.2.2.1,y8.1,y8.2))
 else
  some (.inr (s2.2.2.1,s2.2.2.2.1,s2.2.2.2.2)))
def ZQ.s0 (d:Int) (up:Bool) (x1:size_form) (y1:Int) (s1:Int × Int × Bool):Option ((Int × Int × Bool) ⊕ (Int × Bool)) :=
 (bif (decide (s1.1 < (x1.spots.length:Int))) then
  (
   (
    (at? x1.spots s1.1).bind fun x2 =>
    (
     (bif up then
      some x2.place.first
     else
      some x2.place.last)).bind fun (y5:Int) =>
    (Z0I x1 (w64 (y5 + d)) up).bind fun x3 =>
    (
     (loopO (ZQ.s1) (([(w64 (y1 * (w64 (x3 - x2.index))))].length:Int),0,[(w64 (y1 * (w64 (x3 - x2.index))))],s1.2.1,s1.2.2)).bind fun (y7:(List Int) × Int × Bool) =>
     some (y7.1,y7.2.1,y7.2.2)).bind fun (y6:(List Int) × Int × Bool) =>
    some (y6.2.1,y6.2.2)).bind fun (y4:Int × Bool) =>
   some (y4.1,y4.2)).bind fun (y3:Int × Bool) =>
  some (.inl ((w64 (s1.1 + 1)),y3.1,y3.2))
 else
  some (.inr (s1.2.1,s1.2.2)))
def ZQ.s3 (s4:Int × Int × (List Int) × Int × Bool):Option ((Int × Int × (List Int) × Int × Bool) ⊕ ((List Int) × Int × Bool)) :=
 (bif (decide (s4.2.1 < s4.1)) then
  (
   (
    (at? s4.2.2.1 s4.2.1).bind fun x8 =>
    (bif ((!s4.2.2.2.2) || (decide (x8 > s4.2.2.2.1))) then
     some (x8,true)
    else
     some (s4.2.2.2.1,s4.2.2.2.2))).bind fun (y18:Int × Bool) =>
   some (y18.1,y18.2)).bind fun (y17:Int × Bool) =>
  some (.inl (s4.1,(w64 (s4.2.1 + 1)),s4.2.2.1,y17.1,y17.2))
 else
  some (.inr (s4.2.2.1,s4.2.2.2.1,s4.2.2.2.2)))
def ZQ.s4 (s5:Int × Int × (List Int) × Int × Bool):Option ((Int × Int × (List Int) × Int × Bool) ⊕ ((List Int) × Int × Bool)) :=
 (bif (decide (s5.2.1 < s5.1)) then
  (
   (
    (at? s5.2.2.1 s5.2.1).bind fun x10 =>
    (bif ((!s5.2.2.2.2) || (decide (x10 > s5.2.2.2.1))) then
     some (x10,true)
    else
     some (s5.2.2.2.1,s5.2.2.2.2))).bind fun (y22:Int × Bool) =>
   some (y22.1,y22.2)).bind fun (y21:Int × Bool) =>
  some (.inl (s5.1,(w64 (s5.2.1 + 1)),s5.2.2.1,y21.1,y21.2))
 else
  some (.inr (s5.2.2.1,s5.2.2.2.1,s5.2.2.2.2)))
def ZQ.s2 (d:Int) (up:Bool) (x1:size_form) (y1:Int) (s3:Int × Int × Bool):Option ((Int × Int × Bool) ⊕ (Int × Bool)) :=
 (bif (decide (s3.1 < (x1.Form.Odd.length:Int))) then
  (
   (
    (at? x1.Form.Odd s3.1).bind fun x5 =>
    (Z09 x5.Ticks).bind fun x6 =>
    (bif (!x6.2) then
     some (.ret ())
    else
     (
      (bif up then
       some (x6.1.To,x6.1.From)
      else
       some (x6.1.From,x6.1.To))).bind fun (y13:Int × Int) =>
     (
      (Z5 x1 (w64 (y13.2 + d)) up).bind fun x7 =>
      (bif x7.2 then
       (
        (loopO (ZQ.s3) (([(w64 (y1 * (w64 (x7.1 - x5.Index))))].length:Int),0,[(w64 (y1 * (w64 (x7.1 - x5.Index))))],s3.2.1,s3.2.2)).bind fun (y16:(List Int) × Int × Bool) =>
        some (y16.1,y16.2.1,y16.2.2)).bind fun (y15:(List Int) × Int × Bool) =>
       some (y15.2.1,y15.2.2)
      else
       some (s3.2.1,s3.2.2))).bind fun (y14:Int × Bool) =>
     (Z5 x1 (w64 (y13.1 - d)) (!up)).bind fun x9 =>
     (bif x9.2 then
      (
       (loopO (ZQ.s4) (([(w64 (y1 * (w64 (x5.Index - x9.1))))].length:Int),0,[(w64 (y1 * (w64 (x5.Index - x9.1))))],y14.1,y14.2)).bind fun (y20:(List Int) × Int × Bool) =>
       some (y20.1,y20.2.1,y20.2.2)).bind fun (y19:(List Int) × Int × Bool) =>
      some (.go (y19.2.1,y19.2.2))
     else
      some (.go (y14.1,y14.2))))).bind fun (y12:Jx (Int × Bool) (Unit)) =>
   y12.elim (fun a4 =>
     some (s3.2.1,s3.2.2)) fun a3 =>
   some (a3.1,a3.2)).bind fun (y11:Int × Bool) =>
  some (.inl ((w64 (s3.1 + 1)),y11.1,y11.2))
 else
  some (.inr (s3.2.1,s3.2.2)))
def ZQ (g:Form) (d:Int) (up:Bool):Option (Int × Bool × Int) :=
 (bif (!(Z0r d)) then
  some (0,false,2)
 else
  (Z1M g).bind fun x1 =>
  (
   (bif up then
    some (-1)
   else
    some 1)).bind fun (y1:Int) =>
  (loopO (ZQ.s0 d up x1 y1) (0,0,false)).bind fun (y2:Int × Bool) =>
  (loopO (ZQ.s2 d up x1 y1) (0,y2.1,y2.2)).bind fun (y10:Int × Bool) =>
  some ((w64 (y1 * y10.1)),y10.2,0))
def Z18 (f:Form) (d:Int):Option (Int × Bool × Int) :=
 (ZQ f d false).bind fun x1 =>
 some (x1.1,x1.2.1,x1.2.2)
def Z2n (f:Form) (d:Int):Option (Int × Bool × Int) :=
 (ZQ f d true).bind fun x1 =>
 some (x1.1,x1.2.1,x1.2.2)
def Z63 (f:Form) (low:Bound) (high:Bound):Option (Range × Bool × Int) :=
 (bif ((((!(Z1r low)) || (!(Z1r high))) || (low.Inf == 1)) || (high.Inf == (-1))) then
  some ((Range.mk 0 0 false false),false,2)
 else
  (
   (bif ((high.Inf == 0) && (decide (high.N≤1099511627776))) then
    (Z18 f (iMax high.N (-1099511627776))).bind fun x1 =>
    (bif (!x1.2.1) then
     some (.ret ((Range.mk 0 0 false false),false,0))
    else
     some (.go (x1.1,true)))
   else
    some (.go (0,false)))).bind fun (y1:Jx (Int × Bool) (Range × Bool × Int)) =>
  y1.elim (fun r' =>
    some r') fun a2 =>
  (
   (bif ((low.Inf == 0) && (decide (low.N ≥ (-1099511627776)))) then
    (Z2n f (iMin low.N 1099511627776)).bind fun x2 =>
    (bif (!x2.2.1) then
     some (.ret ((Range.mk 0 0 false false),false,0))
    else
     some (.go (x2.1,true)))
   else
    some (.go (0,false)))).bind fun (y2:Jx (Int × Bool) (Range × Bool × Int)) =>
  y2.elim (fun r' =>
    some r') fun a4 =>
  some ((Range.mk a4.1 a2.1 a4.2 a2.2),true,0))
def epactlaw25_CarryArgs (f:Form) (low:Bound) (high:Bound):Option (Bool) :=
 (Z6e f).bind fun x1 =>
 (bif (!x1) then
  some Z1K
 else
  (Z63 f low high).bind fun x2 =>
  (bif ((((!(Z1r low)) || (!(Z1r high))) || (low.Inf == 1)) || (high.Inf == (-1))) then
   some ((((x2.2.2 == 2) && (!x2.2.1)) && ((x2.1.Low == 0) && ((x2.1.High == 0) && ((x2.1.HasLow == false) && ((x2.1.HasHigh == false) && true))))) && Z1K)
  else
   (bif (((x2.2.2 != 0) || ((low.Inf == (-1)) && x2.1.HasLow)) || ((high.Inf == 1) && x2.1.HasHigh)) then
    some false
   else
    (Z63 f (Bound.mk (-1) 0) (Bound.mk 1 0)).bind fun x3 =>
    some ((((x3.2.2 == 0) && x3.2.1) && ((x3.1.Low == 0) && ((x3.1.High == 0) && ((x3.1.HasLow == false) && ((x3.1.HasHigh == false) && true))))) && Z1K))))
def Z8U (a:carry_asked) (gap:Int):Option (Bool) :=
 (Z18 a.f (w64 (gap - 1099511627776))).bind fun x1 =>
 some ((x1.2.1 && (x1.2.2 == 0)) && (decide (x1.1 ≥ a.m)))
def Z6S (f:Form) (m:Int):Option (Bound) :=
 (Z0V 2199023255553 (fun z0 => Z8U (carry_asked.mk f (iMin (iMax m (-4611686018427387904)) 4611686018427387904)) z0)).bind fun x1 =>
 (bif ((w64 ((iMin x1 2199023255552) - 1099511627776)) == (-1099511627776)) then
  some (Bound.mk (-1) 0)
 else
  some (Bound.mk 0 (w64 ((iMin x1 2199023255552) - 1099511627776))))
def Z2r (a:Int) (b:Int):Int × Int :=
 (bif (((decide ((w64 (a - b)) < a)) != (decide (b > 0))) && (b != 0)) then
  (0,10)
 else
  ((w64 (a - b)),0))
def safe_Minus (a:Bound):Bound × Int :=
 (bif (!(Z1r a)) then
  ((Bound.mk 0 0),2)
 else
  (bif (((Z2r 0 a.N).2) != 0) then
   ((Bound.mk 0 0),(Z2r 0 a.N).2)
  else
   ((Bound.mk (IntKind.i8.wrap (0 - a.Inf)) ((Z2r 0 a.N).1)),0)))
def Z7B (f:Form) (n:Int):Option (Bound) :=
 (Z6S f (w64 (0 - (iMax n (-4611686018427387904))))).bind fun x1 =>
 some ((safe_Minus x1).1)
def safe_Less (a:Bound) (b:Bound):Bool :=
 (bif ((!(Z1r a)) || (!(Z1r b))) then
  false
 else
  (bif (a.Inf != b.Inf) then
   (decide (a.Inf < b.Inf))
  else
   (decide (a.N < b.N))))
def Z4B.s0 (x2:Bound) (x3:Bound) (x4:Bound) (x5:Bound) (s1:Int):Option ((Int) ⊕ (Jx (Unit) (Bool))) :=
 (bif (decide (s1 < ([x2,x3,x4,x5].length:Int))) then
  (at? [x2,x3,x4,x5] s1).bind fun x6 =>
  (bif (((!(Z1r x6)) || (decide (x6.N > 1099511627776))) || (decide (x6.N < (-1099511627776)))) then
   some (.inr (.ret false))
  else
   some (.inl (w64 (s1 + 1))))
 else
  some (.inr (.go ())))
def Z4B (f:Form) (m:Int) (n:Int) (low:Int) (high:Int) (wide:Int):Option (Bool) :=
 (Z6e f).bind fun x1 =>
 (bif (!x1) then
  some Z1K
 else
  (Z6S f (iMin m n)).bind fun x2 =>
  (Z6S f (iMax m n)).bind fun x3 =>
  (Z7B f (iMin m n)).bind fun x4 =>
  (Z7B f (iMax m n)).bind fun x5 =>
  (loopO (Z4B.s0 x2 x3 x4 x5) 0).bind fun (y1:Jx (Unit) (Bool)) =>
  y1.elim (fun r' =>
    some r') fun a2 =>
  (bif ((((safe_Less x3 x2) || (safe_Less x5 x4)) || (x2.Inf == 1)) || (x4.Inf == (-1))) then
   some false
  else
   (Z63 f (Bound.mk 0 (low.tmod 4398046511104)) (Bound.mk 0 (high.tmod 4398046511104))).bind fun x7 =>
   (Z63 f (Bound.mk 0 (w64 ((low.tmod 4398046511104) - (iAnd .i64 wide 65535)))) (Bound.mk 0 (w64 ((high.tmod 4398046511104) + (iAnd .i64 wide 65535))))).bind fun x8 =>
   (bif (((((x7.2.2 != 0) || (x8.2.2 != 0)) || ((!x7.1.HasLow) && (x7.1.Low != 0))) || ((!x7.1.HasHigh) && (x7.1.High != 0))) || ((!x7.2.1) && (!((x7.1.Low == 0) && ((x7.1.High == 0) && ((x7.1.HasLow == false) && ((x7.1.HasHigh == false) && true))))))) then
    some false
   else
    (bif (((x7.2.1 && (!x8.2.1)) && (decide ((high.tmod 4398046511104) ≥ (-1099511627776)))) && (decide ((low.tmod 4398046511104)≤1099511627776))) then
     some false
    else
     (bif ((x7.2.1 && x8.2.1) && ((x8.1.HasLow && ((!x7.1.HasLow) || (decide (x8.1.Low > x7.1.Low)))) || (x8.1.HasHigh && ((!x7.1.HasHigh) || (decide (x8.1.High < x7.1.High)))))) then
      some false
     else
      some Z1K)))))
def Z2c.s0 (f:Form) (s1:Int):Option ((Int) ⊕ (Jx (Unit) (Bool))) :=
 (bif (decide (s1 < (f.Core.length:Int))) then
  (at? f.Core s1).bind fun x3 =>
  (Z09 x3).bind fun x4 =>
  (bif (x4.2 && ((decide (x4.1.From < (-100))) || (decide (x4.1.To > 100)))) then
   some (.inr (.ret false))
  else
   some (.inl (w64 (s1 + 1))))
 else
  some (.inr (.go ())))
def Z2c.s1 (f:Form) (s2:Int):Option ((Int) ⊕ (Jx (Unit) (Bool))) :=
 (bif (decide (s2 < (f.Odd.length:Int))) then
  (at? f.Odd s2).bind fun x5 =>
  (bif ((decide (x5.Index < (-100))) || (decide (x5.Index > 100))) then
   some (.inr (.ret false))
  else
   some (.inl (w64 (s2 + 1))))
 else
  some (.inr (.go ())))
def Z2c (f:Form):Option (Bool) :=
 (Z0d f).bind fun x1 =>
 (
  (bif (!x1) then
   some true
  else
   (Zz f).bind fun x2 =>
   some (x2 != 0))).bind fun (y1:Bool) =>
 (bif (y1 || (decide (f.Period > 200))) then
  some false
 else
  (loopO (Z2c.s0 f) 0).bind fun (y2:Jx (Unit) (Bool)) =>
  y2.elim (fun r' =>
    some r') fun a2 =>
  (loopO (Z2c.s1 f) 0).bind fun (y3:Jx (Unit) (Bool)) =>
  y3.elim (fun r' =>
    some r') fun a4 =>
  some true)
def Z0S.s0 (f:Form) (i:Int) (s1:Int):Option ((Int) ⊕ (Jx (Unit) ((List Span) × Int))) :=
 (bif (decide (s1 < (f.Odd.length:Int))) then
  (at? f.Odd s1).bind fun x1 =>
  (bif (x1.Index == i) then
   (at? f.Odd s1).bind fun x2 =>
   some (.inr (.ret (x2.Ticks,0)))
  else
   some (.inl (w64 (s1 + 1))))
 else
  some (.inr (.go ())))
def Z0S (f:Form) (i:Int):Option ((List Span) × Int) :=
 (loopO (Z0S.s0 f i) 0).bind fun (y1:Jx (Unit) ((List Span) × Int)) =>
 y1.elim (fun r' =>
   some r') fun a2 =>
 (bif (f.Count == 0) then
  some ([],0)
 else
  (Z1C i f.Count).bind fun x3 =>
  (at? f.Core x3.2).bind fun x4 =>
  some (x4,x3.1))
def Z0b.s0 (l:(List Span)) (by':Int) (s2:Int × (List Span)):Option ((Int × (List Span)) ⊕ (Jx ((List Span)) ((List Span) × Int))) :=
 (bif (decide (s2.1 < (l.length:Int))) then
  (at? l s2.1).bind fun x1 =>
  (
   (bif (decide (by' > (w64 (1099511627776 - x1.To)))) then
    some true
   else
    (at? l s2.1).bind fun x2 =>
    some (decide (by' < (w64 ((-1099511627776) - x2.From)))))).bind fun (y2:Bool) =>
  (bif y2 then
   some (.inr (.ret ([],20)))
  else
   (at? l s2.1).bind fun x3 =>
   (at? l s2.1).bind fun x4 =>
   (app? 16 s2.2 [(Span.mk (w64 (x3.From + by')) (w64 (x4.To + by')))]).bind fun x5 =>
   some (.inl ((w64 (s2.1 + 1)),x5)))
 else
  some (.inr (.go s2.2)))
def Z0b (l:(List Span)) (by':Int):Option ((List Span) × Int) :=
 (loopO (Z0b.s0 l by') (0,[])).bind fun (y1:Jx ((List Span)) ((List Span) × Int)) =>
 y1.elim (fun r' =>
   some r') fun a2 =>
 some (a2,0)
def Z1U (f:Form) (i:Int):Option ((List Span) × Int) :=
 (bif ((decide (i < (-1099511627776))) || (decide (i > 1099511627776))) then
  some ([],20)
 else
  (Z0S f i).bind fun x1 =>
  (bif (((x1.1.length:Int) == 0) || (x1.2 == 0)) then
   (app? 16 [] x1.1).bind fun x2 =>
   some (x2,0)
  else
   (nz? f.Period).bind fun u1 =>
   (
    (bif (decide (x1.2 > (w64 ((w64 ((2199023255552:Int).tdiv f.Period)) + 1)))) then
     some true
    else
     (nz? f.Period).bind fun u2 =>
     some (decide (x1.2 < (w64 ((w64 ((-2199023255552).tdiv f.Period)) - 1)))))).bind fun (y1:Bool) =>
   (bif y1 then
    some ([],20)
   else
    (Z0b x1.1 (w64 (x1.2 * f.Period))).bind fun x3 =>
    some (x3.1,x3.2))))
def Z3y.s0 (f:Form) (to':Int) (s1:Int):Option ((Int) ⊕ (Jx (Unit) ((List Span) × Bool))) :=
 (bif (decide (s1≤to')) then
  (Z1U f s1).bind fun x1 =>
  (bif ((x1.2 == 0) && (decide ((x1.1.length:Int) > 0))) then
   some (.inr (.ret (x1.1,true)))
  else
   some (.inl (w64 (s1 + 1))))
 else
  some (.inr (.go ())))
def Z3y (f:Form) (i:Int) (to':Int):Option ((List Span) × Bool) :=
 (loopO (Z3y.s0 f to') i).bind fun (y1:Jx (Unit) ((List Span) × Bool)) =>
 y1.elim (fun r' =>
   some r') fun a2 =>
 some ([],false)
def Z5G.s0 (f:Form) (m:Int) (s1:Int × Bool × Int):Option ((Int × Bool × Int) ⊕ (Int × Bool)) :=
 (bif (decide (s1.2.2≤600)) then
  (
   (
    (Z1U f s1.2.2).bind fun x1 =>
    (bif ((x1.2 != 0) || ((x1.1.length:Int) == 0)) then
     some (.ret ())
    else
     (Z3y f (w64 (s1.2.2 + m)) (iMax (w64 ((w64 (s1.2.2 + m)) + 30)) 130)).bind fun x2 =>
     (bif (!x2.2) then
      some (.ret ())
     else
      (at? x2.1 0).bind fun x3 =>
      (at? x1.1 (w64 ((x1.1.length:Int) - 1))).bind fun x4 =>
      (bif ((!s1.2.1) || (decide ((w64 (x3.From - x4.To)) < s1.1))) then
       some (.go ((w64 (x3.From - x4.To)),true))
      else
       some (.go (s1.1,s1.2.1)))))).bind fun (y3:Jx (Int × Bool) (Unit)) =>
   y3.elim (fun a4 =>
     some (s1.1,s1.2.1)) fun a3 =>
   some (a3.1,a3.2)).bind fun (y2:Int × Bool) =>
  some (.inl (y2.1,y2.2,(w64 (s1.2.2 + 1))))
 else
  some (.inr (s1.1,s1.2.1)))
def Z5G (f:Form) (m:Int):Option (Int × Bool) :=
 (loopO (Z5G.s0 f m) (0,false,(-600))).bind fun (y1:Int × Bool) =>
 some (y1.1,y1.2)
def Z5L (f:Form) (m:Int):Option (Bound) :=
 (Z5G f m).bind fun x1 =>
 (bif ((!x1.2) || (decide (x1.1 > 1099511627776))) then
  some (Bound.mk 0 1099511627776)
 else
  (bif (decide (x1.1≤(-1099511627776))) then
   some (Bound.mk (-1) 0)
  else
   some (Bound.mk 0 x1.1)))
def Z7R (f:Form) (n:Int):Option (Bound) :=
 (Z5L f (w64 (0 - n))).bind fun x1 =>
 some (Bound.mk (IntKind.i8.wrap (0 - x1.Inf)) (w64 (0 - x1.N)))
def carry_Ticks (f:Form) (r':Range):Option (Bound × Bound) :=
 (
  (bif r'.HasLow then
   (Z6S f r'.Low).bind fun x1 =>
   some (x1.Inf,x1.N)
  else
   some ((-1),0))).bind fun (y1:Int × Int) =>
 (
  (bif r'.HasHigh then
   (Z7B f r'.High).bind fun x2 =>
   some (x2.Inf,x2.N)
  else
   some (1,0))).bind fun (y2:Int × Int) =>
 some ((Bound.mk y1.1 y1.2),(Bound.mk y2.1 y2.2))
def epactlaw25_CarryTells (f:Form) (r':Range):Option (Bool) :=
 (Z2c f).bind fun x1 =>
 (bif (!x1) then
  some Z1K
 else
  (
   (bif r'.HasLow then
    (Z5L f (r'.Low.tmod 200)).bind fun x2 =>
    some (x2.Inf,x2.N)
   else
    some ((-1),0))).bind fun (y1:Int × Int) =>
  (
   (bif r'.HasHigh then
    (Z7R f (r'.High.tmod 200)).bind fun x3 =>
    some (x3.Inf,x3.N)
   else
    some (1,0))).bind fun (y2:Int × Int) =>
  (carry_Ticks f (Range.mk (r'.Low.tmod 200) (r'.High.tmod 200) r'.HasLow r'.HasHigh)).bind fun x4 =>
  (
   (bif (((x4.1.Inf == y1.1) && ((x4.1.N == y1.2) && true)) && ((x4.2.Inf == y2.1) && ((x4.2.N == y2.2) && true))) then
    (Z6S f (r'.Low.tmod 200)).bind fun x5 =>
    (Z5L f (r'.Low.tmod 200)).bind fun x6 =>
    some ((x5.Inf == x6.Inf) && ((x5.N == x6.N) && true))
   else
    some false)).bind fun (y3:Bool) =>
  (
   (bif y3 then
    (Z7B f (r'.High.tmod 200)).bind fun x7 =>
    (Z7R f (r'.High.tmod 200)).bind fun x8 =>
    some ((x7.Inf == x8.Inf) && ((x7.N == x8.N) && true))
   else
    some false)).bind fun (y4:Bool) =>
  some (y4 && Z1K))
def Z2N (f:Form):Option (Bool) :=
 (Z0d f).bind fun x1 =>
 (
  (bif x1 then
   (Zz f).bind fun x2 =>
   some (x2 == 0)
  else
   some false)).bind fun (y1:Bool) =>
 some y1
def Z3D:Bool:=true
def Zx (f:size_form) (i:Int):Option (size_place × Bool × Int) :=
 (bif (f.Form.Count == 0) then
  some ((size_place.mk 0 0),false,0)
 else
  (Z0P i f.Form.Count).bind fun x1 =>
  (at? f.Form.Core x1.2.1).bind fun x2 =>
  (Z09 x2).bind fun x3 =>
  (bif (!x3.2) then
   some ((size_place.mk 0 0),false,0)
  else
   (bif (((((ZL x1.1 f.Form.Period).2) != 0) || (((ZN x3.1.From ((ZL x1.1 f.Form.Period).1)).2) != 0)) || (((ZN x3.1.To ((ZL x1.1 f.Form.Period).1)).2) != 0)) then
    some ((size_place.mk 0 0),false,10)
   else
    some ((size_place.mk ((ZN x3.1.From ((ZL x1.1 f.Form.Period).1)).1) ((ZN x3.1.To ((ZL x1.1 f.Form.Period).1)).1)),true,0))))
def Z01 (f:size_form) (i:Int):Option (size_place × Bool × Int) :=
 (Z1Q f i).bind fun x1 =>
 (bif (decide (x1 ≥ 0)) then
  (at? f.Form.Odd x1).bind fun x2 =>
  (Z09 x2.Ticks).bind fun x3 =>
  some ((size_place.mk x3.1.From x3.1.To),x3.2,0)
 else
  (Zx f i).bind fun x4 =>
  some (x4.1,x4.2.1,x4.2.2))
def Z7.s1 (x3:Int × Int) (s2:Int × Int × Bool):Option ((Int × Int × Bool) ⊕ (Int × Bool)) :=
 (bif (decide (s2.1 < ([x3.1].length:Int))) then
  (
   (
    (at? [x3.1] s2.1).bind fun x4 =>
    (bif ((!s2.2.2) || (decide (x4 > s2.2.1))) then
     some (x4,true)
    else
     some (s2.2.1,s2.2.2))).bind fun (y7:Int × Bool) =>
   some (y7.1,y7.2)).bind fun (y6:Int × Bool) =>
  some (.inl ((w64 (s2.1 + 1)),y6.1,y6.2))
 else
  some (.inr (s2.2.1,s2.2.2)))
def Z7.s0 (f:size_form) (k:Int) (tell:size_place→size_place→Option (Int × Int)) (s1:Int × Int × Bool):Option ((Int × Int × Bool) ⊕ (Jx (Int × Bool) (Int × Bool × Int))) :=
 (bif (decide (s1.1 < f.Form.Count)) then
  (
   (Zx f s1.1).bind fun x1 =>
   (bif ((x1.2.2 != 0) || (!x1.2.1)) then
    some (x1.2.2,s1.2.1,s1.2.2)
   else
    (Zx f (w64 (s1.1 + k))).bind fun x2 =>
    (bif ((x2.2.2 != 0) || (!x2.2.1)) then
     some (x2.2.2,s1.2.1,s1.2.2)
    else
     (tell x1.1 x2.1).bind fun x3 =>
     (
      (bif (x3.2 == 0) then
       (
        (loopO (Z7.s1 x3) (0,s1.2.1,s1.2.2)).bind fun (y5:Int × Bool) =>
        some (y5.1,y5.2)).bind fun (y4:Int × Bool) =>
       some (y4.1,y4.2)
      else
       some (s1.2.1,s1.2.2))).bind fun (y3:Int × Bool) =>
     some (x3.2,y3.1,y3.2)))).bind fun (y2:Int × Int × Bool) =>
  (bif (y2.1 != 0) then
   some (.inr (.ret (0,false,10)))
  else
   some (.inl ((w64 (s1.1 + 1)),y2.2.1,y2.2.2)))
 else
  some (.inr (.go (s1.2.1,s1.2.2))))
def Z7.s3 (x8:Int × Int) (s4:Int × Int × Bool):Option ((Int × Int × Bool) ⊕ (Int × Bool)) :=
 (bif (decide (s4.1 < ([x8.1].length:Int))) then
  (
   (
    (at? [x8.1] s4.1).bind fun x9 =>
    (bif ((!s4.2.2) || (decide (x9 > s4.2.1))) then
     some (x9,true)
    else
     some (s4.2.1,s4.2.2))).bind fun (y15:Int × Bool) =>
   some (y15.1,y15.2)).bind fun (y14:Int × Bool) =>
  some (.inl ((w64 (s4.1 + 1)),y14.1,y14.2))
 else
  some (.inr (s4.2.1,s4.2.2)))
def Z7.s4 (x12:Int × Int) (s5:Int × Int × Bool):Option ((Int × Int × Bool) ⊕ (Int × Bool)) :=
 (bif (decide (s5.1 < ([x12.1].length:Int))) then
  (
   (
    (at? [x12.1] s5.1).bind fun x13 =>
    (bif ((!s5.2.2) || (decide (x13 > s5.2.1))) then
     some (x13,true)
    else
     some (s5.2.1,s5.2.2))).bind fun (y22:Int × Bool) =>
   some (y22.1,y22.2)).bind fun (y21:Int × Bool) =>
  some (.inl ((w64 (s5.1 + 1)),y21.1,y21.2))
 else
  some (.inr (s5.2.1,s5.2.2)))
def Z7.s2 (f:size_form) (k:Int) (tell:size_place→size_place→Option (Int × Int)) (s3:Int × Int × Bool):Option ((Int × Int × Bool) ⊕ (Jx (Int × Bool) (Int × Bool × Int))) :=
 (bif (decide (s3.1 < (f.Form.Odd.length:Int))) then
  (
   (at? f.Form.Odd s3.1).bind fun x5 =>
   (bif ((x5.Ticks.length:Int) == 0) then
    some (.go (s3.2.1,s3.2.2))
   else
    (
     (Z01 f x5.Index).bind fun x6 =>
     (bif ((x6.2.2 != 0) || (!x6.2.1)) then
      some (x6.2.2,s3.2.1,s3.2.2)
     else
      (Z01 f (w64 (x5.Index + k))).bind fun x7 =>
      (bif ((x7.2.2 != 0) || (!x7.2.1)) then
       some (x7.2.2,s3.2.1,s3.2.2)
      else
       (tell x6.1 x7.1).bind fun x8 =>
       (
        (bif (x8.2 == 0) then
         (
          (loopO (Z7.s3 x8) (0,s3.2.1,s3.2.2)).bind fun (y13:Int × Bool) =>
          some (y13.1,y13.2)).bind fun (y12:Int × Bool) =>
         some (y12.1,y12.2)
        else
         some (s3.2.1,s3.2.2))).bind fun (y11:Int × Bool) =>
       some (x8.2,y11.1,y11.2)))).bind fun (y10:Int × Int × Bool) =>
    (
     (bif (y10.1 != 0) then
      some (true,(y10.2.1,y10.2.2))
     else
      (
       (Z01 f (w64 (x5.Index - k))).bind fun x10 =>
       (bif ((x10.2.2 != 0) || (!x10.2.1)) then
        some (x10.2.2,y10.2.1,y10.2.2)
       else
        (Z01 f (w64 ((w64 (x5.Index - k)) + k))).bind fun x11 =>
        (bif ((x11.2.2 != 0) || (!x11.2.1)) then
         some (x11.2.2,y10.2.1,y10.2.2)
        else
         (tell x10.1 x11.1).bind fun x12 =>
         (
          (bif (x12.2 == 0) then
           (
            (loopO (Z7.s4 x12) (0,y10.2.1,y10.2.2)).bind fun (y20:Int × Bool) =>
            some (y20.1,y20.2)).bind fun (y19:Int × Bool) =>
           some (y19.1,y19.2)
          else
           some (y10.2.1,y10.2.2))).bind fun (y18:Int × Bool) =>
         some (x12.2,y18.1,y18.2)))).bind fun (y17:Int × Int × Bool) =>
      some ((y17.1 != 0),(y17.2.1,y17.2.2)))).bind fun (y16:Bool × Int × Bool) =>
    (bif y16.1 then
     some (.ret (0,false,10))
    else
     some (.go (y16.2.1,y16.2.2))))).bind fun (y9:Jx (Int × Bool) (Int × Bool × Int)) =>
  y9.elim (fun r' =>
    some (.inr (.ret r'))) fun a5 =>
  some (.inl ((w64 (s3.1 + 1)),a5.1,a5.2))
 else
  some (.inr (.go (s3.2.1,s3.2.2))))
def Z7 (f:size_form) (k:Int) (tell:size_place→size_place→Option (Int × Int)):Option (Int × Bool × Int) :=
 (loopO (Z7.s0 f k tell) (0,0,false)).bind fun (y1:Jx (Int × Bool) (Int × Bool × Int)) =>
 y1.elim (fun r' =>
   some r') fun a2 =>
 (loopO (Z7.s2 f k tell) (0,a2.1,a2.2)).bind fun (y8:Jx (Int × Bool) (Int × Bool × Int)) =>
 y8.elim (fun r' =>
   some r') fun a6 =>
 some (a6.1,a6.2,0)
def Z2b (a:size_place) (b:size_place):Int × Int :=
 ((Z2r a.last b.first).1,(Z2r a.last b.first).2)
def Z1b (f:Form) (k:Int):Option (Int × Bool × Int) :=
 (bif (!(Z0r k)) then
  some (0,false,2)
 else
  (Z1M f).bind fun x1 =>
  (Z7 x1 k (fun z0 z1 => some (Z2b z0 z1))).bind fun x2 =>
  some ((w64 (0 - x2.1)),x2.2.1,x2.2.2))
def Z2p (a:size_place) (b:size_place):Int × Int :=
 ((Z2r b.last a.first).1,(Z2r b.last a.first).2)
def Z2j (f:Form) (k:Int):Option (Int × Bool × Int) :=
 (bif (!(Z0r k)) then
  some (0,false,2)
 else
  (Z1M f).bind fun x1 =>
  (Z7 x1 k (fun z0 z1 => some (Z2p z0 z1))).bind fun x2 =>
  some (x2.1,x2.2.1,x2.2.2))
def safe_Lcm (a:Int) (b:Int):Option (Int × Int) :=
 (bif (((Zg a) == 0) || ((Zg b) == 0)) then
  some (0,0)
 else
  (gcd? (Zg a) (Zg b)).bind fun x1 =>
  (nz? x1).bind fun u1 =>
  (bif (((Zw (IntKind.u64.wrap ((Zg a).tdiv x1)) (Zg b)).1) != 0) then
   some (0,10)
  else
   some ((Z2T ((Zw (IntKind.u64.wrap ((Zg a).tdiv x1)) (Zg b)).2) false).1,(Z2T ((Zw (IntKind.u64.wrap ((Zg a).tdiv x1)) (Zg b)).2) false).2)))
def Z3S:Form :=
 (Form.mk 1 1 [[(Span.mk 0 0)]] [])
def Z4Y (f:Form) (m:Int):Option (Int × Int) :=
 (bif (f.Count == 0) then
  some (0,0)
 else
  (safe_Lcm f.Count m).bind fun x1 =>
  (nz? m).bind fun u1 =>
  some ((w64 (x1.1.tdiv m)),x1.1))
def Z12.s0 {S:Type} (p1':Int) (p2':Int→Option ((List Span) × Int)) (p3':Int) (yield:S→((List Span) × Int)→Option (S × Bool)) (s1:Int × S):Option ((Int × S) ⊕ (Jx (S) (S))) :=
 (bif (decide (s1.1 < p1')) then
  (p2' (w64 (p3' + s1.1))).bind fun x1 =>
  (yield s1.2 (x1.1,x1.2)).bind fun x2 =>
  (bif (!x2.2) then
   some (.inr (.ret x2.1))
  else
   some (.inl ((w64 (s1.1 + 1)),x2.1)))
 else
  some (.inr (.go s1.2)))
def Z12 {S:Type} (p1':Int) (p2':Int→Option ((List Span) × Int)) (p3':Int) (yield:S→((List Span) × Int)→Option (S × Bool)) (st':S):Option (S) :=
 (loopO (Z12.s0 p1' p2' p3' yield) (0,st')).bind fun (y1:Jx (S) (S)) =>
 y1.elim (fun r' =>
   some r') fun a2 =>
 some a2
def Z0T.b0 (s2:(List Span) × Int) (z2:(List Span) × Int):Option (((List Span) × Int) × Nat) :=
 (
  (
   (bif (z2.2 != 0) then
    some (.ret ())
   else
    (
     (
      (bif ((decide ((s2.1.length:Int) > 0)) && (decide ((z2.1.length:Int) > 0))) then
       (at? z2.1 0).bind fun x1 =>
       (at? s2.1 (w64 ((s2.1.length:Int) - 1))).bind fun x2 =>
       some (x1.From == (w64 (x2.To + 1)))
      else
       some false)).bind fun (y6:Bool) =>
     (bif y6 then
      (at? z2.1 0).bind fun x3 =>
      (at? s2.1 (w64 ((s2.1.length:Int) - 1))).bind fun x4 =>
      (cut? z2.1 1 (z2.1.length:Int)).bind fun x5 =>
      some (x5,(s2.1.set ((w64 ((s2.1.length:Int) - 1))).toNat (Span.mk x4.From x3.To)))
     else
      some (z2.1,s2.1))).bind fun (y5:(List Span) × (List Span)) =>
    (app? 16 y5.2 y5.1).bind fun x6 =>
    some (.go x6))).bind fun (y4:Jx ((List Span)) (Unit)) =>
  y4.elim (fun a6 =>
    some (.ret ())) fun a5 =>
  some (.go a5)).bind fun (y3:Jx ((List Span)) (Unit)) =>
 y3.elim (fun a8 =>
   some ((s2.1,z2.2),1)) fun a7 =>
 some ((a7,s2.2),0)
def Z0T (tell:Int→Option ((List Span) × Int)) (from':Int) (many:Int):Option ((List Span) × Int) :=
 (
  some ()).bind fun (y1:Unit) =>
 (Z12 many tell from' (Z3L Z0T.b0) (([],0),0)).bind fun (y2:((List Span) × Int) × Nat) =>
 (bif (y2.2 == 0) then
  some (y2.1.1,0)
 else
  some ([],y2.1.2))
def Z5R (f:Form) (i:Int):Option ((List Span) × Int) :=
 (bif (f.Count == 0) then
  some ([],0)
 else
  (Z0P i f.Count).bind fun x1 =>
  (at? f.Core x1.2.1).bind fun x2 =>
  (bif ((x2.length:Int) == 0) then
   some ([],0)
  else
   (bif ((x1.2.2 != 0) || (((ZL x1.1 f.Period).2) != 0)) then
    some ([],20)
   else
    (at? f.Core x1.2.1).bind fun x3 =>
    (Z0H x3 ((ZL x1.1 f.Period).1)).bind fun x4 =>
    some (x4.1,x4.2))))
def Z30 (i:Int) (p1':Form):Option ((List Span) × Int) :=
 (Z5R p1' i).bind fun x1 =>
 some (x1.1,x1.2)
def Z0W.s0 (f:Form) (s1:Int × Int):Option ((Int × Int) ⊕ (Int)) :=
 (bif (decide (s1.2 < (f.Core.length:Int))) then
  (at? f.Core s1.2).bind fun x2 =>
  some (.inl ((w64 (s1.1 + (x2.length:Int))),(w64 (s1.2 + 1))))
 else
  some (.inr s1.1))
def Z0W.s1 (f:Form) (m:Int) (x1:Int × Int) (s3:Int × (List (List Span))):Option ((Int × (List (List Span))) ⊕ (Jx ((List (List Span)) × Int) (Int))) :=
 (bif (decide (s3.1 < x1.1)) then
  (Z0T (fun z0 => Z30 z0 f) (w64 (s3.1 * m)) m).bind fun x3 =>
  (bif (x3.2 != 0) then
   some (.inr (.ret x3.2))
  else
   (app? 24 s3.2 [x3.1]).bind fun x4 =>
   some (.inl ((w64 (s3.1 + 1)),x4)))
 else
  some (.inr (.go (s3.2,(ZL f.Period (w64 (x1.2.tdiv f.Count))).1))))
def Z0W (f:Form) (m:Int):Option (Form × Int) :=
 (Z4Y f m).bind fun x1 =>
 (bif (x1.1 == 0) then
  some ((Form.mk 0 0 [] []),0)
 else
  (loopO (Z0W.s0 f) (0,0)).bind fun (y1:Int) =>
  (nz? f.Count).bind fun u1 =>
  (bif (decide ((w64 (y1 * (w64 (x1.2.tdiv f.Count)))) > 60000)) then
   some ((Form.mk 0 0 [] []),3)
  else
   (nz? f.Count).bind fun u2 =>
   (bif ((((ZL f.Period (w64 (x1.2.tdiv f.Count))).2) != 0) || (decide (((ZL f.Period (w64 (x1.2.tdiv f.Count))).1) > 1099511627776))) then
    some ((Form.mk 0 0 [] []),20)
   else
    (loopO (Z0W.s1 f m x1) (0,[])).bind fun (y2:Jx ((List (List Span)) × Int) (Int)) =>
    y2.elim (fun a4 =>
      some ((Form.mk 0 0 [] []),a4)) fun a3 =>
    some ((Form.mk a3.2 x1.1 a3.1 []),0))))
def Z4e (f:Form):Option (Form × Int) :=
 (Zz f).bind fun x1 =>
 (bif (x1 == 0) then
  (Zi f).bind fun x2 =>
  some (x2,0)
 else
  (bif (x1 == 3) then
   some ((Form.mk 0 0 [] []),3)
  else
   some ((Form.mk 0 0 [] []),20)))
def Z33 (i:Int) (p1':Form):Option ((List Span) × Int) :=
 (Z0Z p1' i).bind fun x1 =>
 some (x1.1,x1.2)
def Z1R.s0 (f:Form) (m:Int) (s2:Int × (List Granule)):Option ((Int × (List Granule)) ⊕ (Jx ((List Granule)) (Form × Int))) :=
 (bif (decide (s2.1 < (f.Odd.length:Int))) then
  (
   (at? f.Odd s2.1).bind fun x2 =>
   (Z0P x2.Index m).bind fun x3 =>
   (
    (bif (decide ((s2.2.length:Int) > 0)) then
     (at? s2.2 (w64 ((s2.2.length:Int) - 1))).bind fun x4 =>
     some (x4.Index == x3.1)
    else
     some false)).bind fun (y3:Bool) =>
   (bif y3 then
    some (.go s2.2)
   else
    (Z0T (fun z0 => Z33 z0 f) (w64 (x3.1 * m)) m).bind fun x5 =>
    (bif (x5.2 != 0) then
     some (.ret ((Form.mk 0 0 [] []),20))
    else
     (app? 32 s2.2 [(Granule.mk x3.1 x5.1)]).bind fun x6 =>
     some (.go x6)))).bind fun (y2:Jx ((List Granule)) (Form × Int)) =>
  y2.elim (fun r' =>
    some (.inr (.ret r'))) fun a3 =>
  some (.inl ((w64 (s2.1 + 1)),a3))
 else
  some (.inr (.go s2.2)))
def Z1R (f:Form) (m:Int):Option (Form × Int) :=
 (bif ((decide (m < 1)) || (decide (m > 6000))) then
  some ((Form.mk 0 0 [] []),2)
 else
  (Z0W f m).bind fun x1 =>
  (bif (x1.2 != 0) then
   some ((Form.mk 0 0 [] []),x1.2)
  else
   (loopO (Z1R.s0 f m) (0,[])).bind fun (y1:Jx ((List Granule)) (Form × Int)) =>
   y1.elim (fun r' =>
     some r') fun a4 =>
   (Z4e (Form.mk x1.1.Period x1.1.Count x1.1.Core a4)).bind fun x7 =>
   some (x7.1,x7.2)))
def Z3 (n:Int) (some:Bool) (e':Int) (p3':Int) (p4':Bool):Bool :=
 (((n == p3') && (some == p4')) && (e' == 0))
def Z26:Option (Bool) :=
 (Z1R Z3S 7).bind fun x1 =>
 (Z1b (Form.mk 1099511627776 1 [[(Span.mk 0 0)]] []) 1099511627776).bind fun x2 =>
 (bif ((((x1.2 != 0) || (x2.1 != 0)) || x2.2.1) || (x2.2.2 != 10)) then
  some false
 else
  (Z1b x1.1 1).bind fun x3 =>
  (
   (bif (Z3 x3.1 x3.2.1 x3.2.2 1 true) then
    (Z2j x1.1 1).bind fun x4 =>
    some (Z3 x4.1 x4.2.1 x4.2.2 13 true)
   else
    some false)).bind fun (y1:Bool) =>
  (
   (bif y1 then
    (Z1b x1.1 0).bind fun x5 =>
    some (Z3 x5.1 x5.2.1 x5.2.2 (-6) true)
   else
    some false)).bind fun (y2:Bool) =>
  (
   (bif y2 then
    (Z2j x1.1 0).bind fun x6 =>
    some (Z3 x6.1 x6.2.1 x6.2.2 6 true)
   else
    some false)).bind fun (y3:Bool) =>
  (
   (bif y3 then
    (Z18 x1.1 6).bind fun x7 =>
    some (Z3 x7.1 x7.2.1 x7.2.2 1 true)
   else
    some false)).bind fun (y4:Bool) =>
  (
   (bif y4 then
    (Z2n x1.1 6).bind fun x8 =>
    some (Z3 x8.1 x8.2.1 x8.2.2 0 true)
   else
    some false)).bind fun (y5:Bool) =>
  (
   (bif y5 then
    (Z2n x1.1 7).bind fun x9 =>
    some (Z3 x9.1 x9.2.1 x9.2.2 1 true)
   else
    some false)).bind fun (y6:Bool) =>
  (
   (bif y6 then
    (Z1b (Form.mk 0 0 [] [(Granule.mk 3 [(Span.mk 5 9)])]) 1).bind fun x10 =>
    some (Z3 x10.1 x10.2.1 x10.2.2 0 false)
   else
    some false)).bind fun (y7:Bool) =>
  (
   (bif y7 then
    (Z18 (Form.mk 0 0 [] [(Granule.mk 3 [(Span.mk 5 9)])]) (-4)).bind fun x11 =>
    some (Z3 x11.1 x11.2.1 x11.2.2 0 true)
   else
    some false)).bind fun (y8:Bool) =>
  (
   (bif y8 then
    (Z18 (Form.mk 0 0 [] [(Granule.mk 3 [(Span.mk 5 9)])]) (-5)).bind fun x12 =>
    some (Z3 x12.1 x12.2.1 x12.2.2 0 false)
   else
    some false)).bind fun (y9:Bool) =>
  some y9)
def Z06.s0 (f:Form) (s1:Int):Option ((Int) ⊕ (Jx (Unit) (Bool))) :=
 (bif (decide (s1 < (f.Core.length:Int))) then
  (at? f.Core s1).bind fun x2 =>
  (Z09 x2).bind fun x3 =>
  (bif (x3.2 && ((decide (x3.1.From < (-200))) || (decide (x3.1.To > 200)))) then
   some (.inr (.ret false))
  else
   some (.inl (w64 (s1 + 1))))
 else
  some (.inr (.go ())))
def Z06.s1 (f:Form) (s2:Int):Option ((Int) ⊕ (Jx (Unit) (Bool))) :=
 (bif (decide (s2 < (f.Odd.length:Int))) then
  (at? f.Odd s2).bind fun x4 =>
  (Z09 x4.Ticks).bind fun x5 =>
  (bif (((decide (x4.Index < (-100))) || (decide (x4.Index > 100))) || (x5.2 && ((decide (x5.1.From < (-3000))) || (decide (x5.1.To > 3000))))) then
   some (.inr (.ret false))
  else
   some (.inl (w64 (s2 + 1))))
 else
  some (.inr (.go ())))
def Z06 (f:Form):Option (Bool) :=
 (Z2N f).bind fun x1 =>
 (bif ((!x1) || (decide (f.Period > 60))) then
  some false
 else
  (loopO (Z06.s0 f) 0).bind fun (y1:Jx (Unit) (Bool)) =>
  y1.elim (fun r' =>
    some r') fun a2 =>
  (loopO (Z06.s1 f) 0).bind fun (y2:Jx (Unit) (Bool)) =>
  y2.elim (fun r' =>
    some r') fun a4 =>
  some true)
def Zt.s0 (f:Form) (s1:Int):Option ((Int) ⊕ (Jx (Unit) (Bool))) :=
 (bif (decide (s1 < (f.Core.length:Int))) then
  (at? f.Core s1).bind fun x2 =>
  (Z09 x2).bind fun x3 =>
  (bif (x3.2 && ((decide (x3.1.From < (-30))) || (decide (x3.1.To > 30)))) then
   some (.inr (.ret false))
  else
   some (.inl (w64 (s1 + 1))))
 else
  some (.inr (.go ())))
def Zt.s1 (f:Form) (s2:Int):Option ((Int) ⊕ (Jx (Unit) (Bool))) :=
 (bif (decide (s2 < (f.Odd.length:Int))) then
  (at? f.Odd s2).bind fun x4 =>
  (Z09 x4.Ticks).bind fun x5 =>
  (bif (((decide (x4.Index < (-40))) || (decide (x4.Index > 40))) || (x5.2 && ((decide (x5.1.From < (-300))) || (decide (x5.1.To > 300))))) then
   some (.inr (.ret false))
  else
   some (.inl (w64 (s2 + 1))))
 else
  some (.inr (.go ())))
def Zt (f:Form):Option (Bool) :=
 (Z06 f).bind fun x1 =>
 (bif ((!x1) || (decide (f.Period > 24))) then
  some false
 else
  (loopO (Zt.s0 f) 0).bind fun (y1:Jx (Unit) (Bool)) =>
  y1.elim (fun r' =>
    some r') fun a2 =>
  (loopO (Zt.s1 f) 0).bind fun (y2:Jx (Unit) (Bool)) =>
  y2.elim (fun r' =>
    some r') fun a4 =>
  some true)
def Zo.s0 (l:(List Int)) (x':Int) (s2:Bool × Int × (List Int)):Option ((Bool × Int × (List Int)) ⊕ (Bool × (List Int))) :=
 (bif (decide (s2.2.1 < (l.length:Int))) then
  (
   (
    (
     (at? l s2.2.1).bind fun x1 =>
     (bif (x1 == x') then
      some true
     else
      some s2.1)).bind fun (y4:Bool) =>
    (
     (
      (bif (!y4) then
       (at? l s2.2.1).bind fun x2 =>
       some (decide (x2 > x'))
      else
       some false)).bind fun (y6:Bool) =>
     (bif y6 then
      (app? 8 s2.2.2 [x']).bind fun x3 =>
      some (true,x3)
     else
      some (y4,s2.2.2))).bind fun (y5:Bool × (List Int)) =>
    (at? l s2.2.1).bind fun x4 =>
    (app? 8 y5.2 [x4]).bind fun x5 =>
    some (y5.1,x5)).bind fun (y3:Bool × (List Int)) =>
   some (y3.1,y3.2)).bind fun (y2:Bool × (List Int)) =>
  some (.inl (y2.1,(w64 (s2.2.1 + 1)),y2.2))
 else
  some (.inr (s2.1,s2.2.2)))
def Zo (l:(List Int)) (x':Int):Option ((List Int)) :=
 (loopO (Zo.s0 l x') (false,0,[])).bind fun (y1:Bool × (List Int)) =>
 (
  (bif (!y1.1) then
   (app? 8 y1.2 [x']).bind fun x6 =>
   some x6
  else
   some y1.2)).bind fun (y7:(List Int)) =>
 some y7
def Zf.s0 (a:(List Span)) (s1:(List Int) × Int):Option (((List Int) × Int) ⊕ ((List Int))) :=
 (bif (decide (s1.2 < (a.length:Int))) then
  (at? a s1.2).bind fun x1 =>
  (Zo s1.1 x1.From).bind fun x2 =>
  (at? a s1.2).bind fun x3 =>
  (Zo x2 (w64 (x3.To + 1))).bind fun x4 =>
  some (.inl (x4,(w64 (s1.2 + 1))))
 else
  some (.inr s1.1))
def Zf.s1 (b:(List Span)) (s2:(List Int) × Int):Option (((List Int) × Int) ⊕ ((List Int))) :=
 (bif (decide (s2.2 < (b.length:Int))) then
  (at? b s2.2).bind fun x5 =>
  (Zo s2.1 x5.From).bind fun x6 =>
  (at? b s2.2).bind fun x7 =>
  (Zo x6 (w64 (x7.To + 1))).bind fun x8 =>
  some (.inl (x8,(w64 (s2.2 + 1))))
 else
  some (.inr s2.1))
def Zf (a:(List Span)) (b:(List Span)):Option ((List Int)) :=
 (loopO (Zf.s0 a) ([],0)).bind fun (y1:(List Int)) =>
 (loopO (Zf.s1 b) (y1,0)).bind fun (y2:(List Int)) =>
 some y2
def Z0E.s0 (l:(List Span)) (t:Int) (s1:Int):Option ((Int) ⊕ (Jx (Unit) (Bool))) :=
 (bif (decide (s1 < (l.length:Int))) then
  (at? l s1).bind fun x1 =>
  (
   (bif (decide (x1.From≤t)) then
    (at? l s1).bind fun x2 =>
    some (decide (t≤x2.To))
   else
    some false)).bind fun (y2:Bool) =>
  (bif y2 then
   some (.inr (.ret true))
  else
   some (.inl (w64 (s1 + 1))))
 else
  some (.inr (.go ())))
def Z0E (l:(List Span)) (t:Int):Option (Bool) :=
 (loopO (Z0E.s0 l t) 0).bind fun (y1:Jx (Unit) (Bool)) =>
 y1.elim (fun r' =>
   some r') fun a2 =>
 some false
def Z4U (kind:Int) (a:Bool) (b:Bool):Bool :=
 (bif (kind == 1) then
  (a || b)
 else
  (bif (kind == 2) then
   (a && b)
  else
   (a && (!b))))
def Z0o.s0 (kind:Int) (a:(List Span)) (b:(List Span)) (x1:(List Int)) (s2:Int × (List Span)):Option ((Int × (List Span)) ⊕ ((List Span))) :=
 (bif (decide ((w64 (s2.1 + 1)) < (x1.length:Int))) then
  (
   (
    (at? x1 s2.1).bind fun x2 =>
    (Z0E a x2).bind fun x3 =>
    (at? x1 s2.1).bind fun x4 =>
    (Z0E b x4).bind fun x5 =>
    (bif (!(Z4U kind x3 x5)) then
     some (.ret ())
    else
     (
      (bif (decide ((s2.2.length:Int) > 0)) then
       (at? s2.2 (w64 ((s2.2.length:Int) - 1))).bind fun x6 =>
       (at? x1 s2.1).bind fun x7 =>
       some (x6.To == (w64 (x7 - 1)))
      else
       some false)).bind fun (y4:Bool) =>
     (bif y4 then
      (at? x1 (w64 (s2.1 + 1))).bind fun x8 =>
      (at? s2.2 (w64 ((s2.2.length:Int) - 1))).bind fun x9 =>
      some (.go (s2.2.set ((w64 ((s2.2.length:Int) - 1))).toNat (Span.mk x9.From (w64 (x8 - 1)))))
     else
      (at? x1 s2.1).bind fun x10 =>
      (at? x1 (w64 (s2.1 + 1))).bind fun x11 =>
      (app? 16 s2.2 [(Span.mk x10 (w64 (x11 - 1)))]).bind fun x12 =>
      some (.go x12)))).bind fun (y3:Jx ((List Span)) (Unit)) =>
   y3.elim (fun a4 =>
     some s2.2) fun a3 =>
   some a3).bind fun (y2:(List Span)) =>
  some (.inl ((w64 (s2.1 + 1)),y2))
 else
  some (.inr s2.2))
def Z0o (kind:Int) (a:(List Span)) (b:(List Span)):Option ((List Span)) :=
 (Zf a b).bind fun x1 =>
 (loopO (Z0o.s0 kind a b x1) (0,[])).bind fun (y1:(List Span)) =>
 some y1
def Z1H (f:Form) (i:Int) (s:Span):Option (Bool) :=
 (Z1U f i).bind fun x1 =>
 (
  (bif (x1.2 == 0) then
   (Z0o 2 x1.1 [s]).bind fun x2 =>
   some (decide ((x2.length:Int) > 0))
  else
   some false)).bind fun (y1:Bool) =>
 some y1
def Z0h.s0 (l:(List Int)) (x':Int) (s2:Bool × Int × (List Int)):Option ((Bool × Int × (List Int)) ⊕ (Bool × (List Int))) :=
 (bif (decide (s2.2.1 < (l.length:Int))) then
  (
   (
    (
     (at? l s2.2.1).bind fun x1 =>
     (bif (x1 == x') then
      some true
     else
      some s2.1)).bind fun (y4:Bool) =>
    (
     (
      (bif (!y4) then
       (at? l s2.2.1).bind fun x2 =>
       some (decide (x2 > x'))
      else
       some false)).bind fun (y6:Bool) =>
     (bif y6 then
      (app? 8 s2.2.2 [x']).bind fun x3 =>
      some (true,x3)
     else
      some (y4,s2.2.2))).bind fun (y5:Bool × (List Int)) =>
    (at? l s2.2.1).bind fun x4 =>
    (app? 8 y5.2 [x4]).bind fun x5 =>
    some (y5.1,x5)).bind fun (y3:Bool × (List Int)) =>
   some (y3.1,y3.2)).bind fun (y2:Bool × (List Int)) =>
  some (.inl (y2.1,(w64 (s2.2.1 + 1)),y2.2))
 else
  some (.inr (s2.1,s2.2.2)))
def Z0h (l:(List Int)) (x':Int):Option ((List Int)) :=
 (loopO (Z0h.s0 l x') (false,0,[])).bind fun (y1:Bool × (List Int)) =>
 (
  (bif (!y1.1) then
   (app? 8 y1.2 [x']).bind fun x6 =>
   some x6
  else
   some y1.2)).bind fun (y7:(List Int)) =>
 some y7
def ZP.s1 (f:Form) (s:Span) (s1:(List Int) × Int) (x5:Int × Int) (s2:(List Int) × Int):Option (((List Int) × Int) ⊕ ((List Int))) :=
 (bif (decide (s2.2≤(w64 (x5.1 + 1)))) then
  (
   (
    (Z1H f (w64 ((w64 (s2.2 * f.Count)) + s1.2)) s).bind fun x6 =>
    (bif x6 then
     (Z0h s2.1 (w64 ((w64 (s2.2 * f.Count)) + s1.2))).bind fun x7 =>
     some x7
    else
     some s2.1)).bind fun (y5:(List Int)) =>
   some y5).bind fun (y4:(List Int)) =>
  some (.inl (y4,(w64 (s2.2 + 1))))
 else
  some (.inr s2.1))
def ZP.s0 (f:Form) (s:Span) (s1:(List Int) × Int):Option (((List Int) × Int) ⊕ ((List Int))) :=
 (bif (decide (s1.2 < f.Count)) then
  (
   (at? f.Core s1.2).bind fun x1 =>
   (bif ((x1.length:Int) == 0) then
    some s1.1
   else
    (at? x1 (w64 ((x1.length:Int) - 1))).bind fun x2 =>
    (Z1C (w64 (s.From - x2.To)) f.Period).bind fun x3 =>
    (at? x1 0).bind fun x4 =>
    (Z1C (w64 (s.To - x4.From)) f.Period).bind fun x5 =>
    (loopO (ZP.s1 f s s1 x5) (s1.1,x3.1)).bind fun (y3:(List Int)) =>
    some y3)).bind fun (y2:(List Int)) =>
  some (.inl (y2,(w64 (s1.2 + 1))))
 else
  some (.inr s1.1))
def ZP.s2 (f:Form) (s:Span) (s3:(List Int) × Int):Option (((List Int) × Int) ⊕ ((List Int))) :=
 (bif (decide (s3.2 < (f.Odd.length:Int))) then
  (
   (
    (at? f.Odd s3.2).bind fun x8 =>
    (Z1H f x8.Index s).bind fun x9 =>
    (bif x9 then
     (at? f.Odd s3.2).bind fun x10 =>
     (Z0h s3.1 x10.Index).bind fun x11 =>
     some x11
    else
     some s3.1)).bind fun (y8:(List Int)) =>
   some y8).bind fun (y7:(List Int)) =>
  some (.inl (y7,(w64 (s3.2 + 1))))
 else
  some (.inr s3.1))
def ZP (f:Form) (s:Span):Option ((List Int)) :=
 (loopO (ZP.s0 f s) ([],0)).bind fun (y1:(List Int)) =>
 (loopO (ZP.s2 f s) (y1,0)).bind fun (y6:(List Int)) =>
 some y6
def Z0a.s0 (f:Form) (x1:(List Int)) (s2:Int × (List epactref22_Place)):Option ((Int × (List epactref22_Place)) ⊕ ((List epactref22_Place))) :=
 (bif (decide (s2.1 < (x1.length:Int))) then
  (at? x1 s2.1).bind fun x2 =>
  (Z1U f x2).bind fun x3 =>
  (at? x1 s2.1).bind fun x4 =>
  (at? x3.1 0).bind fun x5 =>
  (at? x3.1 (w64 ((x3.1.length:Int) - 1))).bind fun x6 =>
  (app? 24 s2.2 [(epactref22_Place.mk x4 x5.From x6.To)]).bind fun x7 =>
  some (.inl ((w64 (s2.1 + 1)),x7))
 else
  some (.inr s2.2))
def Z0a (f:Form):Option ((List epactref22_Place)) :=
 (ZP f (Span.mk (-1200) 1200)).bind fun x1 =>
 (loopO (Z0a.s0 f x1) (0,[])).bind fun (y1:(List epactref22_Place)) =>
 some y1
def Z0R.s0 (l:(List epactref22_Place)) (index:Int) (s1:Int × Int):Option ((Int × Int) ⊕ (Int)) :=
 (bif (decide (s1.1 < s1.2)) then
  (
   (at? l (w64 ((w64 (s1.1 + s1.2)).tdiv 2))).bind fun x1 =>
   (bif (decide (x1.Index < index)) then
    some ((w64 ((w64 ((w64 (s1.1 + s1.2)).tdiv 2)) + 1)),s1.2)
   else
    some (s1.1,(w64 ((w64 (s1.1 + s1.2)).tdiv 2))))).bind fun (y2:Int × Int) =>
  some (.inl (y2.1,y2.2))
 else
  some (.inr s1.1))
def Z0R (l:(List epactref22_Place)) (index:Int):Option (Int) :=
 (loopO (Z0R.s0 l index) (0,(l.length:Int))).bind fun (y1:Int) =>
 (
  (bif (decide (y1 < (l.length:Int))) then
   (at? l y1).bind fun x2 =>
   some (x2.Index == index)
  else
   some false)).bind fun (y3:Bool) =>
 (bif y3 then
  some y1
 else
  some (-1))
def Z0q.s0 (l:(List epactref22_Place)) (k:Int) (s1:Int × Int × Bool × Int):Option ((Int × Int × Bool × Int) ⊕ (Int × Int × Bool)) :=
 (bif (decide (s1.2.2.2 < (l.length:Int))) then
  (
   (
    (at? l s1.2.2.2).bind fun x1 =>
    (Z0R l (w64 (x1.Index + k))).bind fun x2 =>
    (bif (decide (x2 < 0)) then
     some (.ret ())
    else
     (at? l x2).bind fun x3 =>
     (at? l s1.2.2.2).bind fun x4 =>
     (at? l x2).bind fun x5 =>
     (at? l s1.2.2.2).bind fun x6 =>
     (
      (bif ((!s1.2.2.1) || (decide ((w64 (x3.First - x4.Last)) < s1.1))) then
       some ((w64 (x3.First - x4.Last)),(w64 (x5.Last - x6.First)))
      else
       some (s1.1,(w64 (x5.Last - x6.First))))).bind fun (y4:Int × Int) =>
     (
      (bif ((!s1.2.2.1) || (decide (y4.2 > s1.2.1))) then
       some y4.2
      else
       some s1.2.1)).bind fun (y5:Int) =>
     some (.go (y4.1,y5)))).bind fun (y3:Jx (Int × Int) (Unit)) =>
   y3.elim (fun a4 =>
     some (s1.1,s1.2.1,s1.2.2.1)) fun a3 =>
   some (a3.1,a3.2,true)).bind fun (y2:Int × Int × Bool) =>
  some (.inl (y2.1,y2.2.1,y2.2.2,(w64 (s1.2.2.2 + 1))))
 else
  some (.inr (s1.1,s1.2.1,s1.2.2.1)))
def Z0q (l:(List epactref22_Place)) (k:Int):Option (Int × Int × Bool) :=
 (loopO (Z0q.s0 l k) (0,0,false,0)).bind fun (y1:Int × Int × Bool) =>
 some (y1.1,y1.2.1,y1.2.2)
def Zk.s1 (l:(List epactref22_Place)) (d:Int) (s1:Int × Bool × Int) (s2:Int × Bool × Int):Option ((Int × Bool × Int) ⊕ (Int × Bool)) :=
 (bif (decide (s2.2.2 < (l.length:Int))) then
  (
   (
    (at? l s2.2.2).bind fun x3 =>
    (at? l s1.2.2).bind fun x4 =>
    (
     (bif (decide ((w64 (x3.First - x4.Last))≤d)) then
      (
       (bif (!s2.2.1) then
        some true
       else
        (at? l s2.2.2).bind fun x5 =>
        (at? l s1.2.2).bind fun x6 =>
        some (decide ((w64 (x5.Index - x6.Index)) > s2.1)))).bind fun (y8:Bool) =>
      some y8
     else
      some false)).bind fun (y7:Bool) =>
    (bif y7 then
     (at? l s2.2.2).bind fun x7 =>
     (at? l s1.2.2).bind fun x8 =>
     some ((w64 (x7.Index - x8.Index)),true)
    else
     some (s2.1,s2.2.1))).bind fun (y6:Int × Bool) =>
   some (y6.1,y6.2)).bind fun (y5:Int × Bool) =>
  some (.inl (y5.1,y5.2,(w64 (s2.2.2 + 1))))
 else
  some (.inr (s2.1,s2.2.1)))
def Zk.s0 (l:(List epactref22_Place)) (d:Int) (s1:Int × Bool × Int):Option ((Int × Bool × Int) ⊕ (Int × Bool)) :=
 (bif (decide (s1.2.2 < (l.length:Int))) then
  (
   (at? l s1.2.2).bind fun x1 =>
   (
    (bif (decide (x1.First < (-800))) then
     some true
    else
     (at? l s1.2.2).bind fun x2 =>
     some (decide (x2.First > 800)))).bind fun (y3:Bool) =>
   (bif y3 then
    some (s1.1,s1.2.1)
   else
    (loopO (Zk.s1 l d s1) (s1.1,s1.2.1,0)).bind fun (y4:Int × Bool) =>
    some (y4.1,y4.2))).bind fun (y2:Int × Bool) =>
  some (.inl (y2.1,y2.2,(w64 (s1.2.2 + 1))))
 else
  some (.inr (s1.1,s1.2.1)))
def Zk (l:(List epactref22_Place)) (d:Int):Option (Int × Bool) :=
 (loopO (Zk.s0 l d) (0,false,0)).bind fun (y1:Int × Bool) =>
 some (y1.1,y1.2)
def Z03.s1 (l:(List epactref22_Place)) (d:Int) (s1:Int × Bool × Int) (s2:Int × Bool × Int):Option ((Int × Bool × Int) ⊕ (Int × Bool)) :=
 (bif (decide (s2.2.2 < (l.length:Int))) then
  (
   (
    (at? l s2.2.2).bind fun x3 =>
    (at? l s1.2.2).bind fun x4 =>
    (
     (bif (decide ((w64 (x3.Last - x4.First)) ≥ d)) then
      (
       (bif (!s2.2.1) then
        some true
       else
        (at? l s2.2.2).bind fun x5 =>
        (at? l s1.2.2).bind fun x6 =>
        some (decide ((w64 (x5.Index - x6.Index)) < s2.1)))).bind fun (y8:Bool) =>
      some y8
     else
      some false)).bind fun (y7:Bool) =>
    (bif y7 then
     (at? l s2.2.2).bind fun x7 =>
     (at? l s1.2.2).bind fun x8 =>
     some ((w64 (x7.Index - x8.Index)),true)
    else
     some (s2.1,s2.2.1))).bind fun (y6:Int × Bool) =>
   some (y6.1,y6.2)).bind fun (y5:Int × Bool) =>
  some (.inl (y5.1,y5.2,(w64 (s2.2.2 + 1))))
 else
  some (.inr (s2.1,s2.2.1)))
def Z03.s0 (l:(List epactref22_Place)) (d:Int) (s1:Int × Bool × Int):Option ((Int × Bool × Int) ⊕ (Int × Bool)) :=
 (bif (decide (s1.2.2 < (l.length:Int))) then
  (
   (at? l s1.2.2).bind fun x1 =>
   (
    (bif (decide (x1.First < (-800))) then
     some true
    else
     (at? l s1.2.2).bind fun x2 =>
     some (decide (x2.First > 800)))).bind fun (y3:Bool) =>
   (bif y3 then
    some (s1.1,s1.2.1)
   else
    (loopO (Z03.s1 l d s1) (s1.1,s1.2.1,0)).bind fun (y4:Int × Bool) =>
    some (y4.1,y4.2))).bind fun (y2:Int × Bool) =>
  some (.inl (y2.1,y2.2,(w64 (s1.2.2 + 1))))
 else
  some (.inr (s1.1,s1.2.1)))
def Z03 (l:(List epactref22_Place)) (d:Int):Option (Int × Bool) :=
 (loopO (Z03.s0 l d) (0,false,0)).bind fun (y1:Int × Bool) =>
 some (y1.1,y1.2)
def Z27 (f:Form) (k:Int) (d:Int):Option (Bool) :=
 (Zt f).bind fun x1 =>
 (bif (!x1) then
  some Z3D
 else
  (Zb f).bind fun x2 =>
  (Z0a f).bind fun x3 =>
  (Z0q x3 ((w64 k).tmod 21)).bind fun x4 =>
  (Z1b (Form.mk x2.Period x2.Count x2.Core x2.Odd) ((w64 k).tmod 21)).bind fun x5 =>
  (
   (bif (!(Z3 x5.1 x5.2.1 x5.2.2 x4.1 x4.2.2)) then
    some true
   else
    (Z2j (Form.mk x2.Period x2.Count x2.Core x2.Odd) ((w64 k).tmod 21)).bind fun x6 =>
    some (!(Z3 x6.1 x6.2.1 x6.2.2 x4.2.1 x4.2.2)))).bind fun (y1:Bool) =>
  (bif y1 then
   some false
  else
   (Zk x3 ((w64 d).tmod 201)).bind fun x7 =>
   (Z18 (Form.mk x2.Period x2.Count x2.Core x2.Odd) ((w64 d).tmod 201)).bind fun x8 =>
   (bif (!(Z3 x8.1 x8.2.1 x8.2.2 x7.1 x7.2)) then
    some false
   else
    (Z03 x3 ((w64 d).tmod 201)).bind fun x9 =>
    (Z2n (Form.mk x2.Period x2.Count x2.Core x2.Odd) ((w64 d).tmod 201)).bind fun x10 =>
    (
     (bif (Z3 x10.1 x10.2.1 x10.2.2 x9.1 x9.2) then
      (ZO f (Form.mk x2.Period x2.Count x2.Core x2.Odd)).bind fun x11 =>
      some x11
     else
      some false)).bind fun (y2:Bool) =>
    some (y2 && Z3D))))
end
end Go.Dn
