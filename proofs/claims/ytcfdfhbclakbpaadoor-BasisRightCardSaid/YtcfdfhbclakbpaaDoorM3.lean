/- Part 3 of what the row stands on. -/
import Derived.KernelRfl
import Derived.Test.YtcfdfhbclakbpaaDoorM2
set_option linter.unusedVariables false
set_option linter.unusedSimpArgs false
namespace Go.Dn
open Go Go.Proofs
variable {X:Ctx} {s:St} {P:Program}
theorem Z6x {w:World} {g o:Nat} {cs:Array Value} {el:TypeId} {fr:Nat×Nat} {u:Value} (h:w.heap[g]? = some (.cells cs el fr)) (ho:o<cs.size) :
  w.setRow g (cs.toList.take o++[u]++cs.toList.drop (o+1)).toArray=w.setCell ⟨g,o,none⟩ u:=by
 have hc:(cs.toList.take o++[u]++cs.toList.drop (o+1)).toArray=cs.setIfInBounds o u:=by
  apply Array.toList_inj.1;simp [Ys,ho]
 rw [hc]
 unfold World.setRow World.setCell
 congr 1
 apply Array.ext_getElem?
 intro i
 simp only [Array.getElem?_modify]
 split
 ·rename_i hi;subst hi;simp [h]
 ·rfl
theorem Z2G (hi:Inv s) {id ver o k:Nat} {v:Value} {t:TypeId} {κ:IntKind} {n:Int} (hp:PVR s (.ptr id ver o) v) (h:Z0H P s.G t (.ptr id ver (o+k))=some (.v (.int κ n))) :
  ∃ b,v = .pointer (some ⟨b,o,none⟩)/\s.w.cell? ⟨b,o+k,none⟩=some (.int κ n):=by
 simp only [Z0H] at h
 split at h
 ·rename_i el cells lv hb
  split at h
  ·rename_i hver;cases hp with
   | ptr hbk hv ho hk=>
    have hvv:=hk (by simp [Heap.ver,hb,hver])
    subst hvv
    split at h
    ·split at h<;>simp at h
    ·obtain ⟨u,h1,h2,_⟩:=Z3C hi hb _ _ h;exact ⟨_,rfl,by rw [h1,Z0o h2]⟩
    ·simp at h
  ·simp at h
 ·simp at h
theorem Z2V (hi:Inv s) {id ver o k:Nat} {v:Value} {t:TypeId} {κ:IntKind} {m:Int} {G':Heap} (hp:PVR s (.ptr id ver o) v) (h:Z0Z P s.G t (.v (.int κ m)) (.ptr id ver (o+k))=some G') :
  ∃ b,v = .pointer (some ⟨b,o,none⟩)/\(∀ j,s.w.frozen? ⟨b,j,none⟩=false)/\∃ D',Inv ⟨s.w.setCell ⟨b,o+k,none⟩ (.int κ m),s.Y,G',D'⟩/\Ev s ⟨s.w.setCell ⟨b,o+k,none⟩ (.int κ m),s.Y,G',D'⟩:=by
 simp only [Z0Z] at h
 split at h
 ·rename_i el cells hb
  split at h
  ·rename_i hver;cases hp with
   | ptr hbk hv ho hk=>
    have hvv:=hk (by simp [Heap.ver,hb,hver])
    subst hvv
    split at h
    ·rename_i k' ys hs hc
     split at h
     ·rename_i hle;simp only [YA] at h;subst h;simp only [PV.cells,YA] at hc;subst hc;obtain ⟨hl1,hle⟩:=hle;simp only [YX,Yl,Yu] at hl1;subst hl1;obtain ⟨cs,hcs,hcl⟩:=Z3s hi hb;have hput:=Z3J hi hb (nx_of hi (by rw [hb];simp)) [.v (.int κ m)] [.int κ m] (o+k) rfl (by simpa using hle)
       (λj y hj=>by
        cases j with
        | zero=>simp at hj;subst hj;exact ⟨_,rfl,.v (.int _ _),rfl⟩
        | succ j=>simp at hj) hcs
      have hw:=Z6x (u:=.int κ m) (o:=o+k) hcs (by omega)
      simp only [YX,Yl,Yu] at hput;rw [hw] at hput;refine ⟨_,rfl,λj=>?_,_,hput.inv hi,hput.ev hi⟩;simp [World.frozen?,hcs]
     ·simp at h
    ·simp at h
  ·simp at h
 ·simp at h
theorem drew_ev:Ev s ⟨s.w.drew,s.Y,s.G,s.D⟩ :=
 ⟨rfl,YG _,λ_ _ _=>rfl,(Ev.refl s).live,(Ev.refl s).blk,(Ev.refl s).loop,(Ev.refl s).map,rfl,rfl,rfl⟩
theorem drew_inv (hi:Inv s):Inv ⟨s.w.drew,s.Y,s.G,s.D⟩ where
 ent:=λid=>by
  have h:=hi.ent id;show EntOK _ id (s.G.ent id)
  cases he:s.G.ent id with
  | none=>trivial
  | blk el cells lv=>
   rw [he] at h;obtain ⟨cs,fr,h1,h2,h3,h4⟩:=h;exact ⟨cs,fr,h1,h2,h3,λj x hj=>by
    obtain ⟨u,a,b,c⟩:=h4 j x hj;exact ⟨u,a,drew_ev.pvr b,c⟩⟩
  | loop fn e n ps as_ bo st pend=>
   rw [he] at h;obtain ⟨fn',tmps,defers,h1,h2,h3⟩:=h;exact ⟨fn',tmps,defers,h1,h2,λt=>drew_ev.pvr (h3 t)⟩
  | map kv=>
   rw [he] at h;exact h
 inj:=hi.inj
 notY:=hi.notY
 fz:=hi.fz
 nx:=hi.nx
 Ylt:=hi.Ylt
def libPrim (f:FuncId):Option Prim:=if f=20 then some (.once 62 21 0 1) else if f=23 then some (.add 2 0) else if f=27 then some (.load 2 .i64 0) else none
theorem Z5e {f : FuncId} {fn : Func} {vs : Array Value} {w : World} (hfn : Tryd.prog.funcs[f]? = some fn) (hb : fn.body.isSome = true) (hn : (fn.name == "runtime.NumGoroutine") = false) :
  (callFunc f vs).run Tryd.prog w = .ok (.enter f vs) w:=by
 obtain ⟨c,hb⟩:=Option.isSome_iff_exists.1 hb
 have hp:(program).run Tryd.prog w = .ok Tryd.prog w:=rfl
 simp only [callFunc,Sem.run_bind,hp,Result.andThen_ok,hfn,hn,hb]
 simp
theorem args1 {x:PV} {vs:Array Value} (h:PVRs s [x] vs):∃ v,vs = #[v]/\PVR s x v:=by
 obtain ⟨h1,h2⟩:=h
 refine ⟨vs.getD 0 Go.undef,?_,h2 0 x rfl⟩
 apply Array.ext
 ·simpa using h1.symm
 ·intro i a b;have:i=0:=by simp at b;omega
  subst this;simp [Array.getD,a]
theorem args2 {x y:PV} {vs:Array Value} (h:PVRs s [x,y] vs):∃ u v,vs = #[u,v]/\PVR s x u/\PVR s y v:=by
 obtain ⟨h1,h2⟩:=h
 refine ⟨vs.getD 0 Go.undef,vs.getD 1 Go.undef,?_,h2 0 x rfl,h2 1 y rfl⟩
 apply Array.ext
 ·simpa using h1.symm
 ·intro i a b;have:i=0\/i=1:=by simp at b;omega
  rcases this with rfl|rfl<;>simp [Array.getD,a]
theorem Z4v {a:PV} {k:Nat} {t:TypeId} {G:Heap} {x:PV} (h:Z0H P G t (onward a k)=some x):∃ id ver o,a = .ptr id ver o:=by
 cases a<;>simp [onward,Z0H] at h
 exact ⟨_,_,_,rfl⟩
theorem Z1y {b b' o:Nat} (h:Value.pointer (some ⟨b,o,none⟩)=Value.pointer (some ⟨b',o,none⟩)):b'=b:=by
 simp at h
 exact h.symm
theorem once_sound (hP:X.P=Tryd.prog) {call:ZO} (hcall:Z1O X call) {s:St} {args:List PV} {vs:Array Value} {r:PV} {G':Heap} (hi:Inv s) (hG:Zo X s) (hv:PVRs s args vs)
  (h:Z0K X.P call s.G (.once 62 21 0 1) args=some (r,G')):Calls Tryd.prog 20 vs s.w λen w'=>∃ v,en = .returned v/\Post s r G' v w':=by
 rcases args with _|⟨a,_|⟨c,_|⟨z,rest⟩⟩⟩<;>try (simp [Z0K] at h;done)
 cases c<;>try (simp [Z0K] at h;done)
 rename_i g first caps
 cases first with
 | cons y ys=>simp [Z0K] at h
 | nil=>
  simp only [Z0K] at h
  split at h
  ·rename_i n e0;obtain ⟨id,ver,o,rfl⟩:=Z4v e0;obtain ⟨u,cv,rfl,ha,hc⟩:=args2 hv;simp only [onward] at e0 h;obtain ⟨b,rfl,c0⟩:=Z2G hi ha e0
   cases hc with
   | @clo _ _ _ fv cv hf hl h1 h2=>
    obtain rfl:fv = #[]:=Array.size_eq_zero_iff.1 hf.symm
    split at h
    ·rename_i hn;subst hn
     split at h
     ·rename_i e1;obtain ⟨b1,q1,c1⟩:=Z2G hi ha e1;obtain rfl:=Z1y q1;simp only [Y8] at h;obtain ⟨G1,hs1,⟨r1,G2⟩,hcl,h⟩:=h
      split at h
      ·rename_i e3 e4;simp only [Y8,Y4,Y5] at h;obtain ⟨G3,hs3,G4,hs4,rfl,rfl⟩:=h;obtain ⟨b2,q2,fz,D1,hi1,ev1⟩:=Z2V hi ha hs1;obtain rfl:=Z1y q2;obtain ⟨g1,g2⟩:=hcall (.fn g) caps r1 G2 _ hcl hi1 (hG.mono ev1) cv ⟨hl,λi x hx=>ev1.pvr (h2 i x hx)⟩;rw [hP] at g1 g2;have key:=oFirst b2 o g cv (λw2=>∃ D2,Inv ⟨w2,s.Y,G2,D2⟩/\Ev ⟨s.w.setCell ⟨b2,o+1,none⟩ (.int .i32 1),s.Y,G1,D1⟩ ⟨w2,s.Y,G2,D2⟩) s.w c0 c1 (fz _) (fz _) g1 (g2.mono λen w2 ⟨v,hv2,D2,hi2,ev2,_⟩=>by
        have ha2:=ev2.pvr (ev1.pvr ha);obtain ⟨b3,q3,c3⟩:=Z2G hi2 ha2 e3;obtain rfl:=Z1y q3;obtain ⟨b4,q4,c4⟩:=Z2G hi2 ha2 e4;obtain rfl:=Z1y q4;obtain ⟨b5,q5,fz5,_⟩:=Z2V hi2 ha2 hs3;obtain rfl:=Z1y q5;exact ⟨v,hv2,⟨D2,hi2,ev2⟩,c3,c4,fz5 _,fz5 _⟩)
       refine key.mono ?_;rintro e w' ⟨rfl,w2,⟨D2,hi2,ev2⟩,rfl⟩;have hid:=drew_inv hi2;have evd:=drew_ev (s:=⟨w2,s.Y,G2,D2⟩);have ha3:=evd.pvr (ev2.pvr (ev1.pvr ha));obtain ⟨b3,q3,_,D3,hi3,ev3⟩:=Z2V hid ha3 hs3;obtain rfl:=Z1y q3;obtain ⟨b4,q4,_,D4,hi4,ev4⟩:=Z2V hi3 (ev3.pvr ha3) hs4;obtain rfl:=Z1y q4;exact ⟨_,rfl,D4,hi4,ev1.trans (ev2.trans (evd.trans (ev3.trans ev4))),.tup rfl (λi x hx=>by simp at hx)⟩
      ·cases h
     ·cases h
    ·rename_i hn;simp only [YA,Y5] at h;obtain ⟨rfl,rfl⟩:=h;refine (oDone ⟨b,o,none⟩ n hn _ s.w c0).mono ?_;rintro e w' ⟨rfl,rfl⟩;exact ⟨_,rfl,s.D,hi,Ev.refl s,.tup rfl (λi x hx=>by simp at hx)⟩
  ·cases h
theorem add_sound (hP:X.P=Tryd.prog) {call:ZO} {s:St} {args:List PV} {vs:Array Value} {r:PV} {G':Heap} (hi:Inv s) (hv:PVRs s args vs)
  (h:Z0K X.P call s.G (.add 2 0) args=some (r,G')):Calls Tryd.prog 23 vs s.w λen w'=>∃ v,en = .returned v/\Post s r G' v w':=by
 unfold Z0K at h
 split at h
 ·rename_i hp;cases hp
 ·rename_i t off a d hp;cases hp
  split at h
  ·rename_i n e0;obtain ⟨id,ver,o,rfl⟩:=Z4v e0;obtain ⟨u,x,rfl,ha,hd⟩:=args2 hv;obtain rfl:=Z0o hd;simp only [onward] at e0 h;obtain ⟨b,rfl,c0⟩:=Z2G hi ha e0;simp only [Y4,Y5] at h;obtain ⟨G1,hs,rfl,rfl⟩:=h;obtain ⟨b1,q1,fz,D1,hi1,ev1⟩:=Z2V hi ha hs;obtain rfl:=Z1y q1;refine (oAdd ⟨b1,o,none⟩ n d s.w c0 (fz _)).mono ?_;rintro e w' ⟨rfl,rfl⟩;exact ⟨_,rfl,D1,hi1,ev1,.v (.int _ _)⟩
  ·cases h
 ·rename_i hp;cases hp
 ·cases h
theorem load_sound (hP:X.P=Tryd.prog) {call:ZO} {s:St} {args:List PV} {vs:Array Value} {r:PV} {G':Heap} (hi:Inv s) (hv:PVRs s args vs)
  (h:Z0K X.P call s.G (.load 2 .i64 0) args=some (r,G')):Calls Tryd.prog 27 vs s.w λen w'=>∃ v,en = .returned v/\Post s r G' v w':=by
 unfold Z0K at h
 split at h
 ·rename_i t k off a hp;cases hp
  split at h
  ·rename_i k n e0
   split at h
   ·rename_i hk;subst hk;obtain ⟨id,ver,o,rfl⟩:=Z4v e0;obtain ⟨u,rfl,ha⟩:=args1 hv;simp only [onward] at e0;obtain ⟨b,rfl,c0⟩:=Z2G hi ha e0;simp only [YA,Y5] at h;obtain ⟨rfl,rfl⟩:=h;refine (oLoad ⟨b,o,none⟩ n s.w c0).mono ?_;rintro e w' ⟨rfl,rfl⟩;exact ⟨_,rfl,s.D,hi,Ev.refl s,.v (.int _ _)⟩
   ·cases h
  ·cases h
 ·rename_i hp;cases hp
 ·rename_i hp;cases hp
 ·cases h
theorem lib_sound (hP:X.P=Tryd.prog) (hq:X.prim=libPrim):Z5l X:=by
 intro f p hf call hcall htame s args vs r G' hi hG hv h
 rw [hq] at hf
 unfold libPrim at hf
 split at hf
 ·rename_i he;subst he;cases hf;exact ⟨by rw [hP];exact Z5e Tryd.func20 rfl rfl,by rw [hP];exact once_sound hP hcall hi hG hv h⟩
 ·split at hf
  ·rename_i he;subst he;cases hf;exact ⟨by rw [hP];exact Z5e Tryd.func23 rfl rfl,by rw [hP];exact add_sound hP hi hv h⟩
  ·split at hf
   ·rename_i he;subst he;cases hf;exact ⟨by rw [hP];exact Z5e Tryd.func27 rfl rfl,by rw [hP];exact load_sound hP hi hv h⟩
   ·cases hf
end Go.Dn

namespace Go.Dn
open Go Go.Proofs
def ownZ (f:FuncId):Bool:=f==3||f==4||f==5||f==6||f==7||f==10||f==13||f==14||f==20||f==21||f==23||f==27
def opnZ (f:FuncId):Bool:=f==7||f==10||f==13||f==20||f==21||f==23||f==27
def keepZ (f:FuncId):Bool:=f==10||f==13||f==20||f==21||f==23||f==27
noncomputable def CZ:Ctx:={ P:=Tryd.prog,glob:=CX.glob,intr:=λf args=>if ownZ f then none else Z4i CX f args,opn:=opnZ,keep:=keepZ,prim:=libPrim }
theorem lift {f:FuncId} {args:List PV} {r:PV} (hs:ownZ f=false) (h:Fn CX f args r) (hk:CZ.keep f=false) (ho:CZ.opn f=false):Fn CZ f args r:=by
 refine Fn.intr ?_ h.pure hk ho
 show (if ownZ f then none else Z4i CX f args)=some r
 rw [hs]
 exact liftI_of h
theorem cz_ok:CtxOK CZ:=by
 refine ⟨Z5b,λf args r h s hi hG vs hv hp=>?_,lib_sound rfl rfl⟩
 have h:(if ownZ f then none else Z4i CX f args)=some r:=h
 split at h
 ·cases h
 ·have hF:=liftI_fn h;obtain ⟨k,hk⟩:=Z0A.1 (hF.call s.G);exact Z3v cx_ok k (.fn f) args r s.G s hk hi hG vs hv
end Go.Dn

namespace Go.Dn
open Go
variable {X:Ctx} {n:Nat} {dr:Bool} {ops:Array Oper} {base i:Nat} {l:List Oper} {e:Env} {G G':Heap} {K:Env->Heap->Prop} {d:Nat} {t t1:TypeId} {p:String} {af:Array Edge} {lo hi:Nat} {L:List Res}
theorem prim_call {f:FuncId} {q:Prim} {args:List PV} {r:PV} (hq:X.prim f=some q) (hi:X.intr f args=none) (hk:X.keep f=true) (ho:X.opn f=true) (hfr:X.fresh f=false) (h:Z0K X.P (ZZ X) G q args=some (r,G')):ZZ X (.fn f) args G=some (r,G') :=
 Z0V (lf:=0) (by simp only [Z20,hi,hk,if_true,ho,hfr,Yx,YF,if_false,Z02,hq,h])
theorem Ops.callPr {f:FuncId} {q:Prim} {args:Array Operand} {ts:Array TypeId} {ys:List PV} {r:PV} (ha:ZC X e args.toList=some ys) (hq:X.prim f=some q) (hf:(X.intr f ys,X.keep f,X.opn f,X.fresh f)=(none,true,true,false)) (h:Z0K X.P (ZZ X) G q ys=some (r,G'))
  (hdr:dr=true->Z1B (Region.before ops) ops i=true) (hd:Nat.blt d n=true) (hk:Ops X n dr ops base (i+1) l (set e d r) G' K) :
  Ops X n dr ops base i (⟨some d,.call { callee:=.value (.func f),args:=args,argTypes:=ts },t,p,af,none⟩::l) e G K:=by
 simp only [Y5] at hf
 obtain ⟨f1,f2,f3,f4⟩:=hf
 exact .plain (x:=r) (G1:=G') (by simp only [Z1,ZP,ha,Z0,prim_call hq f1 f2 f3 f4 h]) (λh=>Z3G (hdr h)) hd hk
theorem prim_load {P:Program} {call:ZO} {id ver off:Nat} {te:TypeId} {cells:List PV} {m:Int} (H:Has G lo hi L) (k:Nat) (hk:L[k]? = some (.blk id te cells)) (hv:cells.length=ver) (hg:tagg P t=some false) (hc:cells[off]? = some (.v (.int .i64 m))) :
  Z0K P call G (.load t .i64 0) [.ptr id ver off]=some (.v (.int .i64 m),G):=by
 simp only [Z0K,onward,Y0D,Z0H,H.blk hk,hv,if_true,hg,hc]
theorem prim_add {P:Program} {call:ZO} {id ver off:Nat} {te:TypeId} {cells cells':List PV} {m dl:Int} (H:Has G lo hi L) (k:Nat) (hk:L[k]? = some (.blk id te cells)) (hv:cells.length=ver) (hg:tagg P t=some false) (hs:tsize P t=some 1) (hc:cells[off]? = some (.v (.int .i64 m)))
  (hc':splice cells off [.v (.int .i64 (IntKind.i64.wrap (m+dl)))]=cells') :
  ∃ G',Z0K P call G (.add t 0) [.ptr id ver off,.v (.int .i64 dl)]=some (.v (.int .i64 (IntKind.i64.wrap (m+dl))),G')/\Has G' lo hi (L.set k (.blk id te cells')):=by
 have hl:off+1<=ver:=by rw [<- hv];exact (List.getElem?_eq_some_iff.1 hc).1
 refine ⟨G.put id (.blk te cells' true),?_,H.put hk rfl (r':=.blk id te cells') Z0j rfl⟩
 simp only [Z0K,onward,Y0D,Z0H,Z0Z,H.blk hk,hv,if_true,hg,hc,hs,PV.cells,YX,Yl,Yu,hc']
 rw [if_pos ⟨trivial,hl⟩]
 rfl
end Go.Dn

namespace Go.Dn
open Go
section
variable {α:Type}
theorem Z4T {sz:Nat}:∀ {xs:List (List α)},(∀ y∈xs,y.length=sz)->xs.flatten.length=xs.length*sz
 | [],_=>by simp
 | x::xs,h=>by
  have:=Z4T (xs:=xs) λy hy=>h y (YR _ hy);simp only [Yb,Yc,this,h x YV,YX,Y0g];omega
theorem pf_drop {sz:Nat}:∀ {xs:List (List α)},(∀ y∈xs,y.length=sz)->∀ {i:Nat} {y:List α},xs[i]? = some y->xs.flatten.drop (i*sz)=y++(xs.drop (i+1)).flatten
 | [],_,i,y,h=>by simp at h
 | x::xs,hs,0,y,h=>by
  simp at h;subst h;simp
 | x::xs,hs,i+1,y,h=>by
  have hx:=hs x YV;have:=pf_drop (xs:=xs) (λy hy=>hs y (YR _ hy)) (i:=i) (y:=y) (by simpa using h)
  rw [Yb,Y0g,Nat.add_comm (i*sz) sz,<- hx,<- List.drop_drop,List.drop_left,hx,this]
  simp
theorem pf_get {sz:Nat} {xs:List (List α)} (hs:∀ y∈xs,y.length=sz) {i j:Nat} {y:List α} (h:xs[i]? = some y) (hj:j<sz):xs.flatten[i*sz+j]? = y[j]?:=by
 rw [<- YY,pf_drop hs h,YN (by rw [hs y (YC h)];exact hj)]
theorem pf_lt {xs:List (List α)} {i:Nat} {y:List α} (h:xs[i]? = some y):i<xs.length:=(List.getElem?_eq_some_iff.1 h).1
theorem pf_part {sz off m:Nat} {xs:List (List α)} (hs:∀ y∈xs,y.length=sz) {i:Nat} {y:List α} (h:xs[i]? = some y) (hm:off+m<=sz):(xs.flatten.drop (i*sz+off)).take m=(y.drop off).take m:=by
 have hy:=hs y (YC h)
 rw [<- List.drop_drop,pf_drop hs h,Y0M (by omega),Y03 (by rw [Y0W];omega)]
end
theorem pf_splice {sz:Nat} {xs:List (List PV)} (hs:∀ y∈xs,y.length=sz) {i:Nat} {y:List PV} (h:xs[i]? = some y) {off:Nat} {zs:List PV} (hle:off+zs.length<=sz) :
  splice xs.flatten (i*sz+off) zs=(xs.set i (y.take off++zs++y.drop (off+zs.length))).flatten:=by
 have hy:=hs y (YC h)
 have hi:=pf_lt h
 have e1:xs.flatten=(xs.take i).flatten++(y++(xs.drop (i+1)).flatten):=by
  conv=>lhs;rw [<- Y0Q i xs]
  rw [Y08,Y0Y hi,Yb];rw [Y9 hi] at h;cases h;rfl
 have e2:xs.set i (y.take off++zs++y.drop (off+zs.length))=xs.take i++(y.take off++zs++y.drop (off+zs.length))::xs.drop (i+1):=by
  rw [Ys,if_pos hi]
 have hl:(xs.take i).flatten.length=i*sz:=by
  rw [Z4T (sz:=sz) λy hy=>hs y (Y0E hy),Yn,Nat.min_eq_left (by omega)]
 rw [e2]
 unfold splice
 rw [e1,Y08,Yb]
 have t1:List.take (i*sz+off) ((xs.take i).flatten++(y++(xs.drop (i+1)).flatten))=(xs.take i).flatten++y.take off:=by
  rw [List.take_append,hl,Y0N (by omega),Y03 (by omega)]
  congr 2;omega
 have t2:List.drop (i*sz+off+zs.length) ((xs.take i).flatten++(y++(xs.drop (i+1)).flatten))=y.drop (off+zs.length)++(xs.drop (i+1)).flatten:=by
  rw [List.drop_append,hl,List.drop_eq_nil_of_le (by omega),List.nil_append,Y0M (by omega)]
  congr 2;omega
 rw [t1,t2]
 simp only [Yt]
variable {P:Program} {G:Heap} {t:TypeId} {lo hi:Nat} {L:List Res}
theorem Z4F {id ver off:Nat} {te:TypeId} {cells:List PV} {w:PV} (H:Has G lo hi L) (k:Nat) (hk:L[k]? = some (.blk id te cells)) (hv:cells.length=ver) (hg:tagg P t=some false) (hc:cells[off]? = some w):Z0H P G t (.ptr id ver off)=some w:=by
 simp only [Z0H,H.blk hk,hv,if_true,hg,hc]
theorem Z5c {id ver off:Nat} {te:TypeId} {cells cells':List PV} {w:FV} (H:Has G lo hi L) (k:Nat) (hk:L[k]? = some (.blk id te cells)) (hv:cells.length=ver) (hs:tsize P t=some 1) (hl:off+1<=ver) (hc':splice cells off [.v w]=cells') :
  ∃ G',Z0Z P G t (.v w) (.ptr id ver off)=some G'/\Has G' lo hi (L.set k (.blk id te cells')):=by
 refine ⟨G.put id (.blk te cells' true),?_,H.put hk rfl (r':=.blk id te cells') Z0j rfl⟩
 simp only [Z0Z,H.blk hk,hv,if_true,hs,PV.cells,YX,Yl,Yu,hc']
 rw [if_pos ⟨trivial,hl⟩]
theorem once_done {call:ZO} {id ver off:Nat} {te ti:TypeId} {cells:List PV} {m:Nat} {dn:Int} {g:FuncId} {caps:List PV} (H:Has G lo hi L) (k:Nat) (hk:L[k]? = some (.blk id te cells)) (hv:cells.length=ver) (hg:tagg P t=some false) (hc:cells[off]? = some (.v (.int .u32 dn))) (hd:¬ dn=0) :
  Z0K P call G (.once t ti 0 m) [.ptr id ver off,.clo g [] caps]=some (.tup [],G):=by
 simp only [Z0K,onward,Y0D,Z4F H k hk hv hg hc,if_neg hd]
theorem once_first {call:ZO} {id ver off:Nat} {te ti:TypeId} {cells cells1 cells2 cells3 cells4:List PV} {g:FuncId} {caps:List PV} {L2:List Res} (H:Has G lo hi L) (k:Nat) (hk:L[k]? = some (.blk id te cells)) (hv:cells.length=ver)
  (hg:tagg P t=some false) (hgi:tagg P ti=some false) (hm:tsize P t=some 1) (hmi:tsize P ti=some 1) (hl:off+2<=ver) (hw:cells[off]? = some (.v (.int .u32 0))) (hw1:cells[off+1]? = some (.v (.int .i32 0)))
  (hc1:splice cells (off+1) [.v (.int .i32 1)]=cells1)
  (hc:∀ G1,Has G1 lo hi (L.set k (.blk id te cells1))->∃ r G2,call (.fn g) caps G1=some (r,G2)/\Has G2 lo hi L2)
  (hk2:L2[k]? = some (.blk id te cells2)) (hv2:cells2.length=ver) (hw2:cells2[off]? = some (.v (.int .u32 0))) (hw3:cells2[off+1]? = some (.v (.int .i32 1)))
  (hc3:splice cells2 off [.v (.int .u32 1)]=cells3) (hv3:cells3.length=ver) (hc4:splice cells3 (off+1) [.v (.int .i32 0)]=cells4) :
  ∃ G4,Z0K P call G (.once t ti 0 1) [.ptr id ver off,.clo g [] caps]=some (.tup [],G4)/\Has G4 lo hi (L2.set k (.blk id te cells4)):=by
 obtain ⟨G1,q1,H1⟩:=Z5c (P:=P) (t:=ti) (w:=.int .i32 1) H k hk hv hmi (off:=off+1) (by omega) hc1
 obtain ⟨r,G2,q2,H2⟩:=hc G1 H1
 have e3:=Z4F (P:=P) H2 k hk2 hv2 hg hw2
 have e4:=Z4F (P:=P) H2 k hk2 hv2 hgi hw3
 obtain ⟨G3,q3,H3⟩:=Z5c (P:=P) (t:=t) (w:=.int .u32 1) H2 k hk2 hv2 hm (off:=off) (by omega) hc3
 have hkl:k<L2.length:=(List.getElem?_eq_some_iff.1 hk2).1
 obtain ⟨G4,q4,H4⟩:=Z5c (P:=P) (t:=ti) (w:=.int .i32 0) H3 k (by rw [Y0O hkl]) hv3 hmi (off:=off+1) (by omega) hc4
 refine ⟨G4,?_,?_⟩
 ·simp only [Z0K,onward,Y0D,Z4F H k hk hv hg hw,Z4F H k hk hv hgi hw1,if_true,q1,Y3,q2,e3,e4,q3,q4,YE]
 ·rw [List.set_set] at H4;exact H4
end Go.Dn

namespace Go.Dn
open Go Go.Proofs
section
variable {X:Ctx} {n:Nat} {dr:Bool} {ops:Array Oper} {base i:Nat} {l:List Oper} {e:Env} {G:Heap} {K:Env->Heap->Prop} {d:Nat} {t t1 t2:TypeId} {p:String} {af:Array Edge} {x y:Operand} {lo hi:Nat} {L:List Res}
theorem Ops.indexK {id m sz ver:Nat} {el te:TypeId} {cells:List PV} {ik:IntKind} {iv:Int} (H:Has G lo hi L) (k:Nat) (hk:L[k]? = some (.blk id te cells)) (hv:cells.length=ver) (hx:Z0 X e x=some (.buf id m sz)) (hm:m*sz=ver)
  (hy:Z0 X e y=some (.v (.int ik iv))) (h0:0<=iv) (hlt:iv.toNat<m) (ht:tslice X.P t1=some el) (hs:tsize X.P el=some sz) (ha:dr=true->Seen ops base i id false) (hd:Nat.blt d n=true)
  (hk':Ops X n dr ops base (i+1) l (set e d (.ptr id ver (iv.toNat*sz))) G K):Ops X n dr ops base i (⟨some d,.indexAddr t1 x y,t,p,af,none⟩::l) e G K:=by
 subst hm
 refine .plain (x:=.ptr id (m*sz) (iv.toNat*sz)) (G1:=G) ?_ (λh=>Z0h (ids:=[id]) rfl ?_ (λj hj=>by simp at hj;subst hj;exact ha h)) hd hk'
 ·have hc:G.cur id (m*sz)=true:=H.cur hk hv;simp only [Z1,hx,hy,Zx,Z2Z,if_pos h0,ht,hc,hs,Bool.true_and,beq_self_eq_true,decide_eq_true hlt,Ym,if_true,YE]
 ·simp only [touched,ZE,YH,YL,hx,vids,YM]
theorem Ops.eqPtr {id ver off:Nat} {te pt:TypeId} {cells:List PV} (H:Has G lo hi L) (k:Nat) (hk:L[k]? = some (.blk id te cells)) (hv:cells.length=ver) (hx:Z0 X e x=some (.ptr id ver off)) (hy:Z0 X e y=some (.v .nilp)) (ht:tpointer X.P t1=some pt) (hdr:dr=false) (hd:Nat.blt d n=true)
  (hk':Ops X n dr ops base (i+1) l (set e d (.v (.bool false))) G K):Ops X n dr ops base i (⟨some d,.binOp .eql t1 x y t2,t,p,af,none⟩::l) e G K :=
 Ops.binA hx hy (by simp only [binD,ht,Z2U,H.cur hk hv,if_true,YE]) (λh=>by rw [hdr] at h;cases h) hd hk'
theorem Ops.eqBuf {id m sz:Nat} {te el:TypeId} {cells:List PV} (H:Has G lo hi L) (k:Nat) (hk:L[k]? = some (.blk id te cells)) (hv:cells.length=m*sz) (hx:Z0 X e x=some (.buf id m sz)) (hy:Z0 X e y=some .nils) (ht:tslice X.P t1=some el) (hdr:dr=false) (hd:Nat.blt d n=true)
  (hk':Ops X n dr ops base (i+1) l (set e d (.v (.bool false))) G K):Ops X n dr ops base i (⟨some d,.binOp .eql t1 x y t2,t,p,af,none⟩::l) e G K :=
 Ops.binA hx hy (by simp only [binD,ht,Z3p,H.cur hk hv,if_true,YE]) (λh=>by rw [hdr] at h;cases h) hd hk'
end
def kcell:Option Form->List PV
 | none=>[.v (.int .u32 0),.v (.int .i32 0),.v (.int .u32 0),.v (.int .i64 0),.v (.int .i64 0),.nils,.nils]
 | some f=>.v (.int .u32 1) :: .v (.int .i32 0) :: .v (.int .u32 0)::vs (Form.cs f)
def kcells (ks:List (Option Form)):List PV:=(ks.map kcell).flatten
theorem kcell_len (k:Option Form):(kcell k).length=7:=by cases k<;>rfl
theorem Z5T (ks:List (Option Form)):∀ y∈ks.map kcell,y.length=7:=λy hy=>by
 obtain ⟨k,_,rfl⟩:=List.mem_map.1 hy
 exact kcell_len k
theorem Z6k (ks:List (Option Form)):(kcells ks).length=ks.length*7:=by
 unfold kcells
 rw [Z4T (Z5T ks),Ye]
theorem kset_len {l:List (List PV)} (h:∀ y∈l,y.length=7) {i:Nat} {y1:List PV} (h1:y1.length=7):∀ y∈l.set i y1,y.length=7:=λy hy=>by
 rcases List.mem_or_eq_of_mem_set hy with h2|rfl
 ·exact h y h2
 ·exact h1
theorem kcells_steps {ks:List (Option Form)} {i:Nat} {f:Form} (h:ks[i]? = some none) :
  (kcells ks)[i*7]? = some (.v (.int .u32 0))/\(kcells ks)[i*7+1]? = some (.v (.int .i32 0)) /\
  ∃ c1 c2 c3,splice (kcells ks) (i*7+1) [.v (.int .i32 1)]=c1/\c1.length=ks.length*7/\splice c1 (i*7+3) (vs (Form.cs f))=c2/\c2.length=ks.length*7 /\
   c2[i*7]? = some (.v (.int .u32 0))/\c2[i*7+1]? = some (.v (.int .i32 1))/\splice c2 (i*7) [.v (.int .u32 1)]=c3/\c3.length=ks.length*7/\splice c3 (i*7+1) [.v (.int .i32 0)]=kcells (ks.set i (some f)):=by
 have hy:(ks.map kcell)[i]? = some (kcell none):=by rw [YQ,h];rfl
 have hl:=Z5T ks
 have hi:i<(ks.map kcell).length:=pf_lt hy
 have st:∀ (y z zs:List PV) (off:Nat),y.length=7->off+zs.length<=7->y.take off++zs++y.drop (off+zs.length)=z->splice ((ks.map kcell).set i y).flatten (i*7+off) zs=((ks.map kcell).set i z).flatten:=λy z zs off h1 h2 h3=>by
  rw [pf_splice (kset_len hl h1) (Y0O hi) h2,List.set_set,h3]
 have ln:∀ y:List PV,y.length=7->((ks.map kcell).set i y).flatten.length=ks.length*7:=λy h1=>by
  rw [Z4T (kset_len hl h1),List.length_set,Ye]
 have gt:∀ (y:List PV) (j:Nat),y.length=7->j<7->((ks.map kcell).set i y).flatten[i*7+j]? = y[j]?:=λy j h1 h2=>pf_get (kset_len hl h1) (Y0O hi) h2
 refine ⟨pf_get hl hy (j:=0) (by decide),pf_get hl hy (j:=1) (by decide),((ks.map kcell).set i [.v (.int .u32 0),.v (.int .i32 1),.v (.int .u32 0),.v (.int .i64 0),.v (.int .i64 0),.nils,.nils]).flatten,
  ((ks.map kcell).set i ([.v (.int .u32 0),.v (.int .i32 1),.v (.int .u32 0)]++vs (Form.cs f))).flatten,((ks.map kcell).set i ([.v (.int .u32 1),.v (.int .i32 1),.v (.int .u32 0)]++vs (Form.cs f))).flatten,
  pf_splice hl hy (off:=1) (zs:=[.v (.int .i32 1)]) (by decide),ln _ rfl,st _ _ (vs (Form.cs f)) 3 rfl (by show 3+4<=7;decide) rfl,ln _ rfl,gt _ 0 rfl (by decide),gt _ 1 rfl (by decide),st _ _ [.v (.int .u32 1)] 0 rfl (by decide) rfl,ln _ rfl,(st _ (kcell (some f)) [.v (.int .i32 0)] 1 rfl (by decide) rfl).trans ?_⟩
 unfold kcells
 rw [List.map_set]
theorem Z6I {ks:List (Option Form)} {i:Nat} {f:Form} (h:ks[i]? = some (some f)) :
  (kcells ks)[i*7]? = some (.v (.int .u32 1))/\((kcells ks).drop (i*7+3)).take 4=vs (Form.cs f):=by
 have hy:(ks.map kcell)[i]? = some (kcell (some f)):=by rw [YQ,h];rfl
 exact ⟨pf_get (Z5T ks) hy (j:=0) (by decide),pf_part (Z5T ks) hy (off:=3) (m:=4) (by decide)⟩
end Go.Dn

namespace Go.Dn
open Go Go.Proofs
variable {G:Heap} {T:List Res}
set_option maxRecDepth 100000 in
set_option maxHeartbeats 4000000 in
theorem form1_call {ida idp idr idb idc idk:Nat} {i m:Int} {f:Form} {rc c1 c2:List PV} (hf:Z0u i=some f) (hl:c1.length=42) (hi:i.toNat<6) (hc2:splice c1 (i.toNat*7+3) (vs (Form.cs f))=c2)
  (H:Hs G ([.blk idp 60 [.ptr idk 42 (i.toNat*7)],.blk ida 3 [.v (.int .i64 i)],.blk idr 29 rc,.blk idb 22 [.ptr idc 2 0],.blk idc 44 [.buf idk 6 7,.v (.int .i64 m)],.blk idk 72 c1]++T)) :
  CallI CZ (.v (.fn 21)) [.ptr ida 1 0,.ptr idp 1 0,.ptr idb 1 0] G T (λr A=>A=[.blk idp 60 [.ptr idk 42 (i.toNat*7)],.blk ida 3 [.v (.int .i64 i)],.blk idr 29 rc,.blk idb 22 [.ptr idc 2 0],.blk idc 44 [.buf idk 6 7,.v (.int .i64 (w64 (m+1)))],.blk idk 72 c2]):=by
 refine callI_of Tryd.func21 rfl (λ_=>rfl) rfl rfl rfl rfl ?_
 apply Runs.then
 refine Runs.Z0b 6 rfl (by kernel_rfl) H ?_;intro b1 G H B1
 refine Ops.Z2m (off:=0) (v:=.ptr idk 42 (i.toNat*7)) H 0 rfl rfl rfl rfl rfl (λ_=>.inl ⟨B1 0 _ rfl _ rfl,nofun,(λ_=>by kernel_rfl)⟩) rfl ?_
 refine Ops.Z2m (off:=0) (v:=.v (.int .i64 i)) H 1 rfl rfl rfl rfl rfl (λ_=>.inl ⟨B1 1 _ rfl _ rfl,nofun,(λ_=>by kernel_rfl)⟩) rfl ?_
 refine Ops.call (ys:=[(.v (.int .i64 i))]) (r:=.agg (vs (Form.cs f))) rfl (lift rfl (basis_made_fn hf) rfl rfl) rfl ?_
 refine Ops.Z1h (off:=i.toNat*7) H 5 rfl hl rfl (λ_=>.inl ⟨B1 5 _ rfl _ rfl,nofun,(λ_=>by kernel_rfl)⟩) rfl ?_
 refine Ops.Z6 (off:=i.toNat*7) (fo:=3) H 5 rfl hl rfl rfl rfl (λ_=>.inl ⟨B1 5 _ rfl _ rfl,nofun,(λ_=>by kernel_rfl)⟩) rfl ?_
 refine Ops.Z2H (off:=i.toNat*7+3) (m:=4) (cells':=c2) H 5 rfl hl rfl rfl rfl rfl rfl (Nat.ble_eq_true_of_le (by omega)) hc2 (λ_=>.inl ⟨B1 5 _ rfl _ rfl,(Z3f (by kernel_rfl))⟩) ?_;intro G H
 apply Ops.nil
 replace H:=H.all
 refine Runs.ZJ 4 rfl H ?_;intro b2 G H
 refine Ops.Z2m (off:=0) (v:=.ptr idc 2 0) H 3 rfl rfl rfl rfl rfl nofun rfl ?_
 refine Ops.Z1h (off:=0) H 4 rfl rfl rfl nofun rfl ?_
 refine Ops.Z6 (off:=0) (fo:=1) H 4 rfl rfl rfl rfl rfl nofun rfl ?_
 obtain ⟨G',q1,H⟩:=prim_add (P:=CZ.P) (call:=ZZ CZ) (t:=2) (off:=1) (m:=m) (dl:=1) (cells':=[.buf idk 6 7,.v (.int .i64 (w64 (m+1)))]) H 4 rfl rfl rfl rfl rfl rfl
 refine Ops.callPr rfl rfl rfl q1 nofun rfl ?_
 apply Ops.nil
 replace H:=H.all
 exact ⟨.inl rfl,[],Z2A H .nil,_,rfl,H⟩
set_option maxRecDepth 100000 in
set_option maxHeartbeats 4000000 in
theorem Z37 {idc idk:Nat} {name:ByteArray} {ks ks':List (Option Form)} {m m':Int} {g:Form} {e:Int} (h:Z10 name (ks,m)=some ((g,e),(ks',m')))
  (H:Hs G ([.blk idc 44 [.buf idk 6 7,.v (.int .i64 m)],.blk idk 72 (kcells ks)]++T)) :
  CallI CZ (.v (.fn 10)) [.ptr idc 2 0,.v (.str name)] G T (λr A=>∃ w1 w2,RO w1 (g.Core.map (cL Span.cs))/\RO w2 (g.Odd.map Granule.cs)/\r = .tup [.agg [.v (.int .i64 g.Period),.v (.int .i64 g.Count),w1,w2],.v (.int .i64 e)] /\
   A=[.blk idc 44 [.buf idk 6 7,.v (.int .i64 m')],.blk idk 72 (kcells ks')]):=by
 unfold Z10 at h
 have hks:ks.length=6:=by
  cases hq:ks.length==6 with
  | true=>exact eq_of_beq hq
  | false=>simp only [hq,cond_false] at h;cases h
 have h:=Z54 (by simpa using hks) h
 have hl:(kcells ks).length=42:=by rw [Z6k,hks]
 refine callI_of Tryd.func10 rfl (λ_=>rfl) rfl rfl rfl rfl ?_
 obtain ⟨i,hi,h⟩:=bind_some h
 apply Runs.then
 refine Runs.ZJ 3 rfl H ?_;intro b1 G H
 refine Ops.boxH (cs:=[.ptr idc 2 0]) H (by omega) (by omega) rfl rfl rfl ?_;intro G H
 refine Ops.allocH (cs:=[(.v (.int .i64 0)),(.v (.int .i64 0)),.nils,.nils]) H (by omega) (by omega) rfl rfl ?_;intro G H
 refine Ops.assign (v:=(.v (.int .i64 0))) rfl rfl ?_
 apply Ops.nil
 replace H:=H.all
 apply Runs.then
 apply Runs.then
 refine Runs.ZJ 9 rfl H ?_;intro b2 G H
 refine Ops.Z2m (off:=0) (v:=.ptr idc 2 0) H 1 rfl rfl rfl rfl rfl nofun rfl ?_
 refine Ops.eqPtr (off:=0) H 2 rfl rfl rfl rfl rfl rfl rfl ?_
 refine Ops.move (v:=(.v (.bool false))) rfl rfl ?_
 refine Ops.wanted rfl rfl ?_
 refine Ops.Z2m (off:=0) (v:=.ptr idc 2 0) H 1 rfl rfl rfl rfl rfl nofun rfl ?_
 refine Ops.wanted rfl rfl ?_
 refine Ops.Z1h (off:=0) H 2 rfl rfl rfl nofun rfl ?_
 refine Ops.wanted rfl rfl ?_
 refine Ops.Z6 (off:=0) (fo:=0) H 2 rfl rfl rfl rfl rfl nofun rfl ?_
 refine Ops.wanted rfl rfl ?_
 refine Ops.Z2m (off:=0) (v:=.buf idk 6 7) H 2 rfl rfl rfl rfl rfl nofun rfl ?_
 refine Ops.wanted rfl rfl ?_
 refine Ops.eqBuf H 3 rfl hl rfl rfl rfl rfl rfl ?_
 refine Ops.pickF (v:=(.v (.bool false))) rfl rfl rfl ?_
 apply Ops.nil
 replace H:=H.all
 refine Runs.no rfl ?_
 apply Runs.skip
 apply Runs.then
 refine Runs.ZJ 5 rfl H ?_;intro b3 G H
 refine Ops.call (ys:=[]) (r:=.v (.sl (Z9.map cS))) rfl (lift rfl (Z2I rfl) rfl rfl) rfl ?_
 refine Ops.move (v:=.v (.str name)) rfl rfl ?_
 refine Ops.call (ys:=[.v (.sl (Z9.map cS)),.v (.str name)]) (r:=.v (.int .i64 i)) rfl (lift rfl (Z1Z hi) rfl rfl) rfl ?_
 refine Ops.allocH (cs:=[(.v (.int .i64 0))]) H (by omega) (by omega) rfl rfl ?_;intro G H
 refine Ops.Z2H (off:=0) (cells':=[(.v (.int .i64 i))]) H 0 rfl rfl rfl rfl rfl rfl rfl rfl rfl nofun ?_;intro G H
 apply Ops.nil
 replace H:=H.all
 apply Runs.then
 apply Runs.then
 refine Runs.ZJ 2 rfl H ?_;intro b4 G H
 refine Ops.Z2m (off:=0) (v:=.v (.int .i64 i)) H 0 rfl rfl rfl rfl rfl nofun rfl ?_
 refine Ops.int (m:=i) (m':=0) (r:=.bool (decide (i<0))) rfl rfl rfl rfl rfl ?_
 apply Ops.nil
 replace H:=H.all
 refine Runs.whether (v:=decide (i<0)) rfl ?_ ?_<;>intro hc2
 ·replace h:=Z54 hc2 h;simp only [YA,Y5] at h;obtain ⟨⟨rfl,rfl⟩,rfl,rfl⟩:=h;apply Runs.then;refine Runs.ZJ 3 rfl H ?_;intro b5 G H;refine Ops.Z5w (cs:=[(.v (.int .i64 0)),(.v (.int .i64 0)),.nils,.nils]) rfl rfl ?_;refine Ops.Z2H (off:=0) (cells':=[(.v (.int .i64 0)),(.v (.int .i64 0)),.nils,.nils]) H 1 rfl rfl rfl rfl rfl rfl rfl rfl rfl nofun ?_;intro G H;refine Ops.assign (v:=(.v (.int .i64 80))) rfl rfl ?_;apply Ops.nil;replace H:=H.all;apply Runs.ret;exact ⟨.inr rfl,_,Z2A H (.agg (cs:=[(.v (.int .i64 0)),(.v (.int .i64 0)),.nils,.nils]) (off:=0) 1 rfl rfl rfl rfl rfl rfl rfl (.tmp (v:=.v (.int .i64 80)) rfl .nil)),_,⟨.nils,.nils,.inl ⟨rfl,rfl⟩,.inl ⟨rfl,rfl⟩,rfl,rfl⟩,H.drop 3⟩
 ·replace h:=Z5d hc2 h;have hi0:0<=i:=by
   have:=of_decide_eq_false hc2;omega
  obtain ⟨k,hk,h⟩:=bind_some h;obtain ⟨_,hk⟩:=at?_some hk;have hi6:i.toNat<6:=hks▸(List.getElem?_eq_some_iff.1 hk).1;apply Runs.skip;apply Runs.then;refine Runs.Z0b 8 rfl (by kernel_rfl) H ?_;intro b5 G H B5
  refine Ops.Z2m (off:=0) (v:=.ptr idc 2 0) H 2 rfl rfl rfl rfl rfl (λ_=>.inl ⟨B5 2 _ rfl _ rfl,nofun,(λ_=>by kernel_rfl)⟩) rfl ?_
  refine Ops.Z1h (off:=0) H 3 rfl rfl rfl (λ_=>.inl ⟨B5 3 _ rfl _ rfl,nofun,(λ_=>by kernel_rfl)⟩) rfl ?_
  refine Ops.Z6 (off:=0) (fo:=0) H 3 rfl rfl rfl rfl rfl (λ_=>.inl ⟨B5 3 _ rfl _ rfl,nofun,(λ_=>by kernel_rfl)⟩) rfl ?_
  refine Ops.Z2m (off:=0) (v:=.buf idk 6 7) H 3 rfl rfl rfl rfl rfl (λ_=>.inl ⟨B5 3 _ rfl _ rfl,nofun,(λ_=>by kernel_rfl)⟩) rfl ?_
  refine Ops.Z2m (off:=0) (v:=.v (.int .i64 i)) H 0 rfl rfl rfl rfl rfl (λ_=>.inl ⟨B5 0 _ rfl _ rfl,nofun,(λ_=>by kernel_rfl)⟩) rfl ?_
  refine Ops.indexK (m:=6) (sz:=7) H 4 rfl hl rfl rfl rfl hi0 hi6 rfl rfl (λ_=>.inl ⟨B5 4 _ rfl _ rfl,nofun,(λ_=>by kernel_rfl)⟩) rfl ?_
  refine Ops.allocH (cs:=[(.v .nilp)]) H (by omega) (by omega) rfl rfl ?_;intro G H
  refine Ops.Z2H (off:=0) (cells':=[.ptr idk 42 (i.toNat*7)]) H 0 rfl rfl rfl rfl rfl rfl rfl rfl rfl (λ_=>.inr ⟨6,rfl,by kernel_rfl,by decide⟩) ?_;intro G H
  apply Ops.nil;replace H:=H.all;apply Runs.then;refine Runs.ZJ 5 rfl H ?_;intro b6 G H;refine Ops.Z2m (off:=0) (v:=.ptr idk 42 (i.toNat*7)) H 0 rfl rfl rfl rfl rfl nofun rfl ?_;refine Ops.Z1h (off:=i.toNat*7) H 5 rfl hl rfl nofun rfl ?_;refine Ops.Z6 (off:=i.toNat*7) (fo:=0) H 5 rfl hl rfl rfl rfl nofun rfl ?_;refine Ops.makeClo (fs:=[]) (cs:=[.ptr (b3+3) 1 0,.ptr (b5+6) 1 0,.ptr (b1+0) 1 0]) rfl rfl rfl rfl ?_
  obtain ⟨f,hg,hkf,hl2,he,G',q1,H⟩ : ∃ f,ZD f=some g/\ks'[i.toNat]? = some (some f)/\ks'.length=6/\e=0/\∃ G',Z0K CZ.P (ZZ CZ) G (.once 62 21 0 1) [.ptr idk 42 (i.toNat*7),.clo 21 [] [.ptr (b3+3) 1 0,.ptr (b5+6) 1 0,.ptr (b1+0) 1 0]]=some (.tup [],G') /\
    Has G' b6 (b6+5) ([.blk (b5+6) 60 [.ptr idk 42 (i.toNat*7)],.blk (b3+3) 3 [.v (.int .i64 i)],.blk (b1+1) 29 [(.v (.int .i64 0)),(.v (.int .i64 0)),.nils,.nils],.blk (b1+0) 22 [.ptr idc 2 0],.blk idc 44 [.buf idk 6 7,.v (.int .i64 m')],.blk idk 72 (kcells ks')]++T):=by
   cases k with
   | some f=>
    obtain ⟨g',hg,h⟩:=bind_some h;simp only [YA,Y5] at h;obtain ⟨⟨rfl,rfl⟩,rfl,rfl⟩:=h;exact ⟨f,hg,hk,hks,rfl,G,once_done H 5 rfl hl rfl (Z6I hk).1 (by decide),H⟩
   | none=>
    obtain ⟨f,hf,h⟩:=bind_some h;obtain ⟨g',hg,h⟩:=bind_some h;simp only [YA,Y5] at h;obtain ⟨⟨rfl,rfl⟩,rfl,rfl⟩:=h;obtain ⟨u1,u2,c1,c2,c3,s1,l1,s2,l2,u3,u4,s3,l3,s4⟩:=kcells_steps (f:=f) hk;rw [hks] at l1 l2 l3;obtain ⟨G4,q,H4⟩:=once_first (P:=CZ.P) (call:=ZZ CZ) (t:=62) (ti:=21) (g:=21) (caps:=[.ptr (b3+3) 1 0,.ptr (b5+6) 1 0,.ptr (b1+0) 1 0]) (cells2:=c2)
     (L2:=[.blk (b5+6) 60 [.ptr idk 42 (i.toNat*7)],.blk (b3+3) 3 [.v (.int .i64 i)],.blk (b1+1) 29 [(.v (.int .i64 0)),(.v (.int .i64 0)),.nils,.nils],.blk (b1+0) 22 [.ptr idc 2 0],.blk idc 44 [.buf idk 6 7,.v (.int .i64 (w64 (m+1)))],.blk idk 72 c2]++T)
     H 5 rfl hl rfl rfl rfl rfl (by omega) u1 u2 s1 (λG1 H1=>by
      obtain ⟨r,G2,A',p1,rfl,p3⟩:=Z4q (X:=CZ) [.blk (b5+6) 60 [.ptr idk 42 (i.toNat*7)],.blk (b3+3) 3 [.v (.int .i64 i)],.blk (b1+1) 29 [(.v (.int .i64 0)),(.v (.int .i64 0)),.nils,.nils],.blk (b1+0) 22 [.ptr idc 2 0],.blk idc 44 [.buf idk 6 7,.v (.int .i64 m)],.blk idk 72 c1] H1 (λT _ H=>form1_call hf l1 hi6 s2 H);exact ⟨r,G2,p1,p3⟩) rfl l2 u3 u4 s3 l3 s4
    exact ⟨f,hg,Y0O (by omega),by rw [List.length_set,hks],rfl,G4,q,H4⟩
  have hl':(kcells ks').length=42:=by rw [Z6k,hl2]
  subst he;refine Ops.callPr rfl rfl rfl q1 nofun rfl ?_;apply Ops.nil;replace H:=H.all;apply Runs.then;refine Runs.ZJ 7 rfl H ?_;intro b7 G H;refine Ops.Z2m (off:=0) (v:=.ptr idk 42 (i.toNat*7)) H 0 rfl rfl rfl rfl rfl nofun rfl ?_;refine Ops.Z1h (off:=i.toNat*7) H 5 rfl hl' rfl nofun rfl ?_;refine Ops.Z6 (off:=i.toNat*7) (fo:=3) H 5 rfl hl' rfl rfl rfl nofun rfl ?_;refine Ops.loadHA (off:=i.toNat*7+3) (m:=4) (cs:=vs (Form.cs f)) H 5 rfl hl' rfl rfl rfl (Nat.ble_eq_true_of_le (by omega)) (Z6I hkf).2 nofun rfl ?_
  refine Ops.call (ys:=[.agg (vs (Form.cs f))]) (r:=.agg (vs (Form.cs g))) rfl (lift rfl (gran_Copy_fn hg) rfl rfl) rfl ?_;refine Ops.Z2H (off:=0) (cells':=vs (Form.cs g)) H 2 rfl rfl rfl rfl rfl rfl rfl rfl rfl nofun ?_;intro G H;refine Ops.assign (v:=(.v (.int .i64 0))) rfl rfl ?_;apply Ops.nil;replace H:=H.all;apply Runs.ret;exact ⟨.inr rfl,_,Z2A H (.agg (cs:=vs (Form.cs g)) (off:=0) 2 rfl rfl rfl rfl rfl rfl rfl (.tmp (v:=.v (.int .i64 0)) rfl .nil)),_,⟨_,_,.inr rfl,.inr rfl,rfl,rfl⟩,H.drop 4⟩
set_option maxRecDepth 100000 in
set_option maxHeartbeats 4000000 in
theorem made_call {idc:Nat} {x:PV} {m:Int} (H:Hs G ([.blk idc 44 [x,.v (.int .i64 m)]]++T)):CallI CZ (.v (.fn 13)) [.ptr idc 2 0] G T (λr A=>r = .v (.int .i64 m)/\A=[.blk idc 44 [x,.v (.int .i64 m)]]):=by
 refine callI_of Tryd.func13 rfl (λ_=>rfl) rfl rfl rfl rfl ?_
 apply Runs.then
 refine Runs.ZJ 1 rfl H ?_;intro b1 G H
 refine Ops.assign (v:=(.v (.int .i64 0))) rfl rfl ?_
 apply Ops.nil
 replace H:=H.all
 apply Runs.then
 apply Runs.then
 refine Runs.ZJ 2 rfl H ?_;intro b2 G H
 refine Ops.move (v:=.ptr idc 2 0) rfl rfl ?_
 refine Ops.eqPtr (off:=0) H 0 rfl rfl rfl rfl rfl rfl rfl ?_
 apply Ops.nil
 replace H:=H.all
 refine Runs.no rfl ?_
 apply Runs.skip
 apply Runs.then
 refine Runs.ZJ 5 rfl H ?_;intro b3 G H
 refine Ops.move (v:=.ptr idc 2 0) rfl rfl ?_
 refine Ops.Z1h (off:=0) H 0 rfl rfl rfl nofun rfl ?_
 refine Ops.Z6 (off:=0) (fo:=1) H 0 rfl rfl rfl rfl rfl nofun rfl ?_
 refine Ops.callPr rfl rfl rfl (prim_load (P:=CZ.P) (call:=ZZ CZ) (t:=2) (off:=1) (m:=m) H 0 rfl rfl rfl rfl) nofun rfl ?_
 refine Ops.assign (v:=(.v (.int .i64 m))) rfl rfl ?_
 apply Ops.nil
 replace H:=H.all
 apply Runs.ret
 exact ⟨.inr rfl,_,Z2A H (.tmp (v:=.v (.int .i64 m)) rfl .nil),_,⟨rfl,rfl⟩,H⟩
end Go.Dn

namespace Go.Dn
open Go Go.Proofs
theorem Ops.makeK {X:Ctx} {n:Nat} {dr:Bool} {ops:Array Oper} {base i:Nat} {l:List Oper} {e:Env} {G:Heap} {K:Env->Heap->Prop} {d:Nat} {t t1:TypeId} {p:String} {af:Array Edge} {x y:Operand} {lo hi:Nat} {L:List Res}
  {el:TypeId} {by_ sz k:Nat} {m:Int} {zs cells:List PV} (H:Has G lo hi L) (hlo:lo<=base+i) (hhi:base+i<hi)
  (hx:Z0 X e x=some (.v (.int .i64 m))) (hy:Z0 X e y=some (.v (.int .i64 m))) (h0:0<=m) (hroom:m.toNat*by_<=room) (hm:m.toNat=k)
  (ht:tslice X.P t1=some el) (hs:tsize X.P el=some sz) (hb:tbytes X.P el=some by_) (hz:tzero X.P el=some zs) (hzl:zs.length=sz) (hsz:sz≠0) (hby:by_≠0) (hc:(List.replicate k zs).flatten=cells) (hd:Nat.blt d n=true)
  (hk:∀ G',Has G' (base+i+1) hi (.blk (base+i) el cells::L)->Ops X n dr ops base (i+1) l (set e d (.buf (base+i) k sz)) G' K) :
  Ops X n dr ops base i (⟨some d,.makeSlice t1 x y,t,p,af,none⟩::l) e G K:=by
 subst hm hc hzl
 refine .plain (x:=.buf (base+i) m.toNat zs.length) (G1:=G.put (base+i) (.blk el (List.replicate m.toNat zs).flatten true)) ?_ (λ_=>Z06 rfl) hd (hk _ (H.push hlo hhi (r':=.blk (base+i) el _) Z0j rfl))
 simp only [Z1,hx,hy,makeD,ht,hs,hb,hz]
 rw [if_pos ⟨trivial,h0,hroom,trivial,hsz,hby⟩]
theorem cz_np {f:FuncId} {xs:List PV} (h:xs.all PV.pure=false):CZ.intr f xs=none:=by
 show (if ownZ f then none else Z4i CX f xs)=none
 cases ownZ f with
 | true=>rfl
 | false=>
  simp only [YF,if_false];cases hl:Z4i CX f xs with
  | none=>rfl
  | some r=>have:=(liftI_fn hl).pure;rw [h] at this;cases this
theorem Ops.Z2y {n:Nat} {dr:Bool} {ops:Array Oper} {base i:Nat} {l:List Oper} {e:Env} {G:Heap} {K:Env->Heap->Prop} {d:Nat} {t:TypeId} {p:String} {af:Array Edge} {lo hi:Nat} {L:List Res}
  {f:FuncId} {args:Array Operand} {ts:Array TypeId} {xs ys:List PV} {r:PV} {L':List Res} (H:Has G lo hi L) (ha:ZC CZ e args.toList=some xs) (hE:ExpVs L xs ys L') (hf:Fn CZ f ys r) (ht:CZ.thaw f=false) (hdr:dr=true->Z1B (Region.before ops) ops i=true) (hd:Nat.blt d n=true)
  (hk:∀ G',Has G' lo hi L'->Ops CZ n dr ops base (i+1) l (set e d r) G' K) :
  Ops CZ n dr ops base i (⟨some d,.call { callee:=.value (.func f),args:=args,argTypes:=ts },t,p,af,none⟩::l) e G K:=by
 obtain ⟨G',q1,q2,q3,_⟩:=Z5H H hE
 obtain ⟨G2,h1,h2⟩ : ∃ G2,ZZ CZ (.fn f) xs G=some (r,G2)/\Has G2 lo hi L':=by
  cases hp:xs.all PV.pure with
  | true=>
   rw [Z0R hp] at q2;obtain ⟨rfl,rfl⟩:=Prod.mk.inj (Option.some.inj q2);exact ⟨G,hf.call G,q3⟩
  | false=>exact ⟨G',callL_exp hf (cz_np hp) (.inl ht) q2,q3⟩
 exact .plain (x:=r) (G1:=G2) (by simp only [Z1,ZP,ha,Z0,h1]) (λh=>Z3G (hdr h)) hd (hk G2 h2)
set_option maxRecDepth 100000 in
set_option maxHeartbeats 4000000 in
theorem new_call:FnO CZ 7 [] (λr A=>∃ idc idk,r = .ptr idc 2 0/\A=[.blk idc 44 [.buf idk 6 7,.v (.int .i64 0)],.blk idk 72 (kcells [none,none,none,none,none,none])]):=by
 refine FnO.of Tryd.func7 rfl rfl rfl rfl rfl rfl ?_
 intro G T H
 apply Runs.then
 refine Runs.ZJ 1 rfl H ?_;intro b1 G H
 refine Ops.assign (v:=(.v .nilp)) rfl rfl ?_
 apply Ops.nil
 replace H:=H.all
 apply Runs.then
 refine Runs.ZJ 6 rfl H ?_;intro b2 G H
 refine Ops.call (ys:=[]) (r:=.v (.sl (Z9.map cS))) rfl (lift rfl (Z2I rfl) rfl rfl) rfl ?_
 refine Ops.lenPt (c:=cS) (xs:=Z9) rfl rfl rfl ?_
 refine Ops.makeK (m:=6) (k:=6) H (by omega) (by omega) rfl rfl (by decide) (by decide) rfl rfl rfl rfl rfl rfl (by decide) (by decide) rfl rfl ?_;intro G H
 refine Ops.Z5w (cs:=[.buf (b2+2) 6 7,(.v (.int .i64 0))]) rfl rfl ?_
 refine Ops.boxH (cs:=[.buf (b2+2) 6 7,(.v (.int .i64 0))]) H (by omega) (by omega) rfl rfl rfl ?_;intro G H
 refine Ops.assign (v:=.ptr (b2+4) 2 0) rfl rfl ?_
 apply Ops.nil
 replace H:=H.all
 apply Runs.ret
 exact ⟨.inr rfl,_,Z2A H (.tmp (v:=.ptr (b2+4) 2 0) rfl .nil),_,⟨_,_,rfl,rfl⟩,H⟩
end Go.Dn

namespace Go.Dn
open Go
theorem Z1c {S R:Type} {step:S->Option (S⊕R)} (I:S->Prop) (m:S->Nat) (post:R->Prop)
  (h:∀ s,I s->(∃ s',step s=some (.inl s')/\I s'/\m s'<m s)\/(∃ r,step s=some (.inr r)/\post r)):∀ s,I s->∃ r,loopO step s=some r/\post r:=by
 have key:∀ n s,m s=n->I s->∃ r,loopO step s=some r/\post r:=by
  intro n
  induction n using Nat.strongRecOn with
  | _ n ih=>
   intro s hm hI;rcases h s hI with ⟨s',h1,h2,h3⟩|⟨r,h1,h2⟩
   ·obtain ⟨r,q1,q2⟩:=ih (m s') (by omega) s' rfl h2
    exact ⟨r,by rw [loopO_eq,h1];exact q1,q2⟩
   ·exact ⟨r,by rw [loopO_eq,h1],h2⟩
 exact λs hI=>key _ s rfl hI
theorem Z0f {S R:Type} {step:S->Option (S⊕R)} (I:S->R->Prop) (m:S->Nat)
  (h:∀ s r,I s r->(∃ s',step s=some (.inl s')/\I s' r/\m s'<m s)\/step s=some (.inr r)) {s:S} {r:R} (hI:I s r):loopO step s=some r:=by
 obtain ⟨r',h1,h2⟩:=Z1c (I:=λs=>I s r) m (λr'=>r'=r) (λs hs=>by
  rcases h s r hs with ⟨s',h1,h2,h3⟩|h1
  ·exact .inl ⟨s',h1,h2,h3⟩
  ·exact .inr ⟨r,h1,rfl⟩) s hI
 rw [h1,h2]
theorem Z1z (a:Int):IntKind.i64.wrap a=(a+9223372036854775808) % 18446744073709551616-9223372036854775808:=by
 simp [IntKind.wrap,IntKind.bits,IntKind.signed]
 split<;>omega
theorem Z3w (a:Int):IntKind.u64.wrap a=a % 18446744073709551616:=by
 simp [IntKind.wrap,IntKind.bits,IntKind.signed]
theorem okI_i32 {x:Int}:okI .i32 x ↔ -2147483648<=x/\x<=2147483647:=Iff.rfl
theorem okI_u8 {x:Int}:okI .u8 x↔0<=x/\x<=255:=Iff.rfl
theorem ZB {x:Int} (h : -9223372036854775808<=x/\x<=9223372036854775807):w64 x=x:=by
 unfold w64;rw [Z1z];omega
theorem Z5t:maxLen=9223372036854775807:=rfl
theorem Z5I:room=140737488355328:=rfl
theorem at?_lt {α:Type} {l:List α} {i:Int} (h0:0<=i) (h:i<l.length):at? l i=some (l[i.toNat]'(by omega)):=by
 unfold at?;rw [if_pos h0,Y9]
theorem at?_nat {α:Type} {l:List α} {k:Nat} (h:k<l.length):at? l (k:Int)=some l[k]:=by
 rw [at?_lt (by omega) (by omega)];rfl
theorem app?_ok {α:Type} {b:Nat} {l m:List α} (h:(l.length+m.length)*b<=room):app? b l m=some (l++m):=if_pos h
theorem nz?_ok {b:Int} (h:b≠0):nz? b=some ():=if_neg h
theorem beq_t {a b:Int} (h:a=b):(a==b)=true:=by simp [h]
theorem beq_f {a b:Int} (h:a≠b):(a==b)=false:=by simp [h]
theorem bne_f {a b:Int} (h:a=b):(a != b)=false:=by simp [h]
theorem ibeq (a b:Int):(a==b)=decide (a=b):=by by_cases h:a=b<;>simp [h]
theorem ZW {p:Prop} [Decidable p] (h:p):decide p=true:=by simp [h]
theorem Zc {p:Prop} [Decidable p] (h:¬ p):decide p=false:=by simp [h]
theorem pickB {α:Type} (c:Bool) (a b:α):(bif c then a else b)=if c=true then a else b:=by cases c<;>rfl
theorem Z4M {α:Type} {l:List α} {good:Nat->α->Prop} (h:¬ ∀ k x,l[k]? = some x->good k x):∃ (k:Nat) (x:α),l[k]? = some x/\¬ good k x/\∀ j y,j<k->l[j]? = some y->good j y:=by
 have hex:∃ k:Nat,∃ x,l[k]? = some x/\¬ good k x:=by
  apply Classical.byContradiction;intro hn;exact h λk x hk=>Classical.byContradiction λhg=>hn ⟨k,x,hk,hg⟩
 obtain ⟨k,hk⟩:=hex
 induction k using Nat.strongRecOn with
 | _ k ih=>
  by_cases h:∃ j,j<k/\∃ x,l[j]? = some x/\¬ good j x
  ·obtain ⟨j,hj,hx⟩:=h;exact ih j hj hx
  ·obtain ⟨x,hx,hb⟩:=hk;exact ⟨k,x,hx,hb,λj y hj hy=>Classical.byContradiction λhg=>h ⟨j,hj,y,hy,hg⟩⟩
theorem Z4H {α R:Type} {l:List α} {step:Int->Option (Int⊕R)} (good:Nat->α->Prop) {no yes:R}
  (hstep:∀ (k:Nat) (x:α),l[k]? = some x->(∀ j y,j<k->l[j]? = some y->good j y)->(step (k:Int)=some (.inl ((k:Int)+1))/\good k x)\/(step (k:Int)=some (.inr no)/\¬ good k x))
  (hend:step (l.length:Int)=some (.inr yes)):(loopO step 0=some yes/\∀ k x,l[k]? = some x->good k x)\/(loopO step 0=some no/\¬ ∀ k x,l[k]? = some x->good k x):=by
 by_cases hall:∀ k x,l[k]? = some x->good k x
 ·refine .inl ⟨?_,hall⟩;refine Z0f (I:=λ(s:Int) r=>r=yes/\∃ k:Nat,s=k/\k<=l.length) (λs=>(l.length-s.toNat)) ?_ ⟨rfl,0,rfl,Yo _⟩;rintro s r ⟨rfl,k,rfl,hk⟩
  by_cases hlt:k<l.length
  ·rcases hstep k l[k] (Y9 hlt) (λj y _ hy=>hall j y hy) with ⟨h1,_⟩|⟨_,h2⟩
   ·exact .inl ⟨_,h1,⟨rfl,k+1,by push_cast;rfl,hlt⟩,by simp;omega⟩
   ·exact absurd (hall k _ (Y9 hlt)) h2
  ·have:k=l.length:=by omega
   subst this;exact .inr hend
 ·refine .inr ⟨?_,hall⟩;obtain ⟨k0,x0,hx0,hb0,hgood⟩:=Z4M hall;have hlt0:=(List.getElem?_eq_some_iff.1 hx0).1;refine Z0f (I:=λ(s:Int) r=>r=no/\∃ k:Nat,s=k/\k<=k0) (λs=>(l.length-s.toNat)) ?_ ⟨rfl,0,rfl,Yo _⟩;rintro s r ⟨rfl,k,rfl,hk⟩
  by_cases hlt:k<k0
  ·have hkl:k<l.length:=by omega
   rcases hstep k l[k] (Y9 hkl) (λj y hj hy=>hgood j y (by omega) hy) with ⟨h1,_⟩|⟨_,h2⟩
   ·exact .inl ⟨_,h1,⟨rfl,k+1,by push_cast;rfl,hlt⟩,by simp;omega⟩
   ·exact absurd (hgood k _ hlt (Y9 hkl)) h2
  ·have:k=k0:=by omega
   subst this;rcases hstep k x0 hx0 hgood with ⟨_,h2⟩|⟨h1,_⟩
   ·exact absurd h2 hb0
   ·exact .inr h1
theorem fold_loop {α A R:Type} {l:List α} {step:A×Int->Option ((A×Int)⊕R)} (f:A->Nat->α->A) (fin:A->R) (I:Nat->A->Prop) {a0:A} (h0:I 0 a0)
  (hgo:∀ (k:Nat) (x:α) (a:A),l[k]? = some x->I k a->step (a,(k:Int))=some (.inl (f a k x,(k:Int)+1))/\I (k+1) (f a k x))
  (hend:∀ a,I l.length a->step (a,(l.length:Int))=some (.inr (fin a))):∃ a,loopO step (a0,0)=some (fin a)/\I l.length a:=by
 obtain ⟨r,h1,a,rfl,h2⟩:=Z1c (step:=step) (I:=λs=>∃ (k:Nat) (a:A),s=(a,(k:Int))/\k<=l.length/\I k a) (λs=>l.length-s.2.toNat) (λr=>∃ a,r=fin a/\I l.length a) (by
  rintro s ⟨k,a,rfl,hk,hI⟩
  by_cases hlt:k<l.length
  ·obtain ⟨q1,q2⟩:=hgo k l[k] a (Y9 hlt) hI;exact .inl ⟨_,q1,⟨k+1,_,by push_cast;rfl,hlt,q2⟩,by simp;omega⟩
  ·have:k=l.length:=by omega
   subst this;exact .inr ⟨_,hend a hI,a,rfl,hI⟩) (a0,0) ⟨0,a0,rfl,Yo _,h0⟩
 exact ⟨a,h1,h2⟩
end Go.Dn

namespace Go.Dn
open Go
theorem and3 (x:Int):iAnd .i64 x 3=x % 4:=by
 have h2:(BitVec.ofInt 64 3).toNat=2 ^ 2-1:=by decide
 have h:(BitVec.ofInt 64 x &&& BitVec.ofInt 64 3).toNat=(x % 18446744073709551616).toNat % 4:=by
  rw [BitVec.toNat_and,h2,Y0K,BitVec.toNat_ofInt]
  rfl
 show IntKind.i64.wrap _=_
 rw [Z1z]
 have hb:(IntKind.i64.bits)=64:=rfl
 rw [hb,h]
 omega
theorem and15 (x:Int):iAnd .i64 x 15=x % 16:=by
 have h2:(BitVec.ofInt 64 15).toNat=2 ^ 4-1:=by decide
 have h:(BitVec.ofInt 64 x &&& BitVec.ofInt 64 15).toNat=(x % 18446744073709551616).toNat % 16:=by
  rw [BitVec.toNat_and,h2,Y0K,BitVec.toNat_ofInt]
  rfl
 show IntKind.i64.wrap _=_
 rw [Z1z]
 have hb:(IntKind.i64.bits)=64:=rfl
 rw [hb,h]
 omega
theorem tdm (n b:Int) (hb:0<b):(0<=n/\n.tdiv b=n / b/\n.tmod b=n % b)\/(n<0/\n % b=0/\n.tdiv b=n / b/\n.tmod b=0)\/(n<0/\0<n % b/\n.tdiv b=n / b+1/\n.tmod b=n % b-b):=by
 have hm:0<=n % b:=Y06 n (by omega)
 have hs:b.sign=1:=Int.sign_eq_one_of_pos hb
 have hab:(b.natAbs:Int)=b:=Int.natAbs_of_nonneg (by omega)
 rcases Int.lt_or_le n 0 with h|h
 ·rw [Int.tdiv_eq_ediv,Int.tmod_eq_emod]
  by_cases h0:b∣n
  ·refine .inr (.inl ⟨h,Int.emod_eq_zero_of_dvd h0,?_,?_⟩)
   ·rw [if_pos (.inr h0)];omega
   ·rw [if_pos (.inr h0),Int.emod_eq_zero_of_dvd h0];rfl
  ·have:n % b≠0:=λe=>h0 (Int.dvd_of_emod_eq_zero e);refine .inr (.inr ⟨h,by omega,?_,?_⟩)
   ·rw [if_neg (by rintro (h1|h1);omega;exact h0 h1),hs]
   ·rw [if_neg (by rintro (h1|h1);omega;exact h0 h1),hab]
 ·exact .inl ⟨h,Y0U h,Y0B h⟩
def Small (x:Int):Prop:=-4611686018427387904<=x/\x<=4611686018427387904
theorem Z2M {n b:Int} (hn:Small n) (hb:0<b) (hb2:b<=4611686018427387904):Z0t n b=some (n / b,n % b):=by
 unfold Small at hn
 have hq : -4611686018427387904<=n / b/\n / b<=4611686018427387904:=by
  have h1:=Int.ediv_mul_add_emod n b;have h2:=Y06 n (show b≠0 by omega)
  have h3:=Y0d n hb
  constructor
  ·refine Int.not_lt.1 λh=>?_;have h4:n / b*b<=(-4611686018427387904-1)*b:=Y01 (by omega) (by omega)
   have h5:(-4611686018427387904-1)*b = -4611686018427387904*b-b:=by rw [Int.sub_mul,Int.one_mul]
   have h6:4611686018427387904*1<=4611686018427387904*b:=Y04 (by omega) (by omega)
   have h7 : -4611686018427387904*b = -(4611686018427387904*b):=by rw [Int.neg_mul]
   omega
  ·refine Int.not_lt.1 λh=>?_;have h4:(4611686018427387904+1)*b<=n / b*b:=Y01 (by omega) (by omega)
   have h5:(4611686018427387904+1)*b=4611686018427387904*b+b:=by rw [Int.add_mul,Int.one_mul]
   have h6:4611686018427387904*1<=4611686018427387904*b:=Y04 (by omega) (by omega)
   omega
 have hm:0<=n % b:=Y06 n (by omega)
 have hm2:n % b<b:=Y0d n hb
 unfold Z0t
 rw [nz?_ok (by omega)]
 simp only [Y3]
 rcases tdm n b hb with ⟨_,h1,h2⟩|⟨_,h0,h1,h2⟩|⟨_,h0,h1,h2⟩
 ·rw [Zc (by omega)]
  simp only [cond_false,Y3,h1,h2];rw [ZB (by omega)]
 ·rw [Zc (by omega)]
  simp only [cond_false,Y3,h1,h2,h0];rw [ZB (by omega)]
 ·rw [ZW (by omega)]
  simp only [cond_true,Y3,h1,h2];rw [ZB (x:=n / b+1) (by omega),ZB (x:=n / b+1-1) (by omega),ZB (x:=n % b-b+b) (by omega)]
  simp only [Int.add_sub_cancel,Int.sub_add_cancel]
def Bg (y:Int):Int:=365*(y-1)+(y-1) / 4-(y-1) / 100+(y-1) / 400-719162
def Lp (y:Int):Bool:=decide (y % 4=0)&&(decide (y % 100≠0)||decide (y % 400=0))
def Up (y:Int) (k:Nat):Int:=Z1R.getD k 0+(bif decide (2<=k)&&Lp y then 1 else 0)
theorem Z6W {y:Int} (hy : -100000<=y/\y<=100000):Z1U y=some (Bg y):=by
 unfold Z1U Bg
 have e1:w64 (y-1)=y-1:=ZB (by omega)
 rw [e1,Z2M (by unfold Small;omega) (by omega) (by omega),Z2M (by unfold Small;omega) (by omega) (by omega),Z2M (by unfold Small;omega) (by omega) (by omega)]
 simp only [Y3]
 rw [ZB (x:=365*(y-1)) (by omega),ZB (x:=365*(y-1)+(y-1) / 4) (by omega),ZB (x:=365*(y-1)+(y-1) / 4-(y-1) / 100) (by omega),ZB (x:=365*(y-1)+(y-1) / 4-(y-1) / 100+(y-1) / 400) (by omega),ZB (by omega)]
theorem civil_Leap_eq (y:Int):Z1a y=Lp y:=by
 unfold Z1a Lp
 rw [and3,and15]
 have e:(y % 4=0/\(y.tmod 25≠0\/y % 16=0))↔(y % 4=0/\(y % 100≠0\/y % 400=0)):=by
  rcases tdm y 25 (by omega) with ⟨_,_,h⟩|⟨_,_,_,h⟩|⟨_,_,_,h⟩<;>rw [h]<;>omega
 rw [Bool.eq_iff_iff]
 simp only [YD,Yf,beq_iff_eq,bne_iff_ne,ne_eq,decide_eq_true_eq]
 exact e
theorem glob_at {k:Nat} (hk:k<=12):at? Z1R (k:Int)=some (Z1R.getD k 0)/\0<=Z1R.getD k 0/\Z1R.getD k 0<=365:=by
 match k,hk with
 | 0,_|1,_|2,_|3,_|4,_|5,_|6,_|7,_|8,_|9,_|10,_|11,_|12,_=>exact ⟨rfl,by decide,by decide⟩
 | k+13,h=>omega
theorem Up_bd (y:Int) {k:Nat} (hk:k<=12):0<=Up y k/\Up y k<=366:=by
 have:=(glob_at hk).2
 unfold Up
 cases decide (2<=k)&&Lp y<;>simp only [cond_true,cond_false]<;>omega
theorem Z2w (y:Int) {k:Nat} (hk:k<=12):Z1C y (k:Int)=some (Up y k):=by
 unfold Z1C
 have hb:=Up_bd y hk
 rw [(glob_at hk).1,Y3]
 have e:Z1R.getD k 0+Z2O y (k:Int)=Up y k:=by
  unfold Z2O Up;rw [civil_Leap_eq,show decide ((k:Int)>=2)=decide (2<=k) from decide_eq_decide.2 (by omega)]
 rw [e,ZB (by omega)]
theorem Z22 (y:Int) {k:Nat} (h1:1<=k) (hk:k<=12):Z16 y (k:Int)=some (Up y k-Up y (k-1)):=by
 have hb:=Up_bd y hk
 have hb':=Up_bd y (show k-1<=12 by omega)
 unfold Z16
 rw [Zc (by omega),Zc (by omega)]
 simp only [Bool.or_false,cond_false]
 rw [ZB (x:=(k:Int)-1) (by omega),show (k:Int)-1=((k-1:Nat):Int) by omega,Z2w y hk,Z2w y (by omega)]
 simp only [Y3]
 rw [ZB (by omega)]
theorem Bg_bd {y:Int} (hy : -100000<=y/\y<=100000) : -40000000<=Bg y/\Bg y<=40000000:=by
 unfold Bg;omega
theorem civil_Days_or {y mo d:Int} (hd : -9223372036854775808<=d/\d<=9223372036854775807) (hm : -9223372036854775808<=mo/\mo<=9223372036854775807):Z0X y mo d=some (0,30)\/∃ k:Nat,mo=k/\1<=k/\k<=12/\-9999<=y/\y<=9999/\1<=d/\d<=Up y k-Up y (k-1)/\Z0X y mo d=some (Bg y+Up y (k-1)+d-1,0):=by
 by_cases h0:y < -9999\/y>9999\/d<1
 ·refine .inl ?_;unfold Z0X;have:((decide (y<(-9999))||decide (y>9999))||decide (d<1))=true:=by
   simp only [Yf,decide_eq_true_eq];omega
  rw [this]
  rfl
 ·have hf:((decide (y<(-9999))||decide (y>9999))||decide (d<1))=false:=by
   simp only [Y0T,decide_eq_false_iff_not];omega
  by_cases h1:mo<1\/mo>12
  ·refine .inl ?_;unfold Z0X Z16;have:(decide (mo<1)||decide (mo>12))=true:=by
    simp only [Yf,decide_eq_true_eq];omega
   rw [hf,this];simp only [cond_false,cond_true,Y3];rw [ZW (by omega)]
   rfl
  ·obtain ⟨k,rfl⟩ : ∃ k:Nat,mo=k:=⟨mo.toNat,by omega⟩
   have hb:=Up_bd y (show k<=12 by omega)
   have hb':=Up_bd y (show k-1<=12 by omega)
   have hB:=Bg_bd (y:=y) (by omega)
   by_cases h2:d<=Up y k-Up y (k-1)
   ·refine .inr ⟨k,rfl,by omega,by omega,by omega,by omega,by omega,h2,?_⟩
    unfold Z0X;rw [hf,Z22 y (by omega) (by omega)]
    simp only [cond_false,Y3];rw [Zc (by omega)]
    simp only [cond_false];rw [Z6W (by omega),ZB (x:=(k:Int)-1) (by omega),show (k:Int)-1=((k-1:Nat):Int) by omega,Z2w y (by omega)]
    simp only [Y3];rw [ZB (x:=Up y (k-1)+d) (by omega),ZB (x:=Up y (k-1)+d-1) (by omega),ZB (by omega)]
    congr 2
    omega
   ·refine .inl ?_;unfold Z0X;rw [hf,Z22 y (by omega) (by omega)]
    simp only [cond_false,Y3];rw [ZW (by omega)]
    rfl
def Dy (m:Int):Int:=Bg (1970+m / 12)+Up (1970+m / 12) (m % 12).toNat
theorem Dy_bd {m:Int} (hm : -1000000<=m/\m<=1000000) : -50000000<=Dy m/\Dy m<=50000000:=by
 have h1:=Bg_bd (y:=1970+m / 12) (by omega)
 have h2:=Up_bd (1970+m / 12) (k:=(m % 12).toNat) (by omega)
 unfold Dy;omega
theorem Up_pos (y:Int) (k:Nat) (hk:k<12):1<=Up y (k+1)-Up y k:=by
 have h:∀ j,j<12->28<=Z1R.getD (j+1) 0-Z1R.getD j 0:=by decide
 have:=h k hk
 unfold Up
 cases h1:decide (2<=k)&&Lp y<;>cases h2:decide (2<=k+1)&&Lp y<;>simp only [cond_true,cond_false]<;>omega
theorem Z3o {m:Int} (h0:0<=m) (h1:m<=4800):Z14 m=some (Dy m):=by
 unfold Z14
 by_cases h:m=4800
 ·subst h
  rfl
 ·rw [beq_f h];simp only [cond_false];obtain ⟨k,hk⟩ : ∃ k:Nat,m % 12=k:=⟨(m % 12).toNat,by omega⟩
  have hb:=Up_pos (1970+m / 12) k (by omega)
  rw [Y0U h0,Y0B h0,ZB (x:=m / 12) (by omega),ZB (by omega),ZB (x:=m % 12+1) (by omega)]
  rcases civil_Days_or (y:=1970+m / 12) (mo:=m % 12+1) (d:=1) (by omega) (by omega) with h2|⟨k',e,_,_,_,_,_,_,h2⟩
  ·exfalso
   have:=Z22 (1970+m / 12) (k:=k+1) (by omega) (by omega)
   rw [hk,show (k:Int)+1=((k+1:Nat):Int) by omega] at h2
   unfold Z0X at h2;have hf:((decide (1970+m / 12<(-9999))||decide (1970+m / 12>9999))||decide ((1:Int)<1))=false:=by
    simp only [Y0T,decide_eq_false_iff_not];omega
   rw [hf,this] at h2;simp only [cond_false,Y3,Nat.add_sub_cancel] at h2;rw [Zc (by omega)] at h2
   simp only [cond_false] at h2;obtain ⟨_,_,h2⟩:=bind_some h2;obtain ⟨_,_,h2⟩:=bind_some h2;simp at h2
  ·rw [h2,Y3];have:k'-1=k:=by omega
   unfold Dy;rw [this,hk]
   congr 1
   simp only [Int.toNat_natCast];omega
def Mo (n N:Nat):Form:=⟨146097,N,(List.range N).map λi=>[⟨Dy ((i*n:Nat):Int),Dy ((i*n:Nat)+n:Int)-1⟩],[]⟩
def Z0s:Nat->Form
 | 0|1=>⟨1,1,[[⟨0,0⟩]],[]⟩
 | 2=>⟨7,1,[[⟨-3,3⟩]],[]⟩
 | 3=>Mo 1 4800
 | 4=>Mo 3 1600
 | _=>Mo 12 400
theorem Z28 {n N:Nat} (hn:1<=n) (hN:n*N=4800):Zg (n:Int)=some (Mo n N):=by
 have hN':N<=4800:=by
  have:=YS N hn;omega
 have hn':n<=4800:=by
  rcases Nat.eq_zero_or_pos N with h|h
  ·subst h;omega
  ·have:=Nat.mul_le_mul_left n h;omega
 unfold Zg
 rw [nz?_ok (by omega),Y3]
 have hd:w64 ((4800:Int).tdiv n)=(N:Int):=by
  rw [Y0U (by omega),show (4800:Int)=((n*N:Nat):Int) by omega,show (((n*N:Nat):Int) / (n:Int))=((n*N / n:Nat):Int) from rfl,Nat.mul_div_cancel_left N (by omega),ZB (by omega)]
 have hl:loopO (Zg.s0 (n:Int)) (0,[])=some ((Mo n N).Core,(N:Int)):=by
  refine Z0f (I:=λ(s:Int×List (List Span)) r=>r=((Mo n N).Core,(N:Int))/\∃ k:Nat,s=((k:Int),(List.range k).map λi=>[⟨Dy ((i*n:Nat):Int),Dy ((i*n:Nat)+n:Int)-1⟩])/\k<=N) (λs=>N-s.1.toNat) ?_ ⟨rfl,0,rfl,Yo _⟩;rintro s r ⟨rfl,k,rfl,hk⟩;unfold Zg.s0;rw [hd]
  by_cases hlt:k<N
  ·refine .inl ⟨_,?_,⟨rfl,k+1,rfl,hlt⟩,by simp;omega⟩
   have hkn:(k+1)*n<=4800:=by
    rw [<- hN,Nat.mul_comm n N];exact YS n hlt
   have hkn':(k+1)*n=k*n+n:=Y0g k n;have e1:(k:Int)*(n:Int)=((k*n:Nat):Int):=by push_cast;rfl
   have hD:=Dy_bd (m:=((k*n:Nat):Int)+n) (by omega)
   simp only;rw [ZW (by omega)]
   simp only [cond_true];rw [e1,ZB (x:=((k*n:Nat):Int)) (by omega),ZB (x:=((k*n:Nat):Int)+n) (by omega),Z3o (by omega) (by omega),Z3o (by omega) (by omega)]
   simp only [Y3];rw [ZB (x:=Dy (((k*n:Nat):Int)+n)-1) (by omega),app?_ok (by simp [Z5I];omega),Y3,ZB (by omega),List.range_succ,Y05]
   simp
  ·obtain rfl:k=N:=by omega
   refine .inr ?_;simp only;rw [Zc (by omega)]
   rfl
 rw [hl]
 rfl
theorem basis_made_eq {j:Nat} (hj:j<6):Z0u (j:Int)=some (Z0s j):=by
 match j,hj with
 | 0,_=>rfl
 | 1,_=>rfl
 | 2,_=>rfl
 | 3,_=>
  unfold Z0u;have:=Z28 (n:=1) (N:=4800) (by omega) rfl
  simp only [show ((3:Nat):Int)=3 from rfl,show ((3:Int)==0)=false from rfl,show ((3:Int)==1)=false from rfl,show ((3:Int)==2)=false from rfl,show ((3:Int)==3)=true from rfl,cond_false,cond_true,Y3];rw [show Zg 1=some (Mo 1 4800) from this]
  rfl
 | 4,_=>
  unfold Z0u;have:=Z28 (n:=3) (N:=1600) (by omega) rfl
  simp only [show ((4:Nat):Int)=4 from rfl,show ((4:Int)==0)=false from rfl,show ((4:Int)==1)=false from rfl,show ((4:Int)==2)=false from rfl,show ((4:Int)==3)=false from rfl,show ((4:Int)==4)=true from rfl,cond_false,cond_true,Y3];rw [show Zg 3=some (Mo 3 1600) from this]
  rfl
 | 5,_=>
  unfold Z0u;have:=Z28 (n:=12) (N:=400) (by omega) rfl
  simp only [show ((5:Nat):Int)=5 from rfl,show ((5:Int)==0)=false from rfl,show ((5:Int)==1)=false from rfl,show ((5:Int)==2)=false from rfl,show ((5:Int)==3)=false from rfl,show ((5:Int)==4)=false from rfl,cond_false,Y3,Jx.elim];rw [show Zg 12=some (Mo 12 400) from this]
  rfl
end Go.Dn

namespace Go.Dn
open Go
theorem copy_loop {x8:List (List Span)} (hl:x8.length<=100000) (hx:∀ r∈x8,r.length<=100000):loopO (ZD.s4 x8) (0,x8)=some x8:=by
 refine Z0f (I:=λ(s:Int×List (List Span)) r=>r=x8/\∃ k:Nat,s=((k:Int),x8)/\k<=x8.length) (λs=>x8.length-s.1.toNat) ?_ ⟨rfl,0,rfl,Yo _⟩
 rintro s r ⟨hr,k,rfl,hk⟩
 subst hr
 unfold ZD.s4
 by_cases hlt:k<r.length
 ·refine .inl ⟨_,?_,⟨rfl,k+1,rfl,hlt⟩,by simp;omega⟩
  have hc:clone? 16 r[k]=some r[k]:=if_pos (by have:=hx _ (Y0I hlt);rw [Z5I];omega)
  simp only;rw [ZW (by omega)]
  simp only [cond_true,at?_nat hlt,Y3,hc];rw [ZB (by omega),Int.toNat_natCast,List.set_getElem_self]
  simp
 ·obtain rfl:k=r.length:=by omega
  refine .inr ?_;simp only;rw [Zc (by omega)]
  rfl
theorem gran_Copy_id {f:Form} (hne:f.Core≠[]) (ho:f.Odd=[]) (hl:f.Core.length<=100000) (hx:∀ r∈f.Core,r.length<=100000):ZD f=some f:=by
 have h1:f.Core.isEmpty=false:=by cases hc:f.Core<;>simp_all
 have h2:Ze f.Core=some f.Core:=by
  unfold Ze;have:some? f.Core=some ():=by cases hc:f.Core with|nil=>exact absurd hc hne|cons a l=>rfl
  rw [this,Y3,app?_ok (by rw [Z5I];simp;omega)]
  rfl
 have h5:loopO (ZD.s5 f) ()=some ():=by
  rw [loopO_eq];unfold ZD.s5;rw [ho]
  rfl
 unfold ZD
 rw [h1,ho]
 simp only [cond_false,h2,Y3,List.isEmpty_nil,cond_true,copy_loop hl hx,h5]
 rw [<- ho]
theorem Mo_len (n N:Nat):(Mo n N).Core.length=N:=by simp [Mo]
theorem made_core {j:Nat} (hj:j<6):(Z0s j).Core≠[]/\(Z0s j).Odd=[]/\(Z0s j).Core.length<=4800/\∀ r∈(Z0s j).Core,r.length<=1:=by
 have hM:∀ n N,0<N->N<=4800->(Mo n N).Core≠[]/\(Mo n N).Odd=[]/\(Mo n N).Core.length<=4800/\∀ r∈(Mo n N).Core,r.length<=1:=λn N h h'=>
  ⟨λe=>by have:=Mo_len n N;rw [e] at this;simp at this;omega,rfl,by rw [Mo_len];exact h',λr hr=>by
   obtain ⟨i,_,rfl⟩:=List.mem_map.1 hr;exact YG _⟩
 match j,hj with
 | 0,_|1,_|2,_=>exact ⟨nofun,rfl,by decide,by simp [Z0s]⟩
 | 3,_=>exact hM 1 4800 (by omega) (by omega)
 | 4,_=>exact hM 3 1600 (by omega) (by omega)
 | 5,_=>exact hM 12 400 (by omega) (by omega)
theorem copy_made {j:Nat} (hj:j<6):ZD (Z0s j)=some (Z0s j):=by
 obtain ⟨h1,h2,h3,h4⟩:=made_core hj
 exact gran_Copy_id h1 h2 (by omega) λr hr=>by have:=h4 r hr;omega
theorem index_gen {s:List ByteArray} {v:ByteArray} (hl:s.length<=1000) :
  (∃ k,∃ h:k<s.length,(v.toList==s[k].toList)=true/\Z4 s v=some (k:Int))\/((∀ k (h:k<s.length),(v.toList==s[k].toList)=false)/\Z4 s v=some (-1)):=by
 by_cases hall:∀ (k:Nat) (x:ByteArray),s[k]? = some x->(v.toList==x.toList)=false
 ·refine .inr ⟨λk h=>hall k _ (Y9 h),?_⟩;unfold Z4;have:loopO (Z4.s0 s v) 0=some (.go ()):=by
   refine Z0f (I:=λ(i:Int) r=>r = .go ()/\∃ k:Nat,i=k/\k<=s.length) (λi=>s.length-i.toNat) ?_ ⟨rfl,0,rfl,Yo _⟩;rintro i r ⟨rfl,k,rfl,hk⟩;unfold Z4.s0
   by_cases hlt:k<s.length
   ·refine .inl ⟨_,?_,⟨rfl,k+1,rfl,hlt⟩,by simp;omega⟩
    rw [ZW (by omega),at?_nat hlt]
    simp only [cond_true,Y3,hall k _ (Y9 hlt),cond_false];rw [ZB (by omega)]
    simp
   ·refine .inr ?_;rw [Zc (by omega)]
    rfl
  rw [this]
  rfl
 ·obtain ⟨k0,x0,hx0,hb0,hgood⟩:=Z4M (good:=λ(_:Nat) (x:ByteArray)=>(v.toList==x.toList)=false) hall;have hlt0:=(List.getElem?_eq_some_iff.1 hx0).1;have hx0':=(List.getElem?_eq_some_iff.1 hx0).2;have hb:(v.toList==s[k0].toList)=true:=by rw [hx0'];simpa using hb0
  refine .inl ⟨k0,hlt0,hb,?_⟩;unfold Z4;have:loopO (Z4.s0 s v) 0=some (.ret (k0:Int)):=by
   refine Z0f (I:=λ(i:Int) r=>r = .ret (k0:Int)/\∃ k:Nat,i=k/\k<=k0) (λi=>s.length-i.toNat) ?_ ⟨rfl,0,rfl,Yo _⟩;rintro i r ⟨rfl,k,rfl,hk⟩;unfold Z4.s0;have hkl:k<s.length:=by omega
   rw [ZW (by omega),at?_nat hkl]
   simp only [cond_true,Y3]
   by_cases hlt:k<k0
   ·refine .inl ⟨_,?_,⟨trivial,k+1,rfl,hlt⟩,by simp;omega⟩
    rw [hgood k _ hlt (Y9 hkl)];simp only [cond_false];rw [ZB (by omega)]
    simp
   ·obtain rfl:k=k0:=by omega
    refine .inr ?_;rw [hb]
    rfl
  rw [this]
  rfl
theorem names_differ:∀ j,j<6->∀ k,k<6->((Z9.getD j ByteArray.empty).toList==(Z9.getD k ByteArray.empty).toList)=true->j=k:=by decide +kernel
theorem index_at {v:ByteArray} {j:Nat} (hj:j<6) (h:(v.toList==(Z9.getD j ByteArray.empty).toList)=true):Z4 Z9 v=some (j:Int):=by
 have e:∀ k (hk:k<Z9.length),Z9[k]=Z9.getD k ByteArray.empty:=λk hk=>by simp [Yw,Y9 hk]
 rcases index_gen (s:=Z9) (v:=v) (by decide) with ⟨k,hk,h1,h2⟩|⟨h1,_⟩
 ·rw [e k hk] at h1;have:j=k:=names_differ j hj k hk (by rw [beq_iff_eq] at h h1 ⊢;rw [<- h,h1])
  rw [h2,this]
 ·have:=h1 j hj;rw [e j hj,h] at this;cases this
theorem index_no {v:ByteArray} (h:∀ j,j<6->(v.toList==(Z9.getD j ByteArray.empty).toList)=false):Z4 Z9 v=some (-1):=by
 have e:∀ k (hk:k<Z9.length),Z9[k]=Z9.getD k ByteArray.empty:=λk hk=>by simp [Yw,Y9 hk]
 rcases index_gen (s:=Z9) (v:=v) (by decide) with ⟨k,hk,h1,h2⟩|⟨_,h2⟩
 ·rw [e k hk,h k hk] at h1;cases h1
 ·exact h2
theorem cal_new {v:ByteArray} {j:Nat} {ks:List (Option Form)} {m:Int} (hj:j<6) (h:(v.toList==(Z9.getD j ByteArray.empty).toList)=true) (hl:ks.length=6) (hk:ks[j]? = some none) (hm:0<=m/\m<=1000) :
  Z10 v (ks,m)=some ((Z0s j,0),(ks.set j (some (Z0s j)),m+1)):=by
 have ha:at? ks (j:Int)=some none:=by rw [at?_nat (by omega)];rw [Y9 (by omega)] at hk;exact hk
 unfold Z10
 simp only [hl,index_at hj h,beq_self_eq_true,cond_true,Y3]
 rw [Zc (by omega)]
 simp only [cond_false,ha,Y3,basis_made_eq hj,copy_made hj]
 rw [Int.toNat_natCast,ZB (by omega)]
theorem cal_no {v:ByteArray} {ks:List (Option Form)} {m:Int} (h:∀ j,j<6->(v.toList==(Z9.getD j ByteArray.empty).toList)=false) (hl:ks.length=6):Z10 v (ks,m)=some ((⟨0,0,[],[]⟩,80),(ks,m)):=by
 unfold Z10
 simp only [hl,index_no h,beq_self_eq_true,cond_true,Y3]
 rfl
def CalOK (ks:List (Option Form)):Prop:=ks.length=6/\∀ j,j<6->ks[j]? = some none\/ks[j]? = some (some (Z0s j))
theorem Z4R {f:Form} {i:Nat} {x:Span} (h:f.Core[i]? = some [x]):ZF f (i:Int)=some x:=by
 obtain ⟨h1,h2⟩:=List.getElem?_eq_some_iff.1 h
 unfold ZF
 simp only [at?_nat h1,h2,Y3]
 rw [Zc (by omega)]
 rfl
theorem Mo_at {n N i:Nat} (h:i<N):(Mo n N).Core[i]? = some [⟨Dy ((i*n:Nat):Int),Dy ((i*n:Nat)+n:Int)-1⟩]:=by
 simp [Mo,h]
end Go.Dn

namespace Go.Dn
open Go
theorem Z3K:Z0n=some true:=by
 have c1:ZF (Z0s 2) 0=some ⟨-3,3⟩:=Z4R (i:=0) rfl
 have c2:ZF (Z0s 3) 1=some ⟨31,58⟩:=Z4R (i:=1) ((Mo_at (by decide)).trans (by decide +kernel))
 have c3:ZF (Z0s 3) 25=some ⟨761,789⟩:=Z4R (i:=25) ((Mo_at (by decide)).trans (by decide +kernel))
 have c4:ZF (Z0s 5) 0=some ⟨0,364⟩:=Z4R (i:=0) ((Mo_at (by decide)).trans (by decide +kernel))
 have c5:ZF (Z0s 5) 1=some ⟨365,729⟩:=Z4R (i:=1) ((Mo_at (by decide)).trans (by decide +kernel))
 have c6:ZF (Z0s 5) 2=some ⟨730,1095⟩:=Z4R (i:=2) ((Mo_at (by decide)).trans (by decide +kernel))
 unfold Z0n
 rw [cal_new (j:=2) (by decide) (by decide +kernel) rfl rfl (by decide),Y3]
 simp only
 rw [cal_new (j:=3) (by decide) (by decide +kernel) rfl rfl (by decide),Y3]
 simp only
 rw [cal_new (j:=5) (by decide) (by decide +kernel) rfl rfl (by decide),Y3]
 simp only
 rw [cal_no (by decide +kernel) rfl,Y3]
 simp only [c1,c2,c3,c4,c5,c6,Y3]
 rfl
end Go.Dn

namespace Go.Dn
open Go Go.Proofs
set_option maxRecDepth 100000
set_option maxHeartbeats 4000000
theorem Z05 {f:Form} {i:Int} {r:Span} (h:ZF f i=some r):Fn CZ 28 [(.agg (vs (Form.cs f))),(vi i)] (.agg (vs (Span.cs r))):=lift rfl (Z4o h) rfl rfl
theorem Z40 {r:Bool} (h:Z0n=some r):Fn CZ 14 [] (vb r):=by
 refine Fn.go Tryd.func14 V λG H=>?_;unfold Z0n at h;refine .tR 1 V H λb1 G H=>(.aV V (.na H λH=>(.tR 2 V H λb2 G H=>?_)));refine .callFO (ys:=[]) H rfl new_call nofun rfl ?_;rintro _ _ G ⟨id1,id2,rfl,rfl⟩ H;replace H:Has G _ _ [.blk id1 44 [(.buf id2 6 7),(vi 0)],.blk id2 72 (kcells [none,none,none,none,none,none])]:=H;refine .aP V (.na H λH=>(.tR 8 V H λb3 G H=>(.mP V ?_)));obtain ⟨x1,q1,h⟩:=bs h;refine .callI (cv:=.v (.fn 10)) (ys:=[(.ptr id1 2 0),(.v (.str (ByteArray.mk #[119,101,101,107])))]) (L:=[]) [.blk id1 44 [(.buf id2 6 7),(vi 0)],.blk id2 72 (kcells [none,none,none,none,none,none])] H rfl rfl (λT _ H=>Z37 (g:=x1.1.1) (e:=x1.1.2) (ks':=x1.2.1) (m':=x1.2.2) q1 H) nofun rfl ?_;rintro _ _ G ⟨w1,w2,hw1,hw2,rfl,rfl⟩ H;replace H:Has G _ _ [.blk id1 44 [(.buf id2 6 7),(vi x1.2.2)],.blk id2 72 (kcells x1.2.1)]:=H;refine .m1 (.tup [(.agg [(vi x1.1.1.Period),(vi x1.1.1.Count),w1,w2]),(vi x1.1.2)]) V V (.xV V (.xV V (.alc (cs:=[(vi 0),(vi 0),.nils,.nils]) H V V λG H=>(.sV [(vi x1.1.1.Period),(vi x1.1.1.Count),w1,w2] H 0 V λG H=>(.aV V (.na H λH=>(.tR 8 V H λb4 G H=>(.mP V ?_))))))));replace H:Has G _ _ [.blk id1 44 [(.buf id2 6 7),(vi x1.2.2)],.blk id2 72 (kcells x1.2.1),.blk (b3+5) 29 [(vi x1.1.1.Period),(vi x1.1.1.Count),w1,w2]]:=H.pick [1,2,0] (by decide);obtain ⟨x2,q2,h⟩:=bs h
 refine .callI (cv:=.v (.fn 10)) (ys:=[(.ptr id1 2 0),(.v (.str (ByteArray.mk #[109,111,110,116,104])))]) (L:=[.blk (b3+5) 29 [(vi x1.1.1.Period),(vi x1.1.1.Count),w1,w2]]) [.blk id1 44 [(.buf id2 6 7),(vi x1.2.2)],.blk id2 72 (kcells x1.2.1)] H rfl rfl (λT _ H=>Z37 (g:=x2.1.1) (e:=x2.1.2) (ks':=x2.2.1) (m':=x2.2.2) q2 H) nofun rfl ?_;rintro _ _ G ⟨w3,w4,hw3,hw4,rfl,rfl⟩ H;replace H:Has G _ _ [.blk id1 44 [(.buf id2 6 7),(vi x2.2.2)],.blk id2 72 (kcells x2.2.1),.blk (b3+5) 29 [(vi x1.1.1.Period),(vi x1.1.1.Count),w1,w2]]:=H;refine .m1 (.tup [(.agg [(vi x2.1.1.Period),(vi x2.1.1.Count),w3,w4]),(vi x2.1.2)]) V V (.xV V (.xV V (.alc (cs:=[(vi 0),(vi 0),.nils,.nils]) H V V λG H=>(.sV [(vi x2.1.1.Period),(vi x2.1.1.Count),w3,w4] H 0 V λG H=>(.aV V (.na H λH=>(.tR 8 V H λb5 G H=>(.mP V ?_))))))));replace H:Has G _ _ [.blk id1 44 [(.buf id2 6 7),(vi x2.2.2)],.blk id2 72 (kcells x2.2.1),.blk (b4+5) 29 [(vi x2.1.1.Period),(vi x2.1.1.Count),w3,w4],.blk (b3+5) 29 [(vi x1.1.1.Period),(vi x1.1.1.Count),w1,w2]]:=H.pick [1,2,0,3] (by decide);obtain ⟨x3,q3,h⟩:=bs h;refine .callI (cv:=.v (.fn 10)) (ys:=[(.ptr id1 2 0),(.v (.str (ByteArray.mk #[121,101,97,114])))]) (L:=[.blk (b4+5) 29 [(vi x2.1.1.Period),(vi x2.1.1.Count),w3,w4],.blk (b3+5) 29 [(vi x1.1.1.Period),(vi x1.1.1.Count),w1,w2]]) [.blk id1 44 [(.buf id2 6 7),(vi x2.2.2)],.blk id2 72 (kcells x2.2.1)] H rfl rfl (λT _ H=>Z37 (g:=x3.1.1) (e:=x3.1.2) (ks':=x3.2.1) (m':=x3.2.2) q3 H) nofun rfl ?_;rintro _ _ G ⟨w5,w6,hw5,hw6,rfl,rfl⟩ H
 replace H:Has G _ _ [.blk id1 44 [(.buf id2 6 7),(vi x3.2.2)],.blk id2 72 (kcells x3.2.1),.blk (b4+5) 29 [(vi x2.1.1.Period),(vi x2.1.1.Count),w3,w4],.blk (b3+5) 29 [(vi x1.1.1.Period),(vi x1.1.1.Count),w1,w2]]:=H;refine .m1 (.tup [(.agg [(vi x3.1.1.Period),(vi x3.1.1.Count),w5,w6]),(vi x3.1.2)]) V V (.xV V (.xV V (.alc (cs:=[(vi 0),(vi 0),.nils,.nils]) H V V λG H=>(.sV [(vi x3.1.1.Period),(vi x3.1.1.Count),w5,w6] H 0 V λG H=>(.aV V (.na H λH=>(.tR 8 V H λb6 G H=>(.mP V ?_))))))));replace H:Has G _ _ [.blk id1 44 [(.buf id2 6 7),(vi x3.2.2)],.blk id2 72 (kcells x3.2.1),.blk (b5+5) 29 [(vi x3.1.1.Period),(vi x3.1.1.Count),w5,w6],.blk (b4+5) 29 [(vi x2.1.1.Period),(vi x2.1.1.Count),w3,w4],.blk (b3+5) 29 [(vi x1.1.1.Period),(vi x1.1.1.Count),w1,w2]]:=H.pick [1,2,0,3,4] (by decide);obtain ⟨x4,q4,h⟩:=bs h;refine .callI (cv:=.v (.fn 10)) (ys:=[(.ptr id1 2 0),(.v (.str (ByteArray.mk #[104,111,117,114])))]) (L:=[.blk (b5+5) 29 [(vi x3.1.1.Period),(vi x3.1.1.Count),w5,w6],.blk (b4+5) 29 [(vi x2.1.1.Period),(vi x2.1.1.Count),w3,w4],.blk (b3+5) 29 [(vi x1.1.1.Period),(vi x1.1.1.Count),w1,w2]]) [.blk id1 44 [(.buf id2 6 7),(vi x3.2.2)],.blk id2 72 (kcells x3.2.1)] H rfl rfl (λT _ H=>Z37 (g:=x4.1.1) (e:=x4.1.2) (ks':=x4.2.1) (m':=x4.2.2) q4 H) nofun rfl ?_;rintro _ _ G ⟨w7,w8,hw7,hw8,rfl,rfl⟩ H;replace H:Has G _ _ [.blk id1 44 [(.buf id2 6 7),(vi x4.2.2)],.blk id2 72 (kcells x4.2.1),.blk (b5+5) 29 [(vi x3.1.1.Period),(vi x3.1.1.Count),w5,w6],.blk (b4+5) 29 [(vi x2.1.1.Period),(vi x2.1.1.Count),w3,w4],.blk (b3+5) 29 [(vi x1.1.1.Period),(vi x1.1.1.Count),w1,w2]]:=H
 refine .m1 (.tup [(.agg [(vi x4.1.1.Period),(vi x4.1.1.Count),w7,w8]),(vi x4.1.2)]) V V (.xV V (.xV V (.alc (cs:=[(vi 0),(vi 0),.nils,.nils]) H V V λG H=>(.sV [(vi x4.1.1.Period),(vi x4.1.1.Count),w7,w8] H 0 V λG H=>(.aV V (.na H λH=>(.then (.tR 34 V H λb7 G H=>?_))))))));refine .mV V (.iV V (.mV V ?_));refine .md H 4 [(37,(vb ((x1.1.2 != 0)||(x1.1.1.Period != 7)))),(1,(.ptr id1 2 0)),(2,(.ptr (b3+5) 4 0)),(4,(.ptr (b4+5) 4 0)),(5,(vi x2.1.2)),(6,(.ptr (b5+5) 4 0)),(7,(vi x3.1.2)),(9,(vi x4.1.2))] [.blk id1 44 [(.buf id2 6 7),(vi x4.2.2)],.blk id2 72 (kcells x4.2.1),.blk (b5+5) 29 [(vi x3.1.1.Period),(vi x3.1.1.Count),w5,w6],.blk (b4+5) 29 [(vi x2.1.1.Period),(vi x2.1.1.Count),w3,w4],.blk (b3+5) 29 [(vi x1.1.1.Period),(vi x1.1.1.Count),w1,w2]] rfl ?_ λe G H=>?_
 ·refine .split V V ?_ ?_<;>intro hc1
  ·refine .ps 3 V (.kT V (.nil ?_));exact ⟨⟨or_T hc1,V,V,V,V,V,V,V,U⟩,(H.erase 0).wk (by omega)⟩
  ·refine .fV H 5 V (.lV H 5 V (.iV V (.kF V (.nil ?_))));exact ⟨⟨or_F hc1,V,V,V,V,V,V,V,U⟩,(H.erase 0).wk (by omega)⟩
 refine .mV V ?_;refine .md H 4 [(42,(vb (((x1.1.2 != 0)||(x1.1.1.Period != 7))||(x1.1.1.Count != 1)))),(1,(.ptr id1 2 0)),(2,(.ptr (b3+5) 4 0)),(4,(.ptr (b4+5) 4 0)),(5,(vi x2.1.2)),(6,(.ptr (b5+5) 4 0)),(7,(vi x3.1.2)),(9,(vi x4.1.2))] [.blk id1 44 [(.buf id2 6 7),(vi x4.2.2)],.blk id2 72 (kcells x4.2.1),.blk (b5+5) 29 [(vi x3.1.1.Period),(vi x3.1.1.Count),w5,w6],.blk (b4+5) 29 [(vi x2.1.1.Period),(vi x2.1.1.Count),w3,w4],.blk (b3+5) 29 [(vi x1.1.1.Period),(vi x1.1.1.Count),w1,w2]] rfl ?_ λe G H=>?_
 ·refine .split V V ?_ ?_<;>intro hc2
  ·refine .ps 3 V (.kT V (.nil ?_));exact ⟨⟨or_T hc2,V,V,V,V,V,V,V,U⟩,H.wk (by omega)⟩
  ·refine .fV H 4 V (.lV H 4 V (.iV V (.kF V (.nil ?_))));exact ⟨⟨or_F hc2,V,V,V,V,V,V,V,U⟩,H.wk (by omega)⟩
 refine .mV V ?_;obtain ⟨y1,hj1,h⟩:=bs h;refine .md H 5 [(48,(vb y1)),(1,(.ptr id1 2 0)),(4,(.ptr (b4+5) 4 0)),(5,(vi x2.1.2)),(6,(.ptr (b5+5) 4 0)),(7,(vi x3.1.2)),(9,(vi x4.1.2))] [.blk id1 44 [(.buf id2 6 7),(vi x4.2.2)],.blk id2 72 (kcells x4.2.1),.blk (b5+5) 29 [(vi x3.1.1.Period),(vi x3.1.1.Count),w5,w6],.blk (b4+5) 29 [(vi x2.1.1.Period),(vi x2.1.1.Count),w3,w4]] V ?_ λe G H=>?_
 ·refine .sp hj1 V ?_ ?_<;>intro h
  ·refine .ps 4 V (.kT V (.nil ?_));obtain rfl:=sj h;exact ⟨EI V,(H.erase 4).wk (by omega)⟩
  refine .LV [(vi x1.1.1.Period),(vi x1.1.1.Count),w1,w2] H 4 V (.wt V V ?_);obtain ⟨x5,q5,h⟩:=bs h;refine .Z2y (xs:=[(.agg [(vi x1.1.1.Period),(vi x1.1.1.Count),w1,w2]),(vi 0)]) (ys:=[(.agg (vs (Form.cs (Form.mk x1.1.1.Period x1.1.1.Count x1.1.1.Core x1.1.1.Odd)))),(vi 0)]) H V (.cons (.a (.cons (.v _) (.cons (.v _) (.cons (.ro hw1) (.cons (.ro hw2) .nil))))) (.cons (.c (.v _)) .nil)) (Z05 q5) V nofun V λG H=>(.bV [(vi (-3)),(vi 3)] V (.wt V V (.binA (u:=(.agg [(vi x5.From),(vi x5.To)])) (w:=(.agg [(vi (-3)),(vi 3)])) (r:=.bool (!((x5.From==(-3))&&((x5.To==3)&&true)))) V V (by kernel_rfl) (λ_=>Z4Q V V V V) V (.kF V (.nil ?_)))));obtain rfl:=sj h;exact ⟨EI V,(H.erase 4).wk (by omega)⟩
 refine .mV V ?_;refine .md H 3 [(52,(vb (y1||(x2.1.2 != 0)))),(1,(.ptr id1 2 0)),(4,(.ptr (b4+5) 4 0)),(6,(.ptr (b5+5) 4 0)),(7,(vi x3.1.2)),(9,(vi x4.1.2))] [.blk id1 44 [(.buf id2 6 7),(vi x4.2.2)],.blk id2 72 (kcells x4.2.1),.blk (b5+5) 29 [(vi x3.1.1.Period),(vi x3.1.1.Count),w5,w6],.blk (b4+5) 29 [(vi x2.1.1.Period),(vi x2.1.1.Count),w3,w4]] rfl ?_ λe G H=>?_
 ·refine .split V V ?_ ?_<;>intro hc4
  ·refine .ps 2 V (.kT V (.nil ?_));exact ⟨⟨or_T hc4,V,V,V,V,V,U⟩,H.wk (by omega)⟩
  ·refine .mV V (.iV V (.kF V (.nil ?_)));exact ⟨⟨or_F hc4,V,V,V,V,V,U⟩,H.wk (by omega)⟩
 refine .mV V ?_;obtain ⟨y2,hj2,h⟩:=bs h;refine .md H 5 [(58,(vb y2)),(1,(.ptr id1 2 0)),(4,(.ptr (b4+5) 4 0)),(6,(.ptr (b5+5) 4 0)),(7,(vi x3.1.2)),(9,(vi x4.1.2))] [.blk id1 44 [(.buf id2 6 7),(vi x4.2.2)],.blk id2 72 (kcells x4.2.1),.blk (b5+5) 29 [(vi x3.1.1.Period),(vi x3.1.1.Count),w5,w6],.blk (b4+5) 29 [(vi x2.1.1.Period),(vi x2.1.1.Count),w3,w4]] V ?_ λe G H=>?_
 ·refine .sp hj2 V ?_ ?_<;>intro h
  ·refine .ps 4 V (.kT V (.nil ?_));obtain rfl:=sj h;exact ⟨EI V,H.wk (by omega)⟩
  refine .LV [(vi x2.1.1.Period),(vi x2.1.1.Count),w3,w4] H 3 V (.wt V V ?_);obtain ⟨x6,q6,h⟩:=bs h;refine .Z2y (xs:=[(.agg [(vi x2.1.1.Period),(vi x2.1.1.Count),w3,w4]),(vi 1)]) (ys:=[(.agg (vs (Form.cs (Form.mk x2.1.1.Period x2.1.1.Count x2.1.1.Core x2.1.1.Odd)))),(vi 1)]) H V (.cons (.a (.cons (.v _) (.cons (.v _) (.cons (.ro hw3) (.cons (.ro hw4) .nil))))) (.cons (.c (.v _)) .nil)) (Z05 q6) V nofun V λG H=>(.bV [(vi 31),(vi 58)] V (.wt V V (.binA (u:=(.agg [(vi x6.From),(vi x6.To)])) (w:=(.agg [(vi 31),(vi 58)])) (r:=.bool (!((x6.From==31)&&((x6.To==58)&&true)))) V V (by kernel_rfl) (λ_=>Z4Q V V V V) V (.kF V (.nil ?_)))));obtain rfl:=sj h;exact ⟨EI V,H.wk (by omega)⟩
 refine .mV V ?_;obtain ⟨y3,hj3,h⟩:=bs h;refine .md H 5 [(64,(vb y3)),(1,(.ptr id1 2 0)),(6,(.ptr (b5+5) 4 0)),(7,(vi x3.1.2)),(9,(vi x4.1.2))] [.blk id1 44 [(.buf id2 6 7),(vi x4.2.2)],.blk id2 72 (kcells x4.2.1),.blk (b5+5) 29 [(vi x3.1.1.Period),(vi x3.1.1.Count),w5,w6]] V ?_ λe G H=>?_
 ·refine .sp hj3 V ?_ ?_<;>intro h
  ·refine .ps 4 V (.kT V (.nil ?_));obtain rfl:=sj h;exact ⟨EI V,(H.erase 3).wk (by omega)⟩
  refine .LV [(vi x2.1.1.Period),(vi x2.1.1.Count),w3,w4] H 3 V (.wt V V ?_);obtain ⟨x7,q7,h⟩:=bs h;refine .Z2y (xs:=[(.agg [(vi x2.1.1.Period),(vi x2.1.1.Count),w3,w4]),(vi 25)]) (ys:=[(.agg (vs (Form.cs (Form.mk x2.1.1.Period x2.1.1.Count x2.1.1.Core x2.1.1.Odd)))),(vi 25)]) H V (.cons (.a (.cons (.v _) (.cons (.v _) (.cons (.ro hw3) (.cons (.ro hw4) .nil))))) (.cons (.c (.v _)) .nil)) (Z05 q7) V nofun V λG H=>(.bV [(vi 761),(vi 789)] V (.wt V V (.binA (u:=(.agg [(vi x7.From),(vi x7.To)])) (w:=(.agg [(vi 761),(vi 789)])) (r:=.bool (!((x7.From==761)&&((x7.To==789)&&true)))) V V (by kernel_rfl) (λ_=>Z4Q V V V V) V (.kF V (.nil ?_)))));obtain rfl:=sj h;exact ⟨EI V,(H.erase 3).wk (by omega)⟩
 refine .na H λH=>?_;refine .wh h V ?_ ?_<;>intro h
 ·refine .tR 1 V H λb8 G H=>(.aV V (.na H λH=>(.ret ?_)));obtain rfl:=sj h;exact Ends.eR V
 refine .skip (.tR 30 V H λb9 G H=>(.mV V (.iV V (.mV V ?_))));obtain ⟨y4,hj4,h⟩:=bs h;refine .md H 5 [(72,(vb y4)),(1,(.ptr id1 2 0)),(6,(.ptr (b5+5) 4 0)),(9,(vi x4.1.2))] [.blk id1 44 [(.buf id2 6 7),(vi x4.2.2)],.blk id2 72 (kcells x4.2.1),.blk (b5+5) 29 [(vi x3.1.1.Period),(vi x3.1.1.Count),w5,w6]] V ?_ λe G H=>?_
 ·refine .sp hj4 V ?_ ?_<;>intro h
  ·refine .LV [(vi x3.1.1.Period),(vi x3.1.1.Count),w5,w6] H 2 V (.wt V V ?_);obtain ⟨x8,q8,h⟩:=bs h;refine .Z2y (xs:=[(.agg [(vi x3.1.1.Period),(vi x3.1.1.Count),w5,w6]),(vi 0)]) (ys:=[(.agg (vs (Form.cs (Form.mk x3.1.1.Period x3.1.1.Count x3.1.1.Core x3.1.1.Odd)))),(vi 0)]) H V (.cons (.a (.cons (.v _) (.cons (.v _) (.cons (.ro hw5) (.cons (.ro hw6) .nil))))) (.cons (.c (.v _)) .nil)) (Z05 q8) V nofun V λG H=>(.bV [(vi 0),(vi 364)] V (.wt V V (.binA (u:=(.agg [(vi x8.From),(vi x8.To)])) (w:=(.agg [(vi 0),(vi 364)])) (r:=.bool ((x8.From==0)&&((x8.To==364)&&true))) V V (by kernel_rfl) (λ_=>Z4Q V V V V) V (.kT V (.nil ?_)))));obtain rfl:=sj h;exact ⟨EI V,H.wk (by omega)⟩
  refine .ps 4 V (.kF V (.nil ?_));obtain rfl:=sj h;exact ⟨EI V,H.wk (by omega)⟩
 refine .mV V ?_;obtain ⟨y5,hj5,h⟩:=bs h;refine .md H 5 [(78,(vb y5)),(1,(.ptr id1 2 0)),(6,(.ptr (b5+5) 4 0)),(9,(vi x4.1.2))] [.blk id1 44 [(.buf id2 6 7),(vi x4.2.2)],.blk id2 72 (kcells x4.2.1),.blk (b5+5) 29 [(vi x3.1.1.Period),(vi x3.1.1.Count),w5,w6]] V ?_ λe G H=>?_
 ·refine .sp hj5 V ?_ ?_<;>intro h
  ·refine .LV [(vi x3.1.1.Period),(vi x3.1.1.Count),w5,w6] H 2 V (.wt V V ?_);obtain ⟨x9,q9,h⟩:=bs h;refine .Z2y (xs:=[(.agg [(vi x3.1.1.Period),(vi x3.1.1.Count),w5,w6]),(vi 1)]) (ys:=[(.agg (vs (Form.cs (Form.mk x3.1.1.Period x3.1.1.Count x3.1.1.Core x3.1.1.Odd)))),(vi 1)]) H V (.cons (.a (.cons (.v _) (.cons (.v _) (.cons (.ro hw5) (.cons (.ro hw6) .nil))))) (.cons (.c (.v _)) .nil)) (Z05 q9) V nofun V λG H=>(.bV [(vi 365),(vi 729)] V (.wt V V (.binA (u:=(.agg [(vi x9.From),(vi x9.To)])) (w:=(.agg [(vi 365),(vi 729)])) (r:=.bool ((x9.From==365)&&((x9.To==729)&&true))) V V (by kernel_rfl) (λ_=>Z4Q V V V V) V (.kT V (.nil ?_)))));obtain rfl:=sj h;exact ⟨EI V,H.wk (by omega)⟩
  refine .ps 4 V (.kF V (.nil ?_));obtain rfl:=sj h;exact ⟨EI V,H.wk (by omega)⟩
 refine .mV V ?_;obtain ⟨y6,hj6,h⟩:=bs h;refine .md H 5 [(84,(vb y6)),(1,(.ptr id1 2 0)),(9,(vi x4.1.2))] [.blk id1 44 [(.buf id2 6 7),(vi x4.2.2)],.blk id2 72 (kcells x4.2.1)] V ?_ λe G H=>?_
 ·refine .sp hj6 V ?_ ?_<;>intro h
  ·refine .LV [(vi x3.1.1.Period),(vi x3.1.1.Count),w5,w6] H 2 V (.wt V V ?_);obtain ⟨x10,q10,h⟩:=bs h;refine .Z2y (xs:=[(.agg [(vi x3.1.1.Period),(vi x3.1.1.Count),w5,w6]),(vi 2)]) (ys:=[(.agg (vs (Form.cs (Form.mk x3.1.1.Period x3.1.1.Count x3.1.1.Core x3.1.1.Odd)))),(vi 2)]) H V (.cons (.a (.cons (.v _) (.cons (.v _) (.cons (.ro hw5) (.cons (.ro hw6) .nil))))) (.cons (.c (.v _)) .nil)) (Z05 q10) V nofun V λG H=>(.bV [(vi 730),(vi 1095)] V (.wt V V (.binA (u:=(.agg [(vi x10.From),(vi x10.To)])) (w:=(.agg [(vi 730),(vi 1095)])) (r:=.bool ((x10.From==730)&&((x10.To==1095)&&true))) V V (by kernel_rfl) (λ_=>Z4Q V V V V) V (.kT V (.nil ?_)))));obtain rfl:=sj h;exact ⟨EI V,(H.erase 2).wk (by omega)⟩
  refine .ps 4 V (.kF V (.nil ?_));obtain rfl:=sj h;exact ⟨EI V,(H.erase 2).wk (by omega)⟩
 refine .mV V ?_;refine .md H 3 [(88,(vb (y6&&(x4.1.2==80)))),(1,(.ptr id1 2 0))] [.blk id1 44 [(.buf id2 6 7),(vi x4.2.2)],.blk id2 72 (kcells x4.2.1)] V ?_ λe G H=>?_
 ·refine .split V V ?_ ?_<;>intro hc11
  ·refine .mV V (.iV V (.kT V (.nil ?_)));exact ⟨⟨Z2n hc11,V,U⟩,H.wk (by omega)⟩
  ·refine .ps 2 V (.kF V (.nil ?_));exact ⟨⟨Z2a hc11,V,U⟩,H.wk (by omega)⟩
 refine .mV V ?_;refine .md H 4 [(93,(vb ((y6&&(x4.1.2==80))&&(x4.2.2==3))))] [] V ?_ λe G H=>?_
 ·refine .split V V ?_ ?_<;>intro hc12
  ·refine .mP V (.wt V V ?_);refine .callI (cv:=.v (.fn 13)) (ys:=[(.ptr id1 2 0)]) (L:=[.blk id2 72 (kcells x4.2.1)]) [.blk id1 44 [(.buf id2 6 7),(vi x4.2.2)]] H rfl rfl (λT _ H=>made_call H) nofun rfl ?_;rintro _ _ G ⟨rfl,rfl⟩ H;replace H:Has G _ _ [.blk id1 44 [(.buf id2 6 7),(vi x4.2.2)],.blk id2 72 (kcells x4.2.1)]:=H;refine .iV V (.kT V (.nil ?_));exact ⟨⟨Z2n hc12,U⟩,((H.erase 1).erase 0).wk (by omega)⟩
  ·refine .ps 3 V (.kF V (.nil ?_));exact ⟨⟨Z2a hc12,U⟩,((H.erase 1).erase 0).wk (by omega)⟩
 refine .aV V (.na H λH=>(.ret ?_));obtain rfl:=sj h;exact Ends.eR V
theorem Z44 {r:Bool} (h:Z1m=r):Fn CZ 14 [] (vb r):=by
 subst h;exact Z40 Z3K
theorem Z6b {r:(List ByteArray)} (h:Z9=r):Fn CZ 8 [] (vl cS r):=lift rfl (Z2I h) rfl rfl
theorem Z7J {f:Form} {r:Int} (h:Zy f=some r):Fn CZ 18 [(.agg (vs (Form.cs f)))] (vi r):=lift rfl (gran_Right_fn h) rfl rfl
theorem Z3g {f:Form} {i:Int} {r:(List Span)×Int} (h:Z0T f i=some r):Fn CZ 16 [(.agg (vs (Form.cs f))),(vi i)] (.tup [(vl Span.cs r.1),(vi r.2)]):=lift rfl (Z2b h) rfl rfl
theorem Z2W {which:Int} {index:Int} {r:Bool} (h:Z0N which index=some r):Fn CZ 6 [(.v (.int .u8 which)),(.v (.int .i32 index))] (vb r):=by
 refine Fn.go Tryd.func6 V λG H=>?_;unfold Z0N at h;refine .tR 1 V H λb1 G H=>(.aV V (.na H λH=>(.tR 2 V H λb2 G H=>?_)));refine .callFO (ys:=[]) H rfl new_call nofun rfl ?_;rintro _ _ G ⟨id1,id2,rfl,rfl⟩ H;replace H:Has G _ _ [.blk id1 44 [(.buf id2 6 7),(vi 0)],.blk id2 72 (kcells [none,none,none,none,none,none])]:=H;refine .aP V (.na H λH=>(.tR 2 V H λb3 G H=>(.cV (Z6b V) V (.aV V (.na H λH=>(.then (.tR 3 V H λb4 G H=>(.mV V ?_))))))));refine .nV V (.iV V (.na H λH=>?_));refine .wh h V ?_ ?_<;>intro h
 ·refine .tR 1 V H λb5 G H=>(.aV V (.na H λH=>(.ret ?_)));obtain rfl:=sj h;exact Ends.eR V
 refine .skip (.tR 16 V H λb6 G H=>(.mP V (.mV V (.mV V (.conv (m:=which) V V V V (.mV V (.nV V ?_)))))));obtain ⟨u1,q1,h⟩:=bs h;refine .rem (m:=(w64 which)) (m':=(Z9.length:Int)) V V (nz_ne q1) V ?_;obtain ⟨x1,q2,h⟩:=bs h;refine .jV q2 V (.pV V ?_);obtain ⟨x2,q3,h⟩:=bs h;refine .callI (cv:=.v (.fn 10)) (ys:=[(.ptr id1 2 0),(.v (.str x1))]) (L:=[]) [.blk id1 44 [(.buf id2 6 7),(vi 0)],.blk id2 72 (kcells [none,none,none,none,none,none])] H rfl rfl (λT _ H=>Z37 (g:=x2.1.1) (e:=x2.1.2) (ks':=x2.2.1) (m':=x2.2.2) q3 H) nofun rfl ?_;rintro _ _ G ⟨w1,w2,hw1,hw2,rfl,rfl⟩ H;replace H:Has G _ _ [.blk id1 44 [(.buf id2 6 7),(vi x2.2.2)],.blk id2 72 (kcells x2.2.1)]:=H;refine .m1 (.tup [(.agg [(vi x2.1.1.Period),(vi x2.1.1.Count),w1,w2]),(vi x2.1.2)]) V V (.xV V (.xV V (.alc (cs:=[(vi 0),(vi 0),.nils,.nils]) H V V λG H=>(.sV [(vi x2.1.1.Period),(vi x2.1.1.Count),w1,w2] H 0 V λG H=>(.aV V (.na H λH=>(.tR 4 V H λb7 G H=>(.mV V ?_))))))));refine .conv (m:=index) V V V V (.quo (m:=(w64 index)) (m':=2) V V (by decide) V (.aV V (.na H λH=>(.then (.tR 18 V H λb8 G H=>(.mV V (.iV V (.mV V ?_))))))));obtain ⟨y1,hj1,h⟩:=bs h;refine .md H 4 [(43,(vb y1)),(7,(.ptr (b6+13) 4 0)),(9,(vi (w64 ((w64 index).tdiv 2))))] [.blk (b6+13) 29 [(vi x2.1.1.Period),(vi x2.1.1.Count),w1,w2]] V ?_ λe G H=>?_
 ·refine .sp hj1 V ?_ ?_<;>intro h
  ·refine .ps 3 V (.kT V (.nil ?_));obtain rfl:=sj h;exact ⟨EI V,((H.erase 2).erase 1).wk (by omega)⟩
  refine .LV [(vi x2.1.1.Period),(vi x2.1.1.Count),w1,w2] H 0 V (.wt V V ?_);obtain ⟨x3,q4,h⟩:=bs h;refine .Z2y (xs:=[(.agg [(vi x2.1.1.Period),(vi x2.1.1.Count),w1,w2])]) (ys:=[(.agg (vs (Form.cs (Form.mk x2.1.1.Period x2.1.1.Count x2.1.1.Core x2.1.1.Odd))))]) H V (.cons (.a (.cons (.v _) (.cons (.v _) (.cons (.ro hw1) (.cons (.ro hw2) .nil))))) .nil) (Z7J q4) V nofun V λG H=>(.iV V (.kF V (.nil ?_)));obtain rfl:=sj h;exact ⟨EI V,((H.erase 2).erase 1).wk (by omega)⟩
 refine .mV V ?_;refine .md H 4 [(48,(vb (y1||(decide (x2.1.1.Count<1))))),(7,(.ptr (b6+13) 4 0)),(9,(vi (w64 ((w64 index).tdiv 2))))] [.blk (b6+13) 29 [(vi x2.1.1.Period),(vi x2.1.1.Count),w1,w2]] rfl ?_ λe G H=>?_
 ·refine .split V V ?_ ?_<;>intro hc3
  ·refine .ps 3 V (.kT V (.nil ?_));exact ⟨⟨or_T hc3,V,V,U⟩,H.wk (by omega)⟩
  ·refine .fV H 0 V (.lV H 0 V (.iV V (.kF V (.nil ?_))));exact ⟨⟨or_F hc3,V,V,U⟩,H.wk (by omega)⟩
 refine .mV V ?_;refine .md H 5 [(54,(vb ((y1||(decide (x2.1.1.Count<1)))||((x2.1.1.Odd.length:Int) != 0)))),(7,(.ptr (b6+13) 4 0)),(9,(vi (w64 ((w64 index).tdiv 2))))] [.blk (b6+13) 29 [(vi x2.1.1.Period),(vi x2.1.1.Count),w1,w2]] rfl ?_ λe G H=>?_
 ·refine .split V V ?_ ?_<;>intro hc4
  ·refine .ps 4 V (.kT V (.nil ?_));exact ⟨⟨or_T hc4,V,V,U⟩,H.wk (by omega)⟩
  ·refine .fV H 0 V (.lV H 0 V (.wt V V (.lenRo (c:=Granule.cs) (xs:=x2.1.1.Odd) hw2 V V V (.iV V (.kF V (.nil ?_))))));exact ⟨⟨or_F hc4,V,V,U⟩,H.wk (by omega)⟩
 refine .na H λH=>?_;refine .wh h V ?_ ?_<;>intro h
 ·refine .tR 1 V H λb9 G H=>(.aV V (.na H λH=>(.ret ?_)));obtain rfl:=sj h;exact Ends.eR V
 refine .skip (.tR 8 V H λb10 G H=>(.LV [(vi x2.1.1.Period),(vi x2.1.1.Count),w1,w2] H 0 V (.mV V ?_)));obtain ⟨x4,q5,h⟩:=bs h;refine .Z2y (xs:=[(.agg [(vi x2.1.1.Period),(vi x2.1.1.Count),w1,w2]),(vi (w64 ((w64 index).tdiv 2)))]) (ys:=[(.agg (vs (Form.cs (Form.mk x2.1.1.Period x2.1.1.Count x2.1.1.Core x2.1.1.Odd)))),(vi (w64 ((w64 index).tdiv 2)))]) H V (.cons (.a (.cons (.v _) (.cons (.v _) (.cons (.ro hw1) (.cons (.ro hw2) .nil))))) (.cons (.c (.v _)) .nil)) (Z3g q5) V nofun V λG H=>(.m1 (.tup [(vl Span.cs x4.1),(vi x4.2)]) V V (.xV V (.xV V (.aV V (.aV V (.na H λH=>(.tR 9 V H λb11 G H=>(.LV [(vi x2.1.1.Period),(vi x2.1.1.Count),w1,w2] H 0 V ?_))))))));refine .mV V (.iV V ?_);obtain ⟨x5,q6,h⟩:=bs h;refine .Z2y (xs:=[(.agg [(vi x2.1.1.Period),(vi x2.1.1.Count),w1,w2]),(vi (w64 ((w64 ((w64 index).tdiv 2))+1)))]) (ys:=[(.agg (vs (Form.cs (Form.mk x2.1.1.Period x2.1.1.Count x2.1.1.Core x2.1.1.Odd)))),(vi (w64 ((w64 ((w64 index).tdiv 2))+1)))]) H V (.cons (.a (.cons (.v _) (.cons (.v _) (.cons (.ro hw1) (.cons (.ro hw2) .nil))))) (.cons (.c (.v _)) .nil)) (Z3g q6) V nofun V λG H=>(.m1 (.tup [(vl Span.cs x5.1),(vi x5.2)]) V V (.xV V (.xV V (.aV V (.aV V (.na H λH=>(.tR 11 V H λb12 G H=>(.LV [(vi x2.1.1.Period),(vi x2.1.1.Count),w1,w2] H 0 V ?_))))))));refine .mV V (.fV H 0 V (.lV H 0 V (.iV V ?_)));obtain ⟨x6,q7,h⟩:=bs h;refine .Z2y (xs:=[(.agg [(vi x2.1.1.Period),(vi x2.1.1.Count),w1,w2]),(vi (w64 ((w64 ((w64 index).tdiv 2))+x2.1.1.Count)))]) (ys:=[(.agg (vs (Form.cs (Form.mk x2.1.1.Period x2.1.1.Count x2.1.1.Core x2.1.1.Odd)))),(vi (w64 ((w64 ((w64 index).tdiv 2))+x2.1.1.Count)))]) H V (.cons (.a (.cons (.v _) (.cons (.v _) (.cons (.ro hw1) (.cons (.ro hw2) .nil))))) (.cons (.c (.v _)) .nil)) (Z3g q7) V nofun V λG H=>(.m1 (.tup [(vl Span.cs x6.1),(vi x6.2)]) V V (.xV V (.xV V (.aV V (.aV V (.na H λH=>(.then (.tR 25 V H λb13 G H=>?_))))))))
 refine .mV V (.iV V (.mV V ?_));refine .md H 3 [(82,(vb ((x4.2 != 0)||(x5.2 != 0)))),(7,(.ptr (b6+13) 4 0)),(10,(vl Span.cs x4.1)),(12,(vl Span.cs x5.1)),(14,(vl Span.cs x6.1)),(15,(vi x6.2))] [.blk (b6+13) 29 [(vi x2.1.1.Period),(vi x2.1.1.Count),w1,w2]] rfl ?_ λe G H=>?_
 ·refine .split V V ?_ ?_<;>intro hc6
  ·refine .ps 2 V (.kT V (.nil ?_));exact ⟨⟨or_T hc6,V,V,V,V,V,U⟩,H.wk (by omega)⟩
  ·refine .mV V (.iV V (.kF V (.nil ?_)));exact ⟨⟨or_F hc6,V,V,V,V,V,U⟩,H.wk (by omega)⟩
 refine .mV V ?_;refine .md H 3 [(86,(vb (((x4.2 != 0)||(x5.2 != 0))||(x6.2 != 0)))),(7,(.ptr (b6+13) 4 0)),(10,(vl Span.cs x4.1)),(12,(vl Span.cs x5.1)),(14,(vl Span.cs x6.1))] [.blk (b6+13) 29 [(vi x2.1.1.Period),(vi x2.1.1.Count),w1,w2]] rfl ?_ λe G H=>?_
 ·refine .split V V ?_ ?_<;>intro hc7
  ·refine .ps 2 V (.kT V (.nil ?_));exact ⟨⟨or_T hc7,V,V,V,V,U⟩,H.wk (by omega)⟩
  ·refine .mV V (.iV V (.kF V (.nil ?_)));exact ⟨⟨or_F hc7,V,V,V,V,U⟩,H.wk (by omega)⟩
 refine .mV V ?_;refine .md H 4 [(91,(vb ((((x4.2 != 0)||(x5.2 != 0))||(x6.2 != 0))||((x4.1.length:Int) != 1)))),(7,(.ptr (b6+13) 4 0)),(10,(vl Span.cs x4.1)),(12,(vl Span.cs x5.1)),(14,(vl Span.cs x6.1))] [.blk (b6+13) 29 [(vi x2.1.1.Period),(vi x2.1.1.Count),w1,w2]] rfl ?_ λe G H=>?_
 ·refine .split V V ?_ ?_<;>intro hc8
  ·refine .ps 3 V (.kT V (.nil ?_));exact ⟨⟨or_T hc8,V,V,V,V,U⟩,H.wk (by omega)⟩
  ·refine .mV V (.nV V (.iV V (.kF V (.nil ?_))));exact ⟨⟨or_F hc8,V,V,V,V,U⟩,H.wk (by omega)⟩
 refine .mV V ?_;refine .md H 4 [(96,(vb (((((x4.2 != 0)||(x5.2 != 0))||(x6.2 != 0))||((x4.1.length:Int) != 1))||((x5.1.length:Int) != 1)))),(7,(.ptr (b6+13) 4 0)),(10,(vl Span.cs x4.1)),(12,(vl Span.cs x5.1)),(14,(vl Span.cs x6.1))] [.blk (b6+13) 29 [(vi x2.1.1.Period),(vi x2.1.1.Count),w1,w2]] rfl ?_ λe G H=>?_
 ·refine .split V V ?_ ?_<;>intro hc9
  ·refine .ps 3 V (.kT V (.nil ?_));exact ⟨⟨or_T hc9,V,V,V,V,U⟩,H.wk (by omega)⟩
  ·refine .mV V (.nV V (.iV V (.kF V (.nil ?_))));exact ⟨⟨or_F hc9,V,V,V,V,U⟩,H.wk (by omega)⟩
 refine .mV V ?_;refine .md H 4 [(101,(vb ((((((x4.2 != 0)||(x5.2 != 0))||(x6.2 != 0))||((x4.1.length:Int) != 1))||((x5.1.length:Int) != 1))||((x6.1.length:Int) != 1)))),(7,(.ptr (b6+13) 4 0)),(10,(vl Span.cs x4.1)),(12,(vl Span.cs x5.1)),(14,(vl Span.cs x6.1))] [.blk (b6+13) 29 [(vi x2.1.1.Period),(vi x2.1.1.Count),w1,w2]] rfl ?_ λe G H=>?_
 ·refine .split V V ?_ ?_<;>intro hc10
  ·refine .ps 3 V (.kT V (.nil ?_));exact ⟨⟨or_T hc10,V,V,V,V,U⟩,H.wk (by omega)⟩
  ·refine .mV V (.nV V (.iV V (.kF V (.nil ?_))));exact ⟨⟨or_F hc10,V,V,V,V,U⟩,H.wk (by omega)⟩
 refine .na H λH=>?_;refine .wh h V ?_ ?_<;>intro h
 ·refine .tR 1 V H λb14 G H=>(.aV V (.na H λH=>(.ret ?_)));obtain rfl:=sj h;exact Ends.eR V
 refine .skip (.then (.Z0b 53 V (by kernel_rfl) H λb15 G H B15=>(.mV V ?_)));obtain ⟨x7,q8,h⟩:=bs h;refine .jV q8 V (.Zm V V V V (.pV V (.iV V (.mV V ?_))));obtain ⟨x8,q9,h⟩:=bs h;refine .jV q9 V (.Zm V V V V (.pV V (.iV V (.mV V ?_))));obtain ⟨y2,hj2,h⟩:=bs h;refine .md H 10 [(122,(vb y2)),(7,(.ptr (b6+13) 4 0)),(10,(vl Span.cs x4.1)),(14,(vl Span.cs x6.1))] [.blk (b6+13) 29 [(vi x2.1.1.Period),(vi x2.1.1.Count),w1,w2]] V ?_ λe G H=>?_
 ·refine .sp hj2 V ?_ ?_<;>intro h
  ·refine .mV V (.wt V V ?_);obtain ⟨x9,q10,h⟩:=bs h;refine .jV q10 V (.wt V V (.Zm V V V V (.pV V (.mV V (.wt V V ?_)))));obtain ⟨x10,q11,h⟩:=bs h;refine .jV q11 V (.wt V V (.Zm V V V V (.pV V (.iV V (.kT V (.nil ?_))))));obtain rfl:=sj h;exact ⟨EI V,H.wk (by omega)⟩
  refine .ps 9 V (.kF V (.nil ?_));obtain rfl:=sj h;exact ⟨EI V,H.wk (by omega)⟩
 refine .mV V ?_;obtain ⟨y3,hj3,h⟩:=bs h;refine .md H 13 [(136,(vb y3)),(7,(.ptr (b6+13) 4 0)),(10,(vl Span.cs x4.1)),(14,(vl Span.cs x6.1))] [.blk (b6+13) 29 [(vi x2.1.1.Period),(vi x2.1.1.Count),w1,w2]] V ?_ λe G H=>?_
 ·refine .sp hj3 V ?_ ?_<;>intro h
  ·refine .mV V (.wt V V ?_);obtain ⟨x11,q12,h⟩:=bs h;refine .jV q12 V (.wt V V (.Zm V V V V (.pV V (.mV V (.wt V V ?_)))));obtain ⟨x12,q13,h⟩:=bs h;refine .jV q13 V (.wt V V (.Zm V V V V (.pV V (.wt V V (.Z6 H 0 V V V V V (so (B15 0 _ V _ V)) V (.wt V V (.ld (vi x2.1.1.Period) H 0 V V V V V (so (B15 0 _ V _ V)) V (.iV V ?_))))))));refine .iV V (.kT V (.nil ?_));obtain rfl:=sj h;exact ⟨EI V,H.wk (by omega)⟩
  refine .ps 12 V (.kF V (.nil ?_));obtain rfl:=sj h;exact ⟨EI V,H.wk (by omega)⟩
 refine .mV V ?_;obtain ⟨y4,hj4,h⟩:=bs h;refine .md H 13 [(150,(vb y4))] [] V ?_ λe G H=>?_
 ·refine .sp hj4 V ?_ ?_<;>intro h
  ·refine .mV V (.wt V V ?_);obtain ⟨x13,q14,h⟩:=bs h;refine .jV q14 V (.wt V V (.Zm V V V V (.pV V (.mV V (.wt V V ?_)))));obtain ⟨x14,q15,h⟩:=bs h;refine .jV q15 V (.wt V V (.Zm V V V V (.pV V (.wt V V (.Z6 H 0 V V V V V (so (B15 0 _ V _ V)) V (.wt V V (.ld (vi x2.1.1.Period) H 0 V V V V V (so (B15 0 _ V _ V)) V (.iV V ?_))))))));refine .iV V (.kT V (.nil ?_));obtain rfl:=sj h;exact ⟨EI V,(H.erase 0).wk (by omega)⟩
  refine .ps 12 V (.kF V (.nil ?_));obtain rfl:=sj h;exact ⟨EI V,(H.erase 0).wk (by omega)⟩
 refine .mV V ?_;refine .md H 2 [(153,(vb (y4&&Z1m)))] [] V ?_ λe G H=>?_
 ·refine .split V V ?_ ?_<;>intro hc15
  ·refine .cV (Z44 V) V (.kT V (.nil ?_));exact ⟨⟨Z2n hc15,U⟩,H.wk (by omega)⟩
  ·refine .ps 1 V (.kF V (.nil ?_));exact ⟨⟨Z2a hc15,U⟩,H.wk (by omega)⟩
 refine .aV V (.na H λH=>(.ret ?_));obtain rfl:=sj h;exact Ends.eR V
end Go.Dn

namespace Go.Dn
open Go Go.Proofs
set_option maxRecDepth 100000
set_option maxHeartbeats 4000000
end Go.Dn

namespace Go.Dn
open Go
def In64 (a:Int):Prop:=-9223372036854775808<=a/\a<=9223372036854775807
def Z4g (a:Int):Prop:=0<=a/\a<=18446744073709551615
def fitS (a:Int):Int×Int:=if -9223372036854775808<=a/\a<=9223372036854775807 then (a,0) else (0,10)
theorem fitS_of {a:Int} (h:In64 a):fitS a=(a,0):=if_pos h
theorem fitS_not {a:Int} (h:¬ In64 a):fitS a=(0,10):=if_neg h
theorem fit_or (x:Int):(In64 x/\fitS x=(x,0))\/(¬ In64 x/\fitS x=(0,10)):=by
 by_cases h:In64 x
 ·exact .inl ⟨h,fitS_of h⟩
 ·exact .inr ⟨h,fitS_not h⟩
theorem and32 (x:Int) (h:Z4g x):(((BitVec.ofInt 64 x &&& BitVec.ofInt 64 4294967295).toNat:Nat):Int)=x % 4294967296:=by
 obtain ⟨n,rfl⟩:=Int.eq_ofNat_of_zero_le h.1
 have hn:n<2 ^ 64:=by have:=h.2;omega
 have h1:(BitVec.ofInt 64 (n:Int)).toNat=n:=by simp [BitVec.toNat_ofInt];omega
 have h2:(BitVec.ofInt 64 4294967295).toNat=2 ^ 32-1:=by decide
 rw [BitVec.toNat_and,h1,h2,Y0K]
 omega
theorem mul64_fact {x y:Int} (hx:Z4g x) (hy:Z4g y) :
  (x / 4294967296*(y / 4294967296)+(x / 4294967296*(y % 4294967296)+x % 4294967296*(y % 4294967296) / 4294967296) / 4294967296 +
   ((x / 4294967296*(y % 4294967296)+x % 4294967296*(y % 4294967296) / 4294967296) % 4294967296+x % 4294967296*(y / 4294967296)) / 4294967296)=x*y / 18446744073709551616 /\
  0<=x % 4294967296*(y % 4294967296)/\x % 4294967296*(y % 4294967296)<=18446744065119617025 /\
  0<=x / 4294967296*(y % 4294967296)/\x / 4294967296*(y % 4294967296)<=18446744065119617025 /\
  0<=x % 4294967296*(y / 4294967296)/\x % 4294967296*(y / 4294967296)<=18446744065119617025 /\
  0<=x / 4294967296*(y / 4294967296)/\x / 4294967296*(y / 4294967296)<=18446744065119617025:=by
 have b:∀ {u v:Int},0<=u->u<=4294967295->0<=v->v<=4294967295->0<=u*v/\u*v<=18446744065119617025:=by
  intro u v h1 h2 h3 h4;exact ⟨Int.mul_nonneg h1 h3,Int.le_trans (Int.mul_le_mul h2 h4 h3 (by omega)) (by decide)⟩
 obtain ⟨hx1,hx2⟩:=hx
 obtain ⟨hy1,hy2⟩:=hy
 obtain ⟨a1,a2⟩:=b (u:=x % 4294967296) (v:=y % 4294967296) (by omega) (by omega) (by omega) (by omega)
 obtain ⟨b1,b2⟩:=b (u:=x / 4294967296) (v:=y % 4294967296) (by omega) (by omega) (by omega) (by omega)
 obtain ⟨c1,c2⟩:=b (u:=x % 4294967296) (v:=y / 4294967296) (by omega) (by omega) (by omega) (by omega)
 obtain ⟨d1,d2⟩:=b (u:=x / 4294967296) (v:=y / 4294967296) (by omega) (by omega) (by omega) (by omega)
 refine ⟨?_,a1,a2,b1,b2,c1,c2,d1,d2⟩
 have e:x*y=x / 4294967296*(y / 4294967296)*18446744073709551616+(x / 4294967296*(y % 4294967296)+x % 4294967296*(y / 4294967296))*4294967296+x % 4294967296*(y % 4294967296):=by
  have ex:x=x / 4294967296*4294967296+x % 4294967296:=by omega
  have ey:y=y / 4294967296*4294967296+y % 4294967296:=by omega
  clear a1 a2 b1 b2 c1 c2 d1 d2 b hx1 hx2 hy1 hy2
  generalize x / 4294967296=x1 at *
  generalize x % 4294967296=x0 at *
  generalize y / 4294967296=y1 at *
  generalize y % 4294967296=y0 at *
  subst ex ey;simp only [Int.add_mul,Y0e];have h1:x1*4294967296*(y1*4294967296)=x1*y1*18446744073709551616:=by
   rw [Y0a,Int.mul_comm 4294967296,Y0a y1,<- Y0a]
   rfl
  have h2:x1*4294967296*y0=x1*y0*4294967296:=by rw [Y0a,Int.mul_comm 4294967296,<- Y0a]
  have h3:x0*(y1*4294967296)=x0*y1*4294967296:=by rw [<- Y0a]
  rw [h1,h2,h3];omega
 rw [e]
 generalize x / 4294967296*(y / 4294967296)=d at *
 generalize x / 4294967296*(y % 4294967296)=b' at *
 generalize x % 4294967296*(y / 4294967296)=c at *
 generalize x % 4294967296*(y % 4294967296)=a at *
 omega
theorem Z6M {a b:Int} (ha:In64 a) (hb:In64 b):ZK a b=fitS (a+b):=by
 unfold In64 at ha hb
 unfold ZK fitS w64
 rw [Z1z]
 cases h:((decide ((a+b+9223372036854775808) % 18446744073709551616-9223372036854775808>a) != decide (b>0))&&b != 0)
 ·rw [cond_false];simp only [Bool.and_eq_false_iff,bne_eq_false_iff_eq,decide_eq_decide] at h
  split<;>simp only [Y5,and_true]<;>omega
 ·rw [cond_true];simp only [YD,bne_iff_ne,ne_eq,decide_eq_decide] at h
  split<;>simp only [Y5]<;>omega
theorem Z5Y {a:Int} (h:In64 a):Z0C a=a.natAbs:=by
 unfold In64 at h
 unfold Z0C
 rw [pickB]
 simp only [decide_eq_true_eq,Z3w]
 split<;>omega
theorem inU_abs {a:Int} (h:In64 a):Z4g a.natAbs:=by unfold In64 at h;unfold Z4g;omega
theorem natAbs_prod (a b:Int):(a.natAbs:Int)*b.natAbs=(a*b).natAbs:=by rw [Int.natAbs_mul];simp
theorem mul64_eq {x y:Int} (hx:Z4g x) (hy:Z4g y):Zu x y=(x*y / 18446744073709551616,x*y % 18446744073709551616):=by
 unfold Zu
 have hb:∀ z:Int,z.fdiv (2 ^ 32)=z / 4294967296:=λz=>Y0V z (by decide)
 have hm:(IntKind.u64.bits)=64:=rfl
 obtain ⟨h1,h2,h3,h4,h5,h6,h7,h8,h9⟩:=mul64_fact hx hy
 have hw:∀ z:Int,0<=z->z<=18446744073709551615->IntKind.u64.wrap z=z:=λz q1 q2=>by rw [Z3w];omega
 simp only [hb,iAnd]
 rw [hm,and32 x hx,and32 y hy]
 have x0:0<=x % 4294967296/\x % 4294967296<4294967296:=by omega
 have y0:0<=y % 4294967296/\y % 4294967296<4294967296:=by omega
 rw [hw (x % 4294967296) (by omega) (by omega),hw (y % 4294967296) (by omega) (by omega),hw _ h2 (by omega),hw _ h4 (by omega),hw _ h6 (by omega),hw _ h8 (by omega)]
 rw [hw (x / 4294967296*(y % 4294967296)+x % 4294967296*(y % 4294967296) / 4294967296) (by omega) (by omega)]
 rw [and32 _ ⟨by omega,by omega⟩]
 have t0:0<=(x / 4294967296*(y % 4294967296)+x % 4294967296*(y % 4294967296) / 4294967296) % 4294967296/\(x / 4294967296*(y % 4294967296)+x % 4294967296*(y % 4294967296) / 4294967296) % 4294967296<4294967296:=by omega
 rw [hw ((x / 4294967296*(y % 4294967296)+x % 4294967296*(y % 4294967296) / 4294967296) % 4294967296) (by omega) (by omega)]
 rw [hw ((x / 4294967296*(y % 4294967296)+x % 4294967296*(y % 4294967296) / 4294967296) % 4294967296+x % 4294967296*(y / 4294967296)) (by omega) (by omega)]
 rw [hw (x / 4294967296*(y / 4294967296)+(x / 4294967296*(y % 4294967296)+x % 4294967296*(y % 4294967296) / 4294967296) / 4294967296) (by omega) (by omega)]
 rw [hw _ (by omega) (by omega),h1,Z3w]
theorem Z6v {n:Int} (m:Bool) (h:Z4g n):Z1E n m=fitS (if m then -n else n):=by
 unfold Z4g at h
 unfold Z1E fitS w64
 rw [pickB,pickB,Z3w,Z1z,Z1z]
 cases m<;>simp only [Bool.true_and,Yx,Y0Z,Y0f,decide_eq_true_eq,YF,if_false,if_true]
 ·split
  ·rw [if_pos (by omega)];simp only [Y5,and_true];omega
  ·rw [if_neg (by omega)]
 ·split
  ·rw [if_pos (by omega)];simp only [Y5,and_true];omega
  ·rw [if_neg (by omega)]
theorem safe_Mul_eq {a b:Int} (ha:In64 a) (hb:In64 b):Z1u a b=fitS (a*b):=by
 unfold Z1u
 rw [Z5Y ha,Z5Y hb,mul64_eq (inU_abs ha) (inU_abs hb),pickB]
 simp only [natAbs_prod]
 rw [Z6v _ (by unfold Z4g;omega)]
 by_cases h:((a*b).natAbs:Int) / 18446744073709551616=0
 ·rw [if_neg (by simp [h])]
  have e:((a*b).natAbs:Int) % 18446744073709551616=(a*b).natAbs:=by omega
  rw [e];show fitS _=_;refine congrArg fitS ?_
  by_cases h1:a<0<;>by_cases h2:b<0<;>simp only [h1,h2,decide_true,decide_false]
  ·have:=Int.mul_nonneg_of_nonpos_of_nonpos (Y0h h1) (Y0h h2)
   simp;omega
  ·have:=Int.mul_nonpos_of_nonpos_of_nonneg (Y0h h1) (Int.not_lt.1 h2)
   simp;omega
  ·have:=Int.mul_nonpos_of_nonneg_of_nonpos (Int.not_lt.1 h1) (Y0h h2)
   simp;omega
  ·have:=Int.mul_nonneg (Int.not_lt.1 h1) (Int.not_lt.1 h2)
   simp;omega
 ·rw [if_pos (by simp [h])]
  unfold fitS;rw [if_neg];omega
def Z50 (a b:Int):Int×Int×Int:=if b=0 then (0,0,11) else if b = -1/\a = -9223372036854775808 then (0,0,10) else (a.fdiv b,a.fmod b,0)
theorem floor_up {a b:Int} (hb:b≠0) (h1:a.tmod b≠0) (h2:¬(a.tmod b<0↔b<0)):a.fdiv b=a.tdiv b-1/\a.fmod b=a.tmod b+b:=by
 have q1:=Y06 a hb
 have q2:=Int.emod_lt a hb
 have hd:b∣a↔a % b=0:=Int.dvd_iff_emod_eq_zero
 rw [Int.fdiv_eq_ediv,Int.fmod_eq_emod,Int.tdiv_eq_ediv]
 rw [Int.tmod_eq_emod] at h1 h2 ⊢
 simp only [hd] at h1 h2 ⊢
 rcases Int.lt_or_gt_of_ne hb with h|h
 ·rw [Int.sign_eq_neg_one_of_neg h]
  split at h1<;>split<;>simp_all<;>omega
 ·rw [Int.sign_eq_one_of_pos h]
  split at h1<;>split<;>simp_all<;>omega
theorem floor_same {a b:Int} (hb:b≠0) (h:a.tmod b=0\/(a.tmod b<0↔b<0)):a.fdiv b=a.tdiv b/\a.fmod b=a.tmod b:=by
 have q1:=Y06 a hb
 have q2:=Int.emod_lt a hb
 have hd:b∣a↔a % b=0:=Int.dvd_iff_emod_eq_zero
 rw [Int.fdiv_eq_ediv,Int.fmod_eq_emod,Int.tdiv_eq_ediv]
 rw [Int.tmod_eq_emod] at h ⊢
 simp only [hd] at h ⊢
 rcases Int.lt_or_gt_of_ne hb with hh|hh
 ·rw [Int.sign_eq_neg_one_of_neg hh]
  split at h<;>split<;>simp_all<;>omega
 ·rw [Int.sign_eq_one_of_pos hh]
  split at h<;>split<;>simp_all<;>omega
theorem tdiv_in {a b:Int} (ha:In64 a) (hb:b≠0) (hn:¬(b = -1/\a = -9223372036854775808)):In64 (a.tdiv b):=by
 have h:(a.tdiv b).natAbs=a.natAbs / b.natAbs:=Int.natAbs_tdiv a b
 obtain ⟨h1,h2⟩:=ha
 by_cases hb1:b=1
 ·subst hb1;rw [Int.tdiv_one];exact ⟨h1,h2⟩
 ·by_cases hb2:b = -1
  ·have ha':a ≠ -9223372036854775808:=λe=>hn ⟨hb2,e⟩;have:a.natAbs / b.natAbs<=a.natAbs:=Nat.div_le_self _ _;unfold In64;omega
  ·have h3:a.natAbs / b.natAbs<=a.natAbs / 2:=Nat.div_le_div_left (by omega) (by omega)
   unfold In64;omega
theorem tdiv_in1 {a b:Int} (ha:In64 a) (hb:b≠0) (h1:a.tmod b≠0):In64 (a.tdiv b-1):=by
 have h:(a.tdiv b).natAbs=a.natAbs / b.natAbs:=Int.natAbs_tdiv a b
 obtain ⟨h2,h3⟩:=ha
 by_cases hb1:b=1
 ·subst hb1;simp at h1
 ·by_cases hb2:b = -1
  ·subst hb2;simp at h1
  ·have h3:a.natAbs / b.natAbs<=a.natAbs / 2:=Nat.div_le_div_left (by omega) (by omega)
   unfold In64;omega
theorem wrap_in {a:Int} (h:In64 a):IntKind.i64.wrap a=a:=by rw [Z1z];unfold In64 at h;omega
theorem fmod_in {a b:Int} (hb:In64 b) (hb0:b≠0):In64 (a.fmod b):=by
 have q1:=Y06 a hb0
 have q2:=Int.emod_lt a hb0
 rw [Int.fmod_eq_emod]
 unfold In64 at *
 split<;>omega
theorem floor_leaf1 {a b:Int} (ha:In64 a) (hb:In64 b) (h0:b≠0) (hn:¬(b = -1/\a = -9223372036854775808)) (h1:a.tmod b≠0) (h2:¬(a.tmod b<0↔b<0)) :
  (IntKind.i64.wrap (IntKind.i64.wrap (a.tdiv b)-1),IntKind.i64.wrap (a.tmod b+b),(0:Int))=Z50 a b:=by
 obtain ⟨e1,e2⟩:=floor_up h0 h1 h2
 rw [Z50,if_neg h0,if_neg hn,e1,e2,wrap_in (tdiv_in ha h0 hn),wrap_in (tdiv_in1 ha h0 h1),wrap_in (by rw [<- e2];exact fmod_in hb h0)]
theorem floor_leaf2 {a b:Int} (ha:In64 a) (hb:In64 b) (h0:b≠0) (hn:¬(b = -1/\a = -9223372036854775808)) (h:a.tmod b=0\/(a.tmod b<0↔b<0)) :
  (IntKind.i64.wrap (a.tdiv b),a.tmod b,(0:Int))=Z50 a b:=by
 obtain ⟨e1,e2⟩:=floor_same h0 h
 rw [Z50,if_neg h0,if_neg hn,e1,e2,wrap_in (tdiv_in ha h0 hn)]
theorem safe_Floor_eq {a b:Int} (ha:In64 a) (hb:In64 b):Z2J a b=some (Z50 a b):=by
 unfold Z2J
 by_cases h0:b=0
 ·subst h0;rfl
 rw [beq_f h0,cond_false]
 by_cases hn:b = -1/\a = -9223372036854775808
 ·obtain ⟨rfl,rfl⟩:=hn
  rfl
 have:(b == -1&&a == -9223372036854775808)=false:=by
  simp only [Bool.and_eq_false_iff,beq_eq_false_iff_ne]
  by_cases h:b = -1
  ·exact .inr λe=>hn ⟨h,e⟩
  ·exact .inl h
 rw [this,cond_false,nz?_ok h0]
 simp only [Y3,pickB,YD,bne_iff_ne,ne_eq,decide_eq_decide]
 split
 ·rename_i h;simp only [Y3];exact congrArg some (floor_leaf1 ha hb h0 hn h.1 h.2)
 ·rename_i h;simp only [Y3];refine congrArg some (floor_leaf2 ha hb h0 hn ?_)
  by_cases h1:a.tmod b=0
  ·exact .inl h1
  ·exact .inr (Classical.byContradiction λh2=>h ⟨h1,h2⟩)
theorem Z41 {a b:Int} (hb:0<b):a.fdiv b=a / b/\a.fmod b=a % b:=⟨Y0V a (Y0h hb),Int.fmod_eq_emod_of_nonneg a (Y0h hb)⟩
theorem floorS_pos {a b:Int} (hb:0<b):Z50 a b=(a / b,a % b,0):=by
 unfold Z50
 rw [if_neg (by omega),if_neg (by omega),(Z41 hb).1,(Z41 hb).2]
end Go.Dn

namespace Go.Dn
open Go
theorem Z1x:reachBytes=140737488351232:=rfl
def ZA (t:Int):Prop:=-1099511627776<=t/\t<=1099511627776
instance (t:Int):Decidable (ZA t):=by unfold ZA;infer_instance
theorem Z2t (t:Int):Zw t=decide (ZA t):=by
 rw [Bool.eq_iff_iff,decide_eq_true_iff];simp [Zw,ZA]
theorem Z3i (t:Int):Z0Q t=decide (ZA t):=by
 rw [Bool.eq_iff_iff,decide_eq_true_iff];simp [Z0Q,ZA]
theorem Z2Q {t:Int} (h:ZA t):In64 t:=by unfold ZA at h;unfold In64;omega
structure RightL (l:List Span):Prop where
 ok:∀ (k:Nat) (s:Span),l[k]? = some s->ZA s.From/\ZA s.To/\s.From<=s.To
 gap:∀ (k:Nat) (s t:Span),l[k]? = some s->l[k+1]? = some t->s.To+2<=t.From
abbrev Len (l:List Span):Prop:=l.length*16<=reachBytes
abbrev Sp64 (l:List Span):Prop:=∀ s∈l,In64 s.From/\In64 s.To
theorem Span.ok64 {s:Span} (h:s.ok):In64 s.From/\In64 s.To:=h
theorem okSpans {l:List Span} (h:okL 16 Span.ok l):Len l/\Sp64 l:=⟨h.1,λs hs=>Span.ok64 (h.2 s hs)⟩
theorem RightL.sp64 {l:List Span} (h:RightL l):Sp64 l:=λs hs=>by
 obtain ⟨k,hk⟩:=YK hs
 have:=h.ok k s hk
 exact ⟨Z2Q this.1,Z2Q this.2.1⟩
def Z2P (l:List Span) (k:Nat) (s:Span):Prop:=ZA s.From/\ZA s.To/\s.From<=s.To/\∀ p,k≠0->l[k-1]? = some p->p.To+2<=s.From
theorem Z7A {l:List Span}:RightL l ↔ ∀ k s,l[k]? = some s->Z2P l k s:=by
 constructor
 ·intro h k s hk;obtain ⟨h1,h2,h3⟩:=h.ok k s hk;refine ⟨h1,h2,h3,λp h0 hp=>?_⟩;have:k-1+1=k:=by omega
  exact h.gap (k-1) p s hp (by rw [this];exact hk)
 ·intro h;refine ⟨λk s hk=>⟨(h k s hk).1,(h k s hk).2.1,(h k s hk).2.2.1⟩,λk s t hs ht=>(h (k+1) t ht).2.2.2 s (by omega) (by simpa using hs)⟩
theorem Z3u {l:List Span} (hl:Len l) (h64:Sp64 l):∃ b,Z00 l=some b/\(b=true↔RightL l):=by
 have hlen:l.length<=maxLen:=by rw [Z5t];have:=Z1x;unfold Len at hl;omega
 have step:∀ (k:Nat) (s:Span),l[k]? = some s->(∀ j y,j<k->l[j]? = some y->Z2P l j y)->∃ b,Z00.s0 l (k:Int)=(if b=true then some (.inl ((k:Int)+1)) else some (.inr (.ret false)))/\(b=true↔Z2P l k s):=by
  intro k s hk hprev;have hlt:=(List.getElem?_eq_some_iff.1 hk).1;have hat:at? l (k:Int)=some s:=by rw [at?_nat hlt];rw [Y9 hlt] at hk;exact hk
  unfold Z00.s0;rw [ZW (show (k:Int)<l.length by omega),cond_true,hat]
  simp only [Y3,Z2t];have hk1:w64 ((k:Int)+1)=k+1:=ZB (by rw [Z5t] at hlen;omega)
  by_cases h1:ZA s.From/\ZA s.To/\s.From<=s.To
  ·have:(!decide (ZA s.From) || !decide (ZA s.To)||decide (s.From>s.To))=false:=by
    rw [ZW h1.1,ZW h1.2.1,Zc (by omega)];rfl
   rw [this,cond_false]
   by_cases h0:k=0
   ·subst h0;refine ⟨true,by simp [w64];rw [Z1z];rfl,by simp [Z2P,h1]⟩
   ·have hk0:(k:Int)>0:=by omega
    have hpl:k-1<l.length:=by omega
    have hp:at? l (w64 ((k:Int)-1))=some l[k-1]:=by
     rw [ZB (by rw [Z5t] at hlen;omega),show ((k:Int)-1)=((k-1:Nat):Int) by omega,at?_nat hpl]
    have hpg:=hprev (k-1) _ (by omega) (Y9 hpl)
    have hpt:w64 (l[k-1].To+2)=l[k-1].To+2:=by
     have:=hpg.2.1;unfold ZA at this;exact ZB (by omega)
    rw [ZW hk0,cond_true,hp];simp only [Y3,hpt];refine ⟨!decide (s.From<l[k-1].To+2),?_,?_⟩
    ·cases hd:decide (s.From<l[k-1].To+2)<;>simp [hk1]
    ·simp only [YU,decide_eq_false_iff_not,Z2P]
     constructor
     ·intro h;refine ⟨h1.1,h1.2.1,h1.2.2,λp _ hp'=>?_⟩;rw [Y9 hpl] at hp';cases hp';omega
     ·intro h;have:=h.2.2.2 _ h0 (Y9 hpl);omega
  ·refine ⟨false,?_,by simp only [YF,Z2P,false_iff];intro h;exact h1 ⟨h.1,h.2.1,h.2.2.1⟩⟩
   have:(!decide (ZA s.From) || !decide (ZA s.To)||decide (s.From>s.To))=true:=by
    by_cases a1:ZA s.From
    ·by_cases a2:ZA s.To
     ·have a3:s.From>s.To:=by
       apply Classical.byContradiction;intro h;exact h1 ⟨a1,a2,by omega⟩
      rw [ZW a3];simp
     ·rw [Zc a2];simp
    ·rw [Zc a1];simp
   rw [this];rfl
 unfold Z00
 rcases Z4H (l:=l) (step:=Z00.s0 l) (Z2P l) (no:=.ret false) (yes:=.go ()) (λk x hk hp=>by
   obtain ⟨b,h1,h2⟩:=step k x hk hp;cases b
   ·exact .inr ⟨h1,λh=>by have:=h2.2 h;cases this⟩
   ·exact .inl ⟨h1,h2.1 rfl⟩) (by
   unfold Z00.s0;rw [Zc (by omega)];rfl) with ⟨h1,h2⟩|⟨h1,h2⟩
 ·rw [h1];exact ⟨true,rfl,by simp [Z7A.2 h2]⟩
 ·rw [h1];exact ⟨false,rfl,by simp only [YF,false_iff];exact λh=>h2 (Z7A.1 h)⟩
def Z17 (by_:Int) (s:Span):Span:=⟨s.From+by_,s.To+by_⟩
theorem Z4b {l:List Span} {b:Int} (hl:Len l) (h64:Sp64 l) (hb:In64 b) :
  ((∀ s∈l,ZA (s.From+b)/\ZA (s.To+b))/\Zz l b=some (l.map (Z17 b),0))\/((¬ ∀ s∈l,ZA (s.From+b)/\ZA (s.To+b))/\Zz l b=some ([],20)):=by
 have hlen:(l.length:Int)<9223372036854775807:=by have:=Z1x;unfold Len at hl;omega
 have step:∀ (k:Nat) (s:Span) (acc:List Span),l[k]? = some s->acc.length=k->Zz.s0 l b ((k:Int),acc)=if ZA (s.From+b)/\ZA (s.To+b) then some (.inl ((k:Int)+1,acc++[Z17 b s])) else some (.inr (.ret ([],20))):=by
  intro k s acc hk hacc;have hlt:=(List.getElem?_eq_some_iff.1 hk).1;have hat:at? l (k:Int)=some s:=by rw [at?_nat hlt];rw [Y9 hlt] at hk;exact hk
  obtain ⟨f64,t64⟩:=h64 s (YC hk);unfold Zz.s0;rw [ZW (show (k:Int)<l.length by omega),cond_true,hat]
  simp only [Y3];rw [Z6M f64 hb,Z6M t64 hb,Z2t,Z2t];have hk1:w64 ((k:Int)+1)=k+1:=ZB (by omega)
  have happ:∀ x:Span,app? 16 acc [x]=some (acc++[x]):=λx=>app?_ok (by
   have:=Z1x;have:=Z5I;unfold Len at hl;simp;omega)
  rcases fit_or (s.From+b) with ⟨q1,q2⟩|⟨q1,q2⟩<;>rcases fit_or (s.To+b) with ⟨q3,q4⟩|⟨q3,q4⟩<;>rw [q2,q4]
  ·by_cases h:ZA (s.From+b)/\ZA (s.To+b)
   ·rw [if_pos h,ZW h.1,ZW h.2];simp [happ,hk1,Z17]
   ·rw [if_neg h];have:(!decide (ZA (s.From+b)) || !decide (ZA (s.To+b)))=true:=by
     by_cases h1:ZA (s.From+b)
     ·rw [Zc (λh2=>h ⟨h1,h2⟩)];simp
     ·rw [Zc h1];simp
    simp only [bne_self_eq_false,Bool.false_or,Bool.or_assoc] at this ⊢;rw [this];rfl
  ·rw [if_neg (λh=>q3 (Z2Q h.2))];rfl
  ·rw [if_neg (λh=>q1 (Z2Q h.1))];rfl
  ·rw [if_neg (λh=>q1 (Z2Q h.1))];rfl
 have hend:∀ acc,Zz.s0 l b ((l.length:Int),acc)=some (.inr (.go acc)):=λacc=>by unfold Zz.s0;rw [Zc (by omega)];rfl
 unfold Zz
 by_cases hall:∀ s∈l,ZA (s.From+b)/\ZA (s.To+b)
 ·refine .inl ⟨hall,?_⟩;have:loopO (Zz.s0 l b) (0,[])=some (.go (l.map (Z17 b))):=by
   refine Z0f (I:=λ(s:Int×List Span) r=>r = .go (l.map (Z17 b))/\∃ k:Nat,k<=l.length/\s=((k:Int),(l.take k).map (Z17 b))) (λs=>l.length-s.1.toNat) ?_ ⟨rfl,0,Yo _,by simp⟩
   rintro s r ⟨rfl,k,hk,rfl⟩
   by_cases hlt:k<l.length
   ·refine .inl ⟨_,by rw [step k l[k] _ (Y9 hlt) (by simp;omega),if_pos (hall _ (Y0I hlt))],⟨rfl,k+1,hlt,?_⟩,by simp;omega⟩
    rw [Y0F hlt,Y05];push_cast;rfl
   ·have:k=l.length:=by omega
    subst this;rw [List.take_length];exact .inr (hend _)
  rw [this];rfl
 ·refine .inr ⟨hall,?_⟩;obtain ⟨k0,s0,hk0,hb0,hg⟩:=Z4M (l:=l) (good:=λ_ s=>ZA (s.From+b)/\ZA (s.To+b)) (λh=>hall λs hs=>by
   obtain ⟨k,hk⟩:=YK hs;exact h k s hk)
  have hlt0:=(List.getElem?_eq_some_iff.1 hk0).1;have:loopO (Zz.s0 l b) (0,[])=some (.ret ([],20)):=by
   refine Z0f (I:=λ(s:Int×List Span) r=>r = .ret ([],20)/\∃ k:Nat,k<=k0/\s.1=(k:Int)/\s.2.length=k) (λs=>l.length-s.1.toNat) ?_ ⟨rfl,0,Yo _,rfl,rfl⟩;rintro ⟨i,acc⟩ r ⟨rfl,k,hk,h1,h2⟩;simp only at h1 h2;subst h1
   by_cases hlt:k<k0
   ·have hkl:k<l.length:=by omega
    exact .inl ⟨_,by rw [step k l[k] _ (Y9 hkl) h2,if_pos (hg k _ hlt (Y9 hkl))],⟨rfl,k+1,hlt,by push_cast;rfl,by simp;omega⟩,by simp;omega⟩
   ·have:k=k0:=by omega
    subst this;exact .inr (by rw [step k s0 _ hk0 h2,if_neg hb0])
  rw [this];rfl
theorem RightL.shift {l:List Span} {b:Int} (h:RightL l) (ht:∀ s∈l,ZA (s.From+b)/\ZA (s.To+b)):RightL (l.map (Z17 b)):=by
 constructor
 ·intro k s hk;rw [YQ,Y4] at hk;obtain ⟨s,hk,rfl⟩:=hk;have h1:=h.ok k s hk;have h2:=ht s (YC hk);exact ⟨h2.1,h2.2,by simp only [Z17];omega⟩
 ·intro k s t hk hk1;rw [YQ,Y4] at hk hk1;obtain ⟨s,hk,rfl⟩:=hk;obtain ⟨t,hk1,rfl⟩:=hk1;have:=h.gap k s t hk hk1;simp only [Z17];omega
def Z1l (a b:List Span):Prop:=∀ x,a.getLast? = some x->∀ y,b.head? = some y->x.To<y.From
theorem Z2R {a b:List Span} (ha:Len a):∃ r,Z0J a b=some r/\(r=true↔Z1l a b):=by
 unfold Z0J
 cases a with
 | nil=>exact ⟨true,by simp,by simp [Z1l]⟩
 | cons x a=>
  cases b with
  | nil=>exact ⟨true,by simp,by simp [Z1l]⟩
  | cons y b=>
   have hl:((x::a).length:Int)<9223372036854775807:=by have:=Z1x;unfold Len at ha;omega
   have e1:(((x::a).length:Int)==0||((y::b).length:Int)==0)=false:=by simp;omega
   have hlt:(x::a).length-1<(x::a).length:=by simp
   have e2:at? (x::a) (w64 (((x::a).length:Int)-1))=some (x::a)[(x::a).length-1]:=by
    rw [ZB (by simp at hl ⊢;omega),show (((x::a).length:Int)-1)=(((x::a).length-1:Nat):Int) by simp,at?_nat hlt]
   have e3:at? (y::b) 0=some y:=rfl;rw [e1,cond_false,e2,e3];refine ⟨decide ((x::a)[(x::a).length-1].To<y.From),rfl,?_⟩;have hlast:(x::a).getLast? = some (x::a)[(x::a).length-1]:=by rw [Yy,Y9 hlt]
   simp only [decide_eq_true_eq,Z1l,hlast,List.head?_cons,YA];exact ⟨λh x' hx y' hy=>by rw [<- hx,<- hy];exact h,λh=>h _ rfl _ rfl⟩
end Go.Dn

namespace Go.Dn
open Go
theorem Z6o (x y:Int):Z0k x y=if x<y then -1 else if y<x then 1 else 0:=by
 unfold Z0k Z0l
 simp only [bne_self_eq_false,cond_false,pickB,decide_eq_true_eq,gt_iff_lt,YF,if_false]
def Inc (l:List Granule):Prop:=∀ (j k:Nat) (a b:Granule),j<k->l[j]? = some a->l[k]? = some b->a.Index<b.Index
theorem bsearch_eq {l:List Granule} {t:Int} (hl:l.length*32<=reachBytes) (hs:Inc l):∃ p:Nat,p<=l.length/\(∀ (k:Nat) (g:Granule),l[k]? = some g->(k<p↔g.Index<t)) /\
  Z2 l t (λz0 z1=>some (Z1p z0 z1))=some ((p:Int),decide (∃ g,l[p]? = some g/\g.Index=t)):=by
 have hlen:(l.length:Int)<4398046511104*4:=by have:=Z1x;omega
 have hcmp:∀ g i,Z1p g i=if g.Index<i then -1 else if i<g.Index then 1 else 0:=λg i=>Z6o _ _
 obtain ⟨r,h1,p,rfl,hp,hlow,hhigh⟩:=Z1c (step:=Z2.s0 l t (λz0 z1=>some (Z1p z0 z1)))
  (I:=λs=>∃ i j:Nat,s=((i:Int),(j:Int))/\i<=j/\j<=l.length/\(∀ k g,l[k]? = some g->k<i->g.Index<t)/\(∀ k g,l[k]? = some g->j<=k->t<=g.Index))
  (λs=>(s.2-s.1).toNat)
  (λr=>∃ p:Nat,r=(p:Int)/\p<=l.length/\(∀ k g,l[k]? = some g->k<p->g.Index<t)/\(∀ k g,l[k]? = some g->p<=k->t<=g.Index)) (by
  rintro s ⟨i,j,rfl,hij,hj,hlow,hhigh⟩;unfold Z2.s0
  by_cases hlt:i<j
  ·have hm:w64 ((IntKind.u64.wrap (w64 ((i:Int)+j))).fdiv (2 ^ 1))=((i+j) / 2:Nat):=by
    rw [ZB (x:=(i:Int)+j) (by omega),Z3w,Y0V _ (by decide),ZB (by omega)]
    omega
   have hml:(i+j) / 2<l.length:=by omega
   simp only [hm];rw [ZW (show (i:Int)<j by omega),cond_true,at?_nat hml]
   simp only [Y3,hcmp];refine .inl ?_;have hget:=Y9 hml
   by_cases hc:l[(i+j) / 2].Index<t
   ·rw [if_pos hc];refine ⟨((((i+j) / 2+1:Nat):Int),(j:Int)),?_,⟨(i+j) / 2+1,j,rfl,by omega,hj,λk g hk hki=>?_,hhigh⟩,by simp;omega⟩
    ·rw [ZB (by omega)];simp
    ·rcases YJ k ((i+j) / 2) with h|h
     ·have:=hs k _ g _ h hk hget;omega
     ·have:k=(i+j) / 2:=by omega
      subst this;rw [hget] at hk;cases hk;exact hc
   ·rw [if_neg hc];refine ⟨((i:Int),(((i+j) / 2:Nat):Int)),?_,⟨i,(i+j) / 2,rfl,by omega,by omega,hlow,λk g hk hki=>?_⟩,by simp;omega⟩
    ·split<;>simp
    ·rcases YJ ((i+j) / 2) k with h|h
     ·have:=hs _ k _ g h hget hk;omega
     ·have:k=(i+j) / 2:=by omega
      subst this;rw [hget] at hk;cases hk;omega
  ·refine .inr ⟨(i:Int),by rw [Zc (show ¬ (i:Int)<j by omega)];rfl,i,rfl,by omega,hlow,λk g hk hki=>hhigh k g hk (by omega)⟩) (0,(l.length:Int)) ⟨0,l.length,rfl,Yo _,YG _,λk g _ h=>by omega,λk g hk h=>by
    rw [Yq h] at hk;cases hk⟩
 refine ⟨p,hp,λk g hk=>⟨λh=>hlow k g hk h,λh=>?_⟩,?_⟩
 ·rcases YJ k p with h2|h2
  ·exact h2
  ·have:=hhigh k g hk h2;omega
 ·unfold Z2;rw [h1];simp only [Y3]
  by_cases hlt:p<l.length
  ·rw [ZW (show (p:Int)<l.length by omega),cond_true,at?_nat hlt]
   simp only [Y3,hcmp,YA,Y5,true_and];have:=hhigh p _ (Y9 hlt) (YG _);rw [Y9 hlt]
   by_cases he:l[p].Index=t
   ·rw [if_neg (by omega),if_neg (by omega)];simp [he]
   ·rw [if_neg (by omega),if_pos (by omega)];simp [he]
  ·rw [Zc (show ¬ (p:Int)<l.length by omega),cond_false]
   simp only [Y3,YA,Y5,true_and];rw [Yq (by omega)]
   simp
structure Shape (f:Form):Prop where
 count:f.Count=f.Core.length
 zero:f.Count=0↔f.Period=0
 per:0<=f.Period/\f.Period<=1099511627776
 core:∀ l∈f.Core,RightL l
 odd:∀ g∈f.Odd,RightL g.Ticks/\ZA g.Index
 inc:Inc f.Odd
structure Lim (f:Form):Prop where
 core:f.Core.length*24<=reachBytes
 sets:∀ l∈f.Core,Len l/\Sp64 l
 odd:f.Odd.length*32<=reachBytes
 ticks:∀ g∈f.Odd,In64 g.Index/\Len g.Ticks/\Sp64 g.Ticks
 count:In64 f.Count
 period:In64 f.Period
theorem Form.lim {f:Form} (h:f.ok):Lim f:=by
 obtain ⟨h1,h2,h3,h4⟩:=h
 exact ⟨h3.1,λl hl=>okSpans (h3.2 l hl),h4.1,λg hg=>⟨(h4.2 g hg).1,okSpans (h4.2 g hg).2⟩,h2,h1⟩
theorem Z2e {f:Form} (hl:Lim f) (hs:Inc f.Odd) (i:Int):∃ p:Nat,p<=f.Odd.length/\(∀ (k:Nat) (g:Granule),f.Odd[k]? = some g->(k<p↔g.Index<i))/\Z33 f i=some ((p:Int),decide (∃ g,f.Odd[p]? = some g/\g.Index=i)):=by
 obtain ⟨p,h1,h2,h3⟩:=bsearch_eq (t:=i) hl.odd hs
 exact ⟨p,h1,h2,by unfold Z33;rw [h3];rfl⟩
def Z29 (f:Form) (i:Int):Prop:=∃ g∈f.Odd,g.Index=i
def Z25 (f:Form) (i:Int):List Span:=f.Core.getD (i % f.Count).toNat []
def Z4k (f:Form) (i:Int):Int:=i / f.Count*f.Period
open Classical in
noncomputable def Zi (f:Form) (i:Int):List Span:=if h:Z29 f i then h.choose.Ticks else if f.Count=0 then [] else (Z25 f i).map (Z17 (Z4k f i))
theorem Inc.uniq {l:List Granule} (h:Inc l) {a b:Granule} (ha:a∈l) (hb:b∈l) (he:a.Index=b.Index):a=b:=by
 obtain ⟨j,hj⟩:=YK ha
 obtain ⟨k,hk⟩:=YK hb
 rcases Nat.lt_trichotomy j k with hjk|rfl|hjk
 ·have:=h j k a b hjk hj hk;omega
 ·rw [hj] at hk;cases hk;rfl
 ·have:=h k j b a hjk hk hj;omega
theorem Z13 {f:Form} (hs:Inc f.Odd) {g:Granule} (hg:g∈f.Odd):Zi f g.Index=g.Ticks:=by
 have h:Z29 f g.Index:=⟨g,hg,rfl⟩
 unfold Zi
 rw [dif_pos h]
 rw [hs.uniq h.choose_spec.1 hg h.choose_spec.2]
theorem Z2K {f:Form} {i:Int} (h:¬ Z29 f i) (h0:f.Count=0):Zi f i=[]:=by unfold Zi;rw [dif_neg h,if_pos h0]
theorem Z2N {f:Form} {i:Int} (h:¬ Z29 f i) (h0:f.Count≠0):Zi f i=(Z25 f i).map (Z17 (Z4k f i)):=by unfold Zi;rw [dif_neg h,if_neg h0]
theorem core_pos {f:Form} (hs:Shape f) (h0:f.Count≠0):0<f.Count:=by have:=hs.count;omega
theorem Z3R {f:Form} (hs:Shape f) (h0:f.Count≠0) (i:Int):at? f.Core (i % f.Count)=some (Z25 f i)/\Z25 f i∈f.Core:=by
 have hp:=core_pos hs h0
 have h1:=Y06 i h0
 have h2:=Y0d i hp
 have h3:(i % f.Count).toNat<f.Core.length:=by have:=hs.count;omega
 unfold Z25
 rw [at?_lt h1 (by have:=hs.count;omega),Yw,Y9 h3]
 exact ⟨rfl,Y0I h3⟩
theorem Z4X {f:Form} (hl:Lim f) (hs:Shape f) {g:Granule} (hg:g∈f.Odd):Z1K f g.Index=some (g.Ticks,0,0):=by
 obtain ⟨p,h1,h2,h3⟩:=Z2e hl hs.inc g.Index
 obtain ⟨k,hk⟩:=YK hg
 have hkl:=(List.getElem?_eq_some_iff.1 hk).1
 have hpk:p<=k:=by
  rcases YJ k p with h|h
  ·have:=(h2 k g hk).1 h;omega
  ·exact h
 have hpl:p<f.Odd.length:=by omega
 have hpg:=h2 p _ (Y9 hpl)
 have:p=k:=by
  rcases YJ p k with h|h
  ·have:=hs.inc p k _ g h (Y9 hpl) hk;exact absurd (hpg.2 this) (Nat.lt_irrefl _)
  ·omega
 subst this
 unfold Z1K
 rw [h3]
 simp only [Y3]
 rw [ZW ⟨g,hk,rfl⟩,cond_true,at?_nat hpl]
 rw [Y9 hpl] at hk
 cases hk;rfl
theorem Z4K {f:Form} (hl:Lim f) (hs:Shape f) {i:Int} (hi:In64 i) (ho:¬ Z29 f i):Z1K f i=if f.Count=0 then some ([],0,0) else some (Z25 f i,(fitS (Z4k f i)).1,(fitS (Z4k f i)).2):=by
 obtain ⟨p,h1,h2,h3⟩:=Z2e hl hs.inc i
 unfold Z1K
 rw [h3]
 simp only [Y3]
 rw [Zc (by rintro ⟨g,hg,he⟩;exact ho ⟨g,YC hg,he⟩),cond_false]
 by_cases h0:f.Count=0
 ·rw [beq_t h0,cond_true,if_pos h0]
 ·rw [beq_f h0,cond_false,if_neg h0,safe_Floor_eq hi hl.count,floorS_pos (core_pos hs h0)];simp only [Y3];rw [(Z3R hs h0 i).1];simp only [Y3];have hq:In64 (i / f.Count):=by
   have hp:=core_pos hs h0;unfold In64 at hi ⊢
   constructor
   ·have : -9223372036854775808<=i / f.Count:=by
     rw [Int.le_ediv_iff_mul_le hp];have:(-9223372036854775808)*f.Count<=-9223372036854775808:=by
      have:(-9223372036854775808)*f.Count<=(-9223372036854775808)*1:=Int.mul_le_mul_of_nonpos_left (by omega) (by omega)
      omega
     omega
    exact this
   ·have:i / f.Count<=9223372036854775807:=by
     rcases Int.lt_or_le i 0 with h|h
     ·have:i / f.Count<0:=Int.ediv_neg_of_neg_of_pos h hp;omega
     ·have:=Int.ediv_le_self f.Count h;omega
    exact this
  rw [safe_Mul_eq hq hl.period]
  rfl
def fits (f:Form) (i:Int):Prop:=∀ s∈Zi f i,ZA s.From/\ZA s.To
theorem shift0 (l:List Span):l.map (Z17 0)=l:=by
 have:Z17 0=id:=by funext s;simp [Z17]
 rw [this,List.map_id]
theorem Z1S {f:Form} {i:Int} (ho:¬ Z29 f i) (h0:f.Count≠0):Zi f i=[]↔Z25 f i=[]:=by rw [Z2N ho h0,List.map_eq_nil_iff]
open Classical in
theorem Z4B {f:Form} (hl:Lim f) (hs:Shape f) {i:Int} (hi:In64 i):Z0T f i=some (if ZA i/\fits f i then (Zi f i,0) else ([],20)):=by
 unfold Z0T
 rw [Z3i]
 by_cases ht:ZA i
 ·rw [ZW ht,Y0Z,cond_false]
  by_cases ho:Z29 f i
  ·obtain ⟨g,hg,rfl⟩:=ho;have hset:=Z13 hs.inc hg;have hr:=(hs.odd g hg).1;have hf:fits f g.Index:=by
    intro s hsm;rw [hset] at hsm;obtain ⟨k,hk⟩:=YK hsm;exact ⟨(hr.ok k s hk).1,(hr.ok k s hk).2.1⟩
   rw [Z4X hl hs hg,if_pos ⟨ht,hf⟩,hset];simp only [Y3]
   by_cases hn:g.Ticks=[]
   ·rw [hn];rfl
   ·have:((g.Ticks.length:Int)==0)=false:=beq_f (by have:=List.length_pos_iff.2 hn;omega)
    rw [this,cond_false];simp only [bne_self_eq_false,cond_false];rcases Z4b (b:=0) (hl.ticks g hg).2.1 hr.sp64 ⟨by decide,by decide⟩ with ⟨_,h2⟩|⟨h1,_⟩
    ·rw [h2,shift0];rfl
    ·refine absurd (λs hsm=>?_) h1;rw [<- hset] at hsm
     simpa using hf s hsm
  ·rw [Z4K hl hs hi ho]
   by_cases h0:f.Count=0
   ·rw [if_pos h0,if_pos ⟨ht,by intro s hsm;rw [Z2K ho h0] at hsm;cases hsm⟩,Z2K ho h0];rfl
   ·rw [if_neg h0];simp only [Y3]
    by_cases hn:Z25 f i=[]
    ·rw [if_pos ⟨ht,by intro s hsm;rw [(Z1S ho h0).2 hn] at hsm;cases hsm⟩,(Z1S ho h0).2 hn,hn];rfl
    ·have:(((Z25 f i).length:Int)==0)=false:=beq_f (by have:=List.length_pos_iff.2 hn;omega)
     rw [this,cond_false];have hmem:=(Z3R hs h0 i).2;have hr:=hs.core _ hmem;have hfe:fits f i ↔ ∀ s∈Z25 f i,ZA (s.From+Z4k f i)/\ZA (s.To+Z4k f i):=by
      unfold fits;rw [Z2N ho h0]
      constructor
      ·intro h s hsm;exact h (Z17 (Z4k f i) s) (List.mem_map.2 ⟨s,hsm,rfl⟩)
      ·intro h s hsm;obtain ⟨s,hsm',rfl⟩:=List.mem_map.1 hsm;exact h s hsm'
     rcases fit_or (Z4k f i) with ⟨q1,q2⟩|⟨q1,q2⟩<;>rw [q2]
     ·simp only [bne_self_eq_false,cond_false];rcases Z4b (b:=Z4k f i) (hl.sets _ hmem).1 hr.sp64 q1 with ⟨h1,h2⟩|⟨h1,h2⟩
      ·rw [h2,if_pos ⟨ht,hfe.2 h1⟩,Z2N ho h0];rfl
      ·rw [h2,if_neg (λh=>h1 (hfe.1 h.2))];rfl
     ·rw [if_neg]
      ·rfl
      ·rintro ⟨_,h⟩;have h:=hfe.1 h;obtain ⟨s,hsm⟩:=List.exists_mem_of_ne_nil _ hn;have h1:=(h s hsm).1;obtain ⟨k,hk⟩:=YK hsm;have h2:=(hr.ok k s hk).1;unfold ZA at h1 h2;exact q1 (by unfold In64;omega)
 ·rw [Zc ht,if_neg (λh=>ht h.1)];rfl
open Classical in
theorem Z59 {f:Form} (hl:Lim f) (hs:Shape f) {i:Int} (hi:In64 i):Z3B f i=some (decide (Zi f i≠[])):=by
 unfold Z3B
 by_cases ho:Z29 f i
 ·obtain ⟨g,hg,rfl⟩:=ho;rw [Z4X hl hs hg,Z13 hs.inc hg];simp only [Y3];cases g.Ticks<;>simp
 ·rw [Z4K hl hs hi ho]
  by_cases h0:f.Count=0
  ·rw [if_pos h0,Z2K ho h0];rfl
  ·rw [if_neg h0];simp only [Y3,Ne,Z1S ho h0];cases Z25 f i<;>simp
end Go.Dn

namespace Go.Dn
open Go
theorem Z3k {α:Type} {l:List α} {b:Nat} (h:l.length*(b+1)<=reachBytes):(l.length:Int)<4611686018427387904:=by
 have:=Z1x
 have:l.length<=l.length*(b+1):=Nat.le_mul_of_pos_right _ (by omega)
 omega
theorem Z5z {α:Type} {l:List α} {k:Nat} {x:α} (h:l[k]? = some x):at? l (k:Int)=some x/\(k:Int)<l.length:=by
 have hlt:=(List.getElem?_eq_some_iff.1 h).1
 rw [Y9 hlt] at h
 exact ⟨by rw [at?_nat hlt];exact h,by omega⟩
theorem shape_core {f:Form} (hl:Lim f):(loopO (ZX.s0 f) 0=some (.go ())/\∀ l∈f.Core,RightL l)\/(loopO (ZX.s0 f) 0=some (.ret false)/\¬ ∀ l∈f.Core,RightL l):=by
 have hlen:=Z3k (b:=23) hl.core
 rcases Z4H (l:=f.Core) (step:=ZX.s0 f) (λ_ x=>RightL x) (no:=.ret false) (yes:=.go ()) (λk x hk _=>by
   obtain ⟨h1,h2⟩:=Z5z hk;obtain ⟨b,hb,hr⟩:=Z3u (hl.sets x (YC hk)).1 (hl.sets x (YC hk)).2;unfold ZX.s0;rw [ZW h2,cond_true,h1];simp only [Y3,hb,ZB (show -9223372036854775808<=(k:Int)+1/\(k:Int)+1<=9223372036854775807 by omega)]
   cases b
   ·exact .inr ⟨rfl,λh=>by have:=hr.2 h;cases this⟩
   ·exact .inl ⟨rfl,hr.1 rfl⟩) (by unfold ZX.s0;rw [Zc (by omega)];rfl) with ⟨h1,h2⟩|⟨h1,h2⟩
 ·exact .inl ⟨h1,λl hm=>by obtain ⟨k,hk⟩:=YK hm;exact h2 k l hk⟩
 ·exact .inr ⟨h1,λh=>h2 λk x hk=>h x (YC hk)⟩
def goodOdd (f:Form) (k:Nat) (g:Granule):Prop:=RightL g.Ticks/\ZA g.Index/\∀ p,k≠0->f.Odd[k-1]? = some p->p.Index<g.Index
theorem shape_odd {f:Form} (hl:Lim f):(loopO (ZX.s1 f) 0=some (.go ())/\∀ k g,f.Odd[k]? = some g->goodOdd f k g)\/(loopO (ZX.s1 f) 0=some (.ret false)/\¬ ∀ k g,f.Odd[k]? = some g->goodOdd f k g):=by
 have hlen:=Z3k (b:=31) hl.odd
 refine Z4H (l:=f.Odd) (step:=ZX.s1 f) (goodOdd f) (no:=.ret false) (yes:=.go ()) (λk x hk _=>?_) (by unfold ZX.s1;rw [Zc (by omega)];rfl)
 obtain ⟨h1,h2⟩:=Z5z hk
 have hx:=hl.ticks x (YC hk)
 obtain ⟨b,hb,hr⟩:=Z3u hx.2.1 hx.2.2
 unfold ZX.s1
 rw [ZW h2,cond_true,h1]
 simp only [Y3,hb,Z3i,ZB (show -9223372036854775808<=(k:Int)+1/\(k:Int)+1<=9223372036854775807 by omega)]
 by_cases hbt:b=true/\ZA x.Index
 ·rw [hbt.1,ZW hbt.2];simp only [Y0Z,Bool.or_self,cond_false]
  by_cases h0:k=0
  ·subst h0;exact .inl ⟨by simp,hr.1 hbt.1,hbt.2,λp h=>absurd rfl h⟩
  ·have hpl:k-1<f.Odd.length:=by omega
   rw [ZW (show (k:Int)>0 by omega),cond_true,ZB (by omega),show (k:Int)-1=((k-1:Nat):Int) by omega,at?_nat hpl]
   simp only [Y3]
   by_cases hc:x.Index<=f.Odd[k-1].Index
   ·rw [ZW hc];refine .inr ⟨rfl,λh=>?_⟩;have:=h.2.2 _ h0 (Y9 hpl);omega
   ·rw [Zc hc];refine .inl ⟨rfl,hr.1 hbt.1,hbt.2,λp _ hp=>?_⟩;rw [Y9 hpl] at hp;cases hp;omega
 ·have:(!b || !decide (ZA x.Index))=true:=by
   cases b
   ·rfl
   ·rw [Zc (λh=>hbt ⟨rfl,h⟩)];rfl
  rw [this,cond_true];exact .inr ⟨rfl,λh=>hbt ⟨hr.2 h.1,h.2.1⟩⟩
theorem inc_of {f:Form} (h:∀ k g,f.Odd[k]? = some g->goodOdd f k g):Inc f.Odd:=by
 intro j k a b hjk ha hb
 induction k generalizing b with
 | zero=>omega
 | succ k ih=>
  have hkl:=(List.getElem?_eq_some_iff.1 hb).1;have h1:=(h (k+1) b hb).2.2 f.Odd[k] (by omega) (by simp [Y9 (show k<f.Odd.length by omega)])
  rcases YJ j k with h2|h2
  ·have:=ih _ h2 (Y9 (show k<f.Odd.length by omega));omega
  ·have:j=k:=by omega
   subst this;rw [Y9 (show j<f.Odd.length by omega)] at ha;cases ha;exact h1
theorem gran_shape_eq {f:Form} (hl:Lim f):∃ b,ZX f=some b/\(b=true↔Shape f):=by
 unfold ZX
 by_cases h1:f.Count=f.Core.length/\(f.Count=0↔f.Period=0)/\0<=f.Period/\f.Period<=1099511627776
 ·have e:(f.Count != (f.Core.length:Int)||(f.Count==0) != (f.Period==0)||decide (f.Period<0)||decide (f.Period>1099511627776))=false:=by
   rw [bne_f h1.1,Zc (show ¬ f.Period<0 by omega),Zc (show ¬ f.Period>1099511627776 by omega)]
   simp only [Bool.false_or,Bool.or_false,bne_eq_false_iff_eq,ibeq,decide_eq_decide];exact h1.2.1
  rw [e,cond_false];rcases shape_core hl with ⟨h2,h3⟩|⟨h2,h3⟩
  ·rw [h2];simp only [Y3,Jx.elim];rcases shape_odd hl with ⟨h4,h5⟩|⟨h4,h5⟩
   ·rw [h4];exact ⟨true,rfl,λ_=>⟨h1.1,h1.2.1,h1.2.2,h3,λg hg=>by obtain ⟨k,hk⟩:=YK hg;exact ⟨(h5 k g hk).1,(h5 k g hk).2.1⟩,inc_of h5⟩,λ_=>rfl⟩
   ·rw [h4];refine ⟨false,rfl,λh=>(by cases h),λh=>absurd (λk g hk=>⟨(h.odd g (YC hk)).1,(h.odd g (YC hk)).2,λp h0 hp=>h.inc (k-1) k p g (by omega) hp hk⟩) h5⟩
  ·rw [h2];exact ⟨false,rfl,λh=>(by cases h),λh=>absurd h.core h3⟩
 ·have e:(f.Count != (f.Core.length:Int)||(f.Count==0) != (f.Period==0)||decide (f.Period<0)||decide (f.Period>1099511627776))=true:=by
   apply Classical.byContradiction;intro hn;simp only [Y0A,Y0T,bne_eq_false_iff_eq,decide_eq_false_iff_not,ibeq,decide_eq_decide] at hn;exact h1 ⟨hn.1.1.1,hn.1.1.2,by omega,by omega⟩
  rw [e,cond_true];exact ⟨false,rfl,λh=>(by cases h),λh=>absurd ⟨h.count,h.zero,h.per⟩ h1⟩
def fstT (l:List Span):Int:=(l.head?.map Span.From).getD 0
def lstT (l:List Span):Int:=(l.getLast?.map Span.To).getD 0
theorem lst_tick {l:List Span} (h:RightL l) (hn:l≠[]):ZA (lstT l)/\ZA (fstT l):=by
 have h1:l.getLast? = some (l.getLast hn):=List.getLast?_eq_some_getLast hn
 have h2:l.head? = some (l.head hn):=List.head?_eq_some_head hn
 obtain ⟨j,hj⟩:=YK (List.getLast_mem hn)
 obtain ⟨k,hk⟩:=YK (List.head_mem hn)
 unfold lstT fstT
 rw [h1,h2]
 exact ⟨(h.ok j _ hj).2.1,(h.ok k _ hk).1⟩
def full (f:Form):List (List Span):=f.Core.filter (λl=>decide (l.length>0))
def Turns (f:Form):Prop:=(∀ (k:Nat) (a b:List Span),(full f)[k]? = some a->(full f)[k+1]? = some b->lstT a<fstT b)/\∀ a b,(full f).getLast? = some a->(full f).head? = some b->lstT a<fstT b+f.Period
theorem full_loop {f:Form} (hl:Lim f):loopO (Zp.s0 f) (0,[])=some (full f):=by
 have hlen:=Z3k (b:=23) hl.core
 refine Z0f (I:=λs r=>r=full f/\∃ k:Nat,k<=f.Core.length/\s=((k:Int),(f.Core.take k).filter (λl=>decide (l.length>0)))) (λs=>f.Core.length-s.1.toNat) ?_ ⟨rfl,0,Yo _,by simp⟩
 rintro s r ⟨rfl,k,hk,rfl⟩
 unfold Zp.s0
 by_cases hlt:k<f.Core.length
 ·have htake:f.Core.take (k+1)=f.Core.take k++[f.Core[k]]:=Y0F hlt;simp only;rw [ZW (show (k:Int)<f.Core.length by omega),cond_true,at?_nat hlt,ZB (by omega)]
  simp only [Y3];refine .inl ?_;have hfl:((f.Core.take k).filter (λl=>decide (l.length>0))).length<=k:=YW (List.length_filter_le _ _) (by rw [Yn];exact Nat.min_le_left _ _)
  by_cases hc:f.Core[k].length>0
  ·rw [ZW (show ((f.Core[k].length:Int)>0) by omega),cond_true,app?_ok (by have h1:=hl.core;rw [Z1x] at h1;rw [Z5I];simp only [List.length_singleton];omega)]
   exact ⟨_,rfl,⟨trivial,k+1,hlt,by rw [htake,List.filter_append];simp [hc]⟩,by simp;omega⟩
  ·rw [Zc (show ¬ ((f.Core[k].length:Int)>0) by omega),cond_false]
   exact ⟨_,rfl,⟨trivial,k+1,hlt,by rw [htake,List.filter_append];simp [hc]⟩,by simp;omega⟩
 ·have:k=f.Core.length:=by omega
  subst this;simp only;rw [Zc (show ¬ ((f.Core.length:Int)<f.Core.length) by omega),cond_false,List.take_length]
  exact .inr rfl
theorem gran_turns_eq {f:Form} (hl:Lim f) (hs:Shape f):∃ b,Zp f=some b/\(b=true↔Turns f):=by
 have hlen:=Z3k (b:=23) hl.core
 have hfl:(full f).length<=f.Core.length:=List.length_filter_le _ _
 have hmem:∀ x∈full f,x∈f.Core/\x≠[]:=λx hx=>by
  have:=List.mem_filter.1 hx;exact ⟨this.1,by rintro rfl;simp at this⟩
 unfold Zp
 rw [full_loop hl]
 simp only [Y3]
 rcases Z4H (l:=full f) (step:=Zp.s1 f (full f)) (λk a=>∀ b,(full f)[(k+1) % (full f).length]? = some b->lstT a<fstT b+(if k+1=(full f).length then f.Period else 0)) (no:=.ret false) (yes:=.go ()) (λk a hk _=>by
   obtain ⟨h1,h2⟩:=Z5z hk;have hkl:k<(full f).length:=by omega
   have hmod:(k+1) % (full f).length<(full f).length:=Nat.mod_lt _ (by omega)
   have hnext:at? (full f) ((((k+1) % (full f).length:Nat):Int))=some (full f)[(k+1) % (full f).length]:=at?_nat hmod;obtain ⟨ha1,ha2⟩:=hmem a (YC hk);obtain ⟨hb1,hb2⟩:=hmem _ (Y0I hmod);have hra:=hs.core a ha1;have hrb:=hs.core _ hb1;have hal:a.length-1<a.length:=by have:=List.length_pos_iff.2 ha2;omega
   have hlast:at? a (w64 ((a.length:Int)-1))=some a[a.length-1]:=by
    have:=Z3k (b:=15) (hl.sets a ha1).1;rw [ZB (by omega),show (a.length:Int)-1=((a.length-1:Nat):Int) by omega,at?_nat hal]
   have hlt:lstT a=a[a.length-1].To:=by unfold lstT;rw [Yy,Y9 hal];rfl
   unfold Zp.s1;rw [ZW h2,cond_true,h1,nz?_ok (by omega),ZB (x:=(k:Int)+1) (by omega)]
   have htm:((k:Int)+1).tmod ((full f).length:Int)=(((k+1) % (full f).length:Nat):Int):=by
    rw [Y0B (by omega)];push_cast;rfl
   simp only [Y3,htm,hnext,hlast];rw [Y9 hmod];generalize (full f)[(k+1) % (full f).length]=b at *
   have hb0:at? b 0=some (b.head hb2):=by
    cases b with
    | nil=>exact absurd rfl hb2
    | cons y b=>rfl
   have hbf:fstT b=(b.head hb2).From:=by unfold fstT;rw [List.head?_eq_some_head hb2];rfl
   have htick:=(lst_tick hrb hb2).2;unfold ZA at htick;have hper:=hs.per
   by_cases hl1:k+1=(full f).length
   ·have e:((k:Int)+1==((full f).length:Int))=true:=beq_t (by omega)
    rw [e,cond_true];simp only [Y3,hb0,<- hbf,ZB (show -9223372036854775808<=fstT b+f.Period/\fstT b+f.Period<=9223372036854775807 by omega),<- hlt,if_pos hl1]
    by_cases hc:lstT a>=fstT b+f.Period
    ·rw [ZW hc];exact .inr ⟨rfl,λh=>by have:=h b rfl;omega⟩
    ·rw [Zc hc];exact .inl ⟨rfl,λb' hb'=>by cases hb';omega⟩
   ·have e:((k:Int)+1==((full f).length:Int))=false:=beq_f (by omega)
    rw [e,cond_false];simp only [Y3,hb0,<- hbf,ZB (show -9223372036854775808<=fstT b+0/\fstT b+0<=9223372036854775807 by omega),<- hlt,if_neg hl1]
    by_cases hc:lstT a>=fstT b+0
    ·rw [ZW hc];exact .inr ⟨rfl,λh=>by have:=h b rfl;omega⟩
    ·rw [Zc hc];exact .inl ⟨rfl,λb' hb'=>by cases hb';omega⟩) (by unfold Zp.s1;rw [Zc (by omega)];rfl) with ⟨h1,h2⟩|⟨h1,h2⟩
 ·rw [h1];refine ⟨true,rfl,λ_=>⟨λk a b ha hb=>?_,λa b ha hb=>?_⟩,λ_=>rfl⟩
  ·have hkl:=(List.getElem?_eq_some_iff.1 hb).1;have:=h2 k a ha b (by rw [Nat.mod_eq_of_lt hkl];exact hb)
   rw [if_neg (by omega)] at this;omega
  ·have hn:full f≠[]:=by rintro e;rw [e] at ha;simp at ha
   have hpos:=List.length_pos_iff.2 hn;rw [Yy] at ha;have e1:(full f).length-1+1=(full f).length:=by omega
   have:=h2 _ a ha b (by rw [e1,Nat.mod_self,<- List.head?_eq_getElem?];exact hb)
   rw [if_pos e1] at this;exact this
 ·rw [h1];refine ⟨false,rfl,λh=>(by cases h),λh=>absurd (λk a hk b hb=>?_) h2⟩
  have hkl:=(List.getElem?_eq_some_iff.1 hk).1
  by_cases hl1:k+1=(full f).length
  ·rw [if_pos hl1];rw [hl1,Nat.mod_self,<- List.head?_eq_getElem?] at hb;exact h.2 a b (by rw [Yy,<- hl1];exact hk) hb
  ·rw [if_neg hl1];rw [Nat.mod_eq_of_lt (by omega)] at hb
   have:=h.1 k a b hk hb;omega
end Go.Dn

namespace Go.Dn
open Go
theorem Z6a {l:List (List Span)} {p:List Span->Bool} (hl:l.length*24<=reachBytes):ZV l (λz=>some (p z))=some (decide (∃ x∈l,p x=true)):=by
 have hlen:=Z3k (b:=23) hl
 unfold ZV Z8
 by_cases hall:∀ (k:Nat) (x:List Span),l[k]? = some x->¬ p x=true
 ·have:loopO (Z8.s0 l (λz=>some (p z))) 0=some (.go ()):=by
   refine Z0f (I:=λ(s:Int) r=>r = .go ()/\∃ k:Nat,s=k/\k<=l.length) (λs=>l.length-s.toNat) ?_ ⟨rfl,0,rfl,Yo _⟩;rintro s r ⟨rfl,k,rfl,hk⟩;unfold Z8.s0
   by_cases hlt:k<l.length
   ·rw [ZW (show (k:Int)<l.length by omega),cond_true,at?_nat hlt,ZB (by omega)]
    have:=hall k _ (Y9 hlt);simp only [Y3,Y0A] at this ⊢;rw [this];exact .inl ⟨_,rfl,⟨trivial,k+1,by push_cast;rfl,hlt⟩,by simp;omega⟩
   ·rw [Zc (show ¬ (k:Int)<l.length by omega)];exact .inr rfl
  rw [this,Zc (by rintro ⟨x,hx,hp⟩;obtain ⟨k,hk⟩:=YK hx;exact hall k x hk hp)]
  rfl
 ·obtain ⟨k0,x0,hx0,hb0,hg⟩:=Z4M (good:=λ_ x=>¬ p x=true) hall;have hb0:p x0=true:=Classical.byContradiction hb0;have hlt0:=(List.getElem?_eq_some_iff.1 hx0).1;have:loopO (Z8.s0 l (λz=>some (p z))) 0=some (.ret (k0:Int)):=by
   refine Z0f (I:=λ(s:Int) r=>r = .ret (k0:Int)/\∃ k:Nat,s=k/\k<=k0) (λs=>l.length-s.toNat) ?_ ⟨rfl,0,rfl,Yo _⟩;rintro s r ⟨rfl,k,rfl,hk⟩;unfold Z8.s0;have hkl:k<l.length:=by omega
   rw [ZW (show (k:Int)<l.length by omega),cond_true,at?_nat hkl,ZB (by omega)]
   by_cases hlt:k<k0
   ·have:=hg k _ hlt (Y9 hkl);simp only [Y3,Y0A] at this ⊢;rw [this];exact .inl ⟨_,rfl,⟨trivial,k+1,by push_cast;rfl,hlt⟩,by simp;omega⟩
   ·have:k=k0:=by omega
    subst this;rw [Y9 hkl] at hx0;cases hx0;simp only [Y3,hb0];exact .inr rfl
  rw [this,ZW ⟨x0,YC hx0,hb0⟩];simp only [Y3,Jx.elim];rw [ZW (by omega)]
def Bare (f:Form):Prop:=∀ l∈f.Core,l=[]
theorem Z5V {f:Form} (hl:Lim f):∃ b,Z3F f=some b/\(b=true↔Bare f):=by
 unfold Z3F
 rw [Z6a hl.core]
 refine ⟨_,rfl,?_⟩
 simp only [Z2l,YU,decide_eq_false_iff_not,decide_eq_true_eq]
 constructor
 ·intro h l hm;apply Classical.byContradiction;intro hn;exact h ⟨l,hm,by have:=List.length_pos_iff.2 hn;omega⟩
 ·rintro h ⟨l,hm,hp⟩;rw [h l hm] at hp;simp at hp
theorem Z3a {f:Form} (hs:Shape f) (hb:Bare f) {i:Int} (ho:¬ Z29 f i):Zi f i=[]:=by
 by_cases h0:f.Count=0
 ·exact Z2K ho h0
 ·exact (Z1S ho h0).2 (hb _ (Z3R hs h0 i).2)
def UpTo (f:Form) (i:Int) (r:Int×Bool):Prop:=(r.2=true/\i<=r.1/\ZA r.1/\Zi f r.1≠[]/\∀ k,i<=k->k<r.1->Zi f k=[])\/(r.2=false/\r.1=0/\∀ k,i<=k->ZA k->Zi f k=[])
def DownTo (f:Form) (i:Int) (r:Int×Bool):Prop:=(r.2=true/\r.1<=i/\ZA r.1/\Zi f r.1≠[]/\∀ k,k<=i->r.1<k->Zi f k=[])\/(r.2=false/\r.1=0/\∀ k,k<=i->ZA k->Zi f k=[])
theorem odd_split {f:Form} (hs:Shape f) {p:Nat} {i:Int} (hp:∀ (k:Nat) (g:Granule),f.Odd[k]? = some g->(k<p↔g.Index<i)) {j:Int} (hj:Z29 f j):∃ (k:Nat) (g:Granule),f.Odd[k]? = some g/\g.Index=j/\(k<p↔j<i):=by
 obtain ⟨g,hg,rfl⟩:=hj
 obtain ⟨k,hk⟩:=YK hg
 exact ⟨k,g,hk,rfl,hp k g hk⟩
theorem gran_step_up {f:Form} (hl:Lim f) (hs:Shape f) {i:Int} (hi : -1099511627776<=i/\i<=1099511627776):∃ r,Zf f i 1=some r/\UpTo f i r:=by
 have hi64:In64 i:=by unfold In64;omega
 obtain ⟨b,hb,hbb⟩:=Z5V hl
 have holen:=Z3k (b:=31) hl.odd
 unfold Zf
 rw [hb]
 simp only [Y3]
 cases b with
 | true=>
  have hbare:=hbb.1 rfl;rw [cond_true];obtain ⟨p,h1,h2,h3⟩:=Z2e hl hs.inc i;rw [h3];simp only [Y3,Zc (show ¬ (1:Int)<0 by omega),Yx,cond_false]
  obtain ⟨r,hr,hpost⟩:=Z1c (step:=Zf.s0 f 1) (I:=λ(s:Int)=>∃ k:Nat,s=k/\p<=k/\k<=f.Odd.length/\∀ (j:Nat) (g:Granule),f.Odd[j]? = some g->p<=j->j<k->g.Ticks=[]) (λs=>f.Odd.length-s.toNat)
   (λr=>(∃ (k:Nat) (g:Granule),r = .ret (g.Index,true)/\f.Odd[k]? = some g/\p<=k/\g.Ticks≠[]/\∀ (j:Nat) (g':Granule),f.Odd[j]? = some g'->p<=j->j<k->g'.Ticks=[])\/(r = .go ()/\∀ (j:Nat) (g':Granule),f.Odd[j]? = some g'->p<=j->g'.Ticks=[])) (by
   rintro s ⟨k,rfl,hpk,hk,hn⟩;unfold Zf.s0
   by_cases hlt:k<f.Odd.length
   ·rw [ZW (show (k:Int)>=0 by omega),ZW (show (k:Int)<f.Odd.length by omega),Ym,cond_true,at?_nat hlt,ZB (by omega)]
    simp only [Y3];have hget:=Y9 hlt
    by_cases hc:f.Odd[k].Ticks=[]
    ·rw [hc];refine .inl ⟨(k:Int)+1,rfl,⟨k+1,by push_cast;rfl,by omega,hlt,λj g hj hpj hjk=>?_⟩,by simp;omega⟩
     rcases YJ j k with h|h
     ·exact hn j g hj hpj h
     ·have:j=k:=by omega
      subst this;rw [hget] at hj;cases hj;exact hc
    ·rw [ZW (show ((f.Odd[k].Ticks.length:Int)>0) by have:=List.length_pos_iff.2 hc;omega),cond_true]
     exact .inr ⟨_,rfl,.inl ⟨k,_,rfl,hget,hpk,hc,hn⟩⟩
   ·rw [Zc (show ¬ (k:Int)<f.Odd.length by omega),Bool.and_false,cond_false]
    refine .inr ⟨_,rfl,.inr ⟨rfl,λj g hj hpj=>hn j g hj hpj ?_⟩⟩;have:=(List.getElem?_eq_some_iff.1 hj).1;omega) (p:Int) ⟨p,rfl,YG _,h1,λj g _ h h'=>by omega⟩
  rw [hr];simp only [Y3];rcases hpost with ⟨k,g,rfl,hk,hpk,hne,hn⟩|⟨rfl,hn⟩
  ·have hset:=Z13 hs.inc (YC hk);have hgi:¬ g.Index<i:=λh=>by have:=(h2 k g hk).2 h;omega
   refine ⟨_,rfl,.inl ⟨rfl,by simp only;omega,(hs.odd g (YC hk)).2,by simp only;rw [hset];exact hne,λj hij hjg=>?_⟩⟩
   simp only at hjg
   by_cases ho:Z29 f j
   ·obtain ⟨k',g',hk',rfl,hiff⟩:=odd_split hs h2 ho;rw [Z13 hs.inc (YC hk')];refine hn k' g' hk' ?_ ?_
    ·rcases YJ k' p with h|h
     ·have:=hiff.1 h;omega
     ·exact h
    ·rcases YJ k' k with h|h
     ·exact h
     ·rcases YJ k k' with h'|h'
      ·have:=hs.inc k k' g g' h' hk hk';omega
      ·have:k=k':=by omega
       subst this;rw [hk] at hk';cases hk';omega
   ·exact Z3a hs hbare ho
  ·refine ⟨_,rfl,.inr ⟨rfl,rfl,λj hij _=>?_⟩⟩
   by_cases ho:Z29 f j
   ·obtain ⟨k',g',hk',rfl,hiff⟩:=odd_split hs h2 ho;rw [Z13 hs.inc (YC hk')];refine hn k' g' hk' ?_;rcases YJ k' p with h|h
    ·have:=hiff.1 h;omega
    ·exact h
   ·exact Z3a hs hbare ho
 | false=>
  rw [cond_false];obtain ⟨r,hr,hpost⟩:=Z1c (step:=Zf.s1 f 1) (I:=λ(s:Int)=>i<=s/\s<=1099511627777/\∀ k,i<=k->k<s->Zi f k=[]) (λs=>(1099511627777-s).toNat)
   (λr=>(∃ j,r = .ret (j,true)/\i<=j/\ZA j/\Zi f j≠[]/\∀ k,i<=k->k<j->Zi f k=[])\/(r = .go ()/\∀ k,i<=k->ZA k->Zi f k=[])) (by
   rintro s ⟨hs1,hs2,hn⟩;unfold Zf.s1;rw [Z3i]
   by_cases ht:ZA s
   ·rw [ZW ht,cond_true,Z59 hl hs (Z2Q ht),ZB (by unfold ZA at ht;omega)]
    simp only [Y3]
    by_cases hc:Zi f s=[]
    ·rw [hc];refine .inl ⟨s+1,by simp,⟨by omega,by unfold ZA at ht;omega,λk hk hks=>?_⟩,by unfold ZA at ht;omega⟩
     by_cases h:k=s
     ·rw [h];exact hc
     ·exact hn k hk (by omega)
    ·rw [ZW hc,cond_true];exact .inr ⟨_,rfl,.inl ⟨s,rfl,hs1,ht,hc,hn⟩⟩
   ·rw [Zc ht,cond_false];exact .inr ⟨_,rfl,.inr ⟨rfl,λk hk htk=>hn k hk (by unfold ZA at ht htk;omega)⟩⟩) i ⟨Int.le_refl _,by omega,λk h h'=>by omega⟩
  rw [hr];simp only [Y3];rcases hpost with ⟨j,rfl,h1,h2,h3,h4⟩|⟨rfl,hn⟩
  ·exact ⟨_,rfl,.inl ⟨rfl,h1,h2,h3,h4⟩⟩
  ·exact ⟨_,rfl,.inr ⟨rfl,rfl,hn⟩⟩
theorem Z6i {f:Form} (hl:Lim f) (hs:Shape f) {i:Int} (hi : -1099511627776<=i/\i<=1099511627776):∃ r,Zf f i (-1)=some r/\DownTo f i r:=by
 have hi64:In64 i:=by unfold In64;omega
 obtain ⟨b,hb,hbb⟩:=Z5V hl
 have holen:=Z3k (b:=31) hl.odd
 unfold Zf
 rw [hb]
 simp only [Y3]
 cases b with
 | true=>
  have hbare:=hbb.1 rfl;rw [cond_true];obtain ⟨p,h1,h2,h3⟩:=Z2e hl hs.inc i;rw [h3]
  -- the number of exceptions up to the index
  obtain ⟨q,hq1,hq2,hq3⟩ : ∃ q:Nat,q<=f.Odd.length/\(∀ (k:Nat) (g:Granule),f.Odd[k]? = some g->(k<q↔g.Index<=i))/\((bif (decide ((-1:Int)<0) && !decide (∃ g,f.Odd[p]? = some g/\g.Index=i)) then some (w64 ((p:Int)-1)) else some (p:Int)):Option Int)=some ((q:Int)-1):=by
   by_cases he:∃ g,f.Odd[p]? = some g/\g.Index=i
   ·obtain ⟨g,hg,hgi⟩:=he;have hpl:=(List.getElem?_eq_some_iff.1 hg).1;refine ⟨p+1,by omega,λk g' hk=>?_,by rw [ZW (p:=∃ g,f.Odd[p]? = some g/\g.Index=i) ⟨g,hg,hgi⟩];simp⟩
    have:=h2 k g' hk
    constructor
    ·intro h;rcases YJ k p with h'|h'
     ·have:=this.1 h';omega
     ·have:k=p:=by omega
      subst this;rw [hg] at hk;cases hk;omega
    ·intro h;rcases YJ p k with h'|h'
     ·have:=hs.inc p k g g' h' hg hk;omega
     ·omega
   ·refine ⟨p,h1,λk g' hk=>?_,by rw [Zc (p:=∃ g,f.Odd[p]? = some g/\g.Index=i) he,ZB (by omega)];simp⟩
    have:=h2 k g' hk
    constructor
    ·intro h;have:=this.1 h;omega
    ·intro h
     by_cases hgi:g'.Index=i
     ·exfalso
      have hkp:¬ k<p:=λh'=>by have:=this.1 h';omega
      rcases YJ p k with h'|h'
      ·have hpl:p<f.Odd.length:=by have:=(List.getElem?_eq_some_iff.1 hk).1;omega
       have h5:=hs.inc p k _ g' h' (Y9 hpl) hk;have h6:=(h2 p _ (Y9 hpl)).2 (by omega)
       omega
      ·have:k=p:=by omega
       subst this;exact he ⟨g',hk,hgi⟩
     ·exact this.2 (by omega)
  simp only [Y3];rw [hq3];simp only [Y3];obtain ⟨r,hr,hpost⟩:=Z1c (step:=Zf.s0 f (-1)) (I:=λ(s:Int)=>∃ k:Nat,s=(k:Int)-1/\k<=q/\∀ (j:Nat) (g:Granule),f.Odd[j]? = some g->k<=j->j<q->g.Ticks=[]) (λs=>(s+1).toNat)
   (λr=>(∃ (k:Nat) (g:Granule),r = .ret (g.Index,true)/\f.Odd[k]? = some g/\k<q/\g.Ticks≠[]/\∀ (j:Nat) (g':Granule),f.Odd[j]? = some g'->k<j->j<q->g'.Ticks=[])\/(r = .go ()/\∀ (j:Nat) (g':Granule),f.Odd[j]? = some g'->j<q->g'.Ticks=[])) (by
   rintro s ⟨k,rfl,hk,hn⟩;unfold Zf.s0
   by_cases h0:0<k
   ·have hlt:k-1<f.Odd.length:=by omega
    rw [ZW (show (k:Int)-1>=0 by omega),ZW (show (k:Int)-1<f.Odd.length by omega),Ym,cond_true,show (k:Int)-1=((k-1:Nat):Int) by omega,at?_nat hlt,ZB (by omega)]
    simp only [Y3];have hget:=Y9 hlt
    by_cases hc:f.Odd[k-1].Ticks=[]
    ·rw [hc];refine .inl ⟨((k-1:Nat):Int) + -1,rfl,⟨k-1,by omega,by omega,λj g hj hpj hjk=>?_⟩,by simp;omega⟩
     rcases YJ j k with h|h
     ·have:j=k-1:=by omega
      subst this;rw [hget] at hj;cases hj;exact hc
     ·exact hn j g hj h hjk
    ·rw [ZW (show ((f.Odd[k-1].Ticks.length:Int)>0) by have:=List.length_pos_iff.2 hc;omega),cond_true]
     exact .inr ⟨_,rfl,.inl ⟨k-1,_,rfl,hget,by omega,hc,λj g hj h1 h2=>hn j g hj (by omega) h2⟩⟩
   ·rw [Zc (show ¬ (k:Int)-1>=0 by omega),Yx,cond_false]
    exact .inr ⟨_,rfl,.inr ⟨rfl,λj g hj hjq=>hn j g hj (by omega) hjq⟩⟩) ((q:Int)-1) ⟨q,rfl,YG _,λj g _ h h'=>by omega⟩
  rw [hr];simp only [Y3];rcases hpost with ⟨k,g,rfl,hk,hkq,hne,hn⟩|⟨rfl,hn⟩
  ·have hset:=Z13 hs.inc (YC hk);have hgi:=(hq2 k g hk).1 hkq;refine ⟨_,rfl,.inl ⟨rfl,hgi,(hs.odd g (YC hk)).2,by simp only;rw [hset];exact hne,λj hij hjg=>?_⟩⟩
   simp only at hjg
   by_cases ho:Z29 f j
   ·obtain ⟨g',hg',rfl⟩:=ho;obtain ⟨k',hk'⟩:=YK hg';rw [Z13 hs.inc hg'];refine hn k' g' hk' ?_ ((hq2 k' g' hk').2 hij);rcases YJ k k' with h|h
    ·exact h
    ·rcases YJ k' k with h'|h'
     ·have:=hs.inc k' k g' g h' hk' hk;omega
     ·have:k=k':=by omega
      subst this;rw [hk] at hk';cases hk';omega
   ·exact Z3a hs hbare ho
  ·refine ⟨_,rfl,.inr ⟨rfl,rfl,λj hij _=>?_⟩⟩
   by_cases ho:Z29 f j
   ·obtain ⟨g',hg',rfl⟩:=ho;obtain ⟨k',hk'⟩:=YK hg';rw [Z13 hs.inc hg'];exact hn k' g' hk' ((hq2 k' g' hk').2 hij)
   ·exact Z3a hs hbare ho
 | false=>
  rw [cond_false];obtain ⟨r,hr,hpost⟩:=Z1c (step:=Zf.s1 f (-1)) (I:=λ(s:Int)=>s<=i/\-1099511627777<=s/\∀ k,k<=i->s<k->Zi f k=[]) (λs=>(s+1099511627777).toNat)
   (λr=>(∃ j,r = .ret (j,true)/\j<=i/\ZA j/\Zi f j≠[]/\∀ k,k<=i->j<k->Zi f k=[])\/(r = .go ()/\∀ k,k<=i->ZA k->Zi f k=[])) (by
   rintro s ⟨hs1,hs2,hn⟩;unfold Zf.s1;rw [Z3i]
   by_cases ht:ZA s
   ·rw [ZW ht,cond_true,Z59 hl hs (Z2Q ht),ZB (by unfold ZA at ht;omega)]
    simp only [Y3]
    by_cases hc:Zi f s=[]
    ·rw [hc];refine .inl ⟨s + -1,by simp,⟨by omega,by unfold ZA at ht;omega,λk hk hks=>?_⟩,by unfold ZA at ht;omega⟩
     by_cases h:k=s
     ·rw [h];exact hc
     ·exact hn k hk (by omega)
    ·rw [ZW hc,cond_true];exact .inr ⟨_,rfl,.inl ⟨s,rfl,hs1,ht,hc,hn⟩⟩
   ·rw [Zc ht,cond_false];exact .inr ⟨_,rfl,.inr ⟨rfl,λk hk htk=>hn k hk (by unfold ZA at ht htk;omega)⟩⟩) i ⟨Int.le_refl _,by omega,λk h h'=>by omega⟩
  rw [hr];simp only [Y3];rcases hpost with ⟨j,rfl,h1,h2,h3,h4⟩|⟨rfl,hn⟩
  ·exact ⟨_,rfl,.inl ⟨rfl,h1,h2,h3,h4⟩⟩
  ·exact ⟨_,rfl,.inr ⟨rfl,rfl,hn⟩⟩
def Above (f:Form) (i:Int) (r:Int×Bool):Prop:=(r.2=true/\i<r.1/\ZA r.1/\Zi f r.1≠[]/\∀ k,i<k->k<r.1->ZA k->Zi f k=[])\/(r.2=false/\r.1=0/\∀ k,i<k->ZA k->Zi f k=[])
def Under (f:Form) (i:Int) (r:Int×Bool):Prop:=(r.2=true/\r.1<i/\ZA r.1/\Zi f r.1≠[]/\∀ k,k<i->r.1<k->ZA k->Zi f k=[])\/(r.2=false/\r.1=0/\∀ k,k<i->ZA k->Zi f k=[])
theorem Z79 {f:Form} (hl:Lim f) (hs:Shape f) {i:Int} (hi:In64 i):∃ r,Z1H f i=some r/\Above f i r:=by
 unfold Z1H
 by_cases h:i>=1099511627776
 ·rw [ZW h,cond_true];exact ⟨_,rfl,.inr ⟨rfl,rfl,λk hk ht=>by unfold ZA at ht;omega⟩⟩
 ·rw [Zc h,cond_false,ZB (by unfold In64 at hi;omega)]
  have hm:iMax (i+1) (-1099511627776)=max (i+1) (-1099511627776):=by unfold iMax;omega
  rw [hm];obtain ⟨r,h1,h2⟩:=gran_step_up hl hs (i:=max (i+1) (-1099511627776)) (by omega)
  rw [h1];refine ⟨r,rfl,?_⟩;rcases h2 with ⟨a,b,c,d,e⟩|⟨a,b,e⟩
  ·exact .inl ⟨a,by omega,c,d,λk hk hkr ht=>e k (by unfold ZA at ht;omega) hkr⟩
  ·exact .inr ⟨a,b,λk hk ht=>e k (by have:=ht;unfold ZA at this;omega) ht⟩
theorem Z6m {f:Form} (hl:Lim f) (hs:Shape f) {i:Int} (hi:In64 i):∃ r,Z1I f i=some r/\Under f i r:=by
 unfold Z1I
 by_cases h:i<=-1099511627776
 ·rw [ZW h,cond_true];exact ⟨_,rfl,.inr ⟨rfl,rfl,λk hk ht=>by unfold ZA at ht;omega⟩⟩
 ·rw [Zc h,cond_false,ZB (by unfold In64 at hi;omega)]
  have hm:iMin (i-1) 1099511627776=min (i-1) 1099511627776:=by unfold iMin;omega
  rw [hm];obtain ⟨r,h1,h2⟩:=Z6i hl hs (i:=min (i-1) 1099511627776) (by omega)
  rw [h1];refine ⟨r,rfl,?_⟩;rcases h2 with ⟨a,b,c,d,e⟩|⟨a,b,e⟩
  ·exact .inl ⟨a,by omega,c,d,λk hk hkr ht=>e k (by unfold ZA at ht;omega) hkr⟩
  ·exact .inr ⟨a,b,λk hk ht=>e k (by have:=ht;unfold ZA at this;omega) ht⟩
end Go.Dn

namespace Go.Dn
open Go
def BesideR (f:Form) (i:Int) (lo hi:Int×Bool):Prop :=
 fits f i/\(lo.2=true->fits f lo.1/\Z1l (Zi f lo.1) (Zi f i))/\(hi.2=true->fits f hi.1/\Z1l (Zi f i) (Zi f hi.1))/\(lo.2=true->hi.2=true->Z1l (Zi f lo.1) (Zi f hi.1))
theorem aheadL_nil_l (b:List Span):Z1l [] b:=by intro x hx;cases hx
theorem aheadL_nil_r (a:List Span):Z1l a []:=by intro x _ y hy;cases hy
theorem setAt_len {f:Form} (hl:Lim f) (hs:Shape f) (i:Int):Len (Zi f i):=by
 by_cases ho:Z29 f i
 ·obtain ⟨g,hg,rfl⟩:=ho;rw [Z13 hs.inc hg];exact (hl.ticks g hg).2.1
 ·by_cases h0:f.Count=0
  ·rw [Z2K ho h0];unfold Len;simp
  ·rw [Z2N ho h0];unfold Len;rw [Ye];exact (hl.sets _ (Z3R hs h0 i).2).1
theorem near_l {c:Bool} {X S:List Span}:Z1l (if c=true then X else []) S↔(c=true->Z1l X S):=by
 cases c
 ·simp [aheadL_nil_l]
 ·simp
theorem near_r {c:Bool} {X S:List Span}:Z1l S (if c=true then X else [])↔(c=true->Z1l S X):=by
 cases c
 ·simp [aheadL_nil_r]
 ·simp
noncomputable def sideG (f:Form) (r:Int×Bool):Option (Jx (List Span) Bool) :=
 (bif r.2 then (Z0T f r.1).bind λx=>(bif (x.2 != 0) then some (.ret false) else some (.go x.1)) else some (.go []))
open Classical in
theorem sideG_eq {f:Form} (hl:Lim f) (hs:Shape f) {r:Int×Bool} (ht:r.2=true->ZA r.1):(r.2=true/\¬ fits f r.1/\sideG f r=some (.ret false))\/((r.2=true->fits f r.1)/\sideG f r=some (.go (if r.2=true then Zi f r.1 else []))):=by
 obtain ⟨j,c⟩:=r
 unfold sideG
 cases c with
 | false=>exact .inr ⟨by simp,by simp⟩
 | true=>
  simp only [cond_true];rw [Z4B hl hs (Z2Q (ht rfl))]
  by_cases hfl:fits f j
  ·rw [if_pos ⟨ht rfl,hfl⟩];exact .inr ⟨λ_=>hfl,by simp⟩
  ·rw [if_neg (λh=>hfl h.2)];exact .inl ⟨trivial,hfl,rfl⟩
open Classical in
theorem Z7O {f:Form} (hl:Lim f) (hs:Shape f) {i:Int} (hi:ZA i) {lo hi':Int×Bool} (hlo:Z1I f i=some lo) (hhi:Z1H f i=some hi') (tlo:lo.2=true->ZA lo.1) (thi:hi'.2=true->ZA hi'.1) :
  ∃ b,Z0x f i=some b/\(b=true↔BesideR f i lo hi'):=by
 have e:Z0x f i=(Z0T f i).bind λx1=>(bif (x1.2 != 0) then some false else (sideG f lo).bind λy1=>y1.elim (λr'=>some r') λa2=>(sideG f hi').bind λy2=>y2.elim (λr'=>some r') λa4=>
   (Z0J a2 x1.1).bind λx6=>((bif x6 then (Z0J x1.1 a4).bind λx7=>some x7 else some false)).bind λy3=>((bif y3 then (Z0J a2 a4).bind λx8=>some x8 else some false)).bind λy4=>some y4):=by
  unfold Z0x sideG;rw [hlo,hhi];simp only [Y3]
 rw [e,Z4B hl hs (Z2Q hi)]
 clear e
 by_cases hf:fits f i
 ·rw [if_pos ⟨hi,hf⟩];simp only [Y3,bne_self_eq_false,cond_false];rcases sideG_eq hl hs tlo with ⟨h1,h2,h0⟩|⟨h1,h0⟩
  ·rw [h0];exact ⟨false,rfl,λh=>(by cases h),λh=>absurd (h.2.1 h1).1 h2⟩
  ·rw [h0];simp only [Y3,Jx.elim];rcases sideG_eq hl hs thi with ⟨h3,h4,h0'⟩|⟨h3,h0'⟩
   ·rw [h0'];exact ⟨false,rfl,λh=>(by cases h),λh=>absurd (h.2.2.1 h3).1 h4⟩
   ·rw [h0'];simp only [Y3];have lenA:Len (if lo.2=true then Zi f lo.1 else []):=by
     by_cases hc:lo.2=true
     ·rw [if_pos hc];exact setAt_len hl hs _
     ·rw [if_neg hc];unfold Len;simp
    generalize hA:(if lo.2=true then Zi f lo.1 else [])=A at lenA;generalize hB:(if hi'.2=true then Zi f hi'.1 else [])=B;obtain ⟨r1,q1,p1⟩:=Z2R (b:=Zi f i) lenA;obtain ⟨r2,q2,p2⟩:=Z2R (a:=Zi f i) (b:=B) (setAt_len hl hs i);obtain ⟨r3,q3,p3⟩:=Z2R (b:=B) lenA;rw [q1,q2,q3];subst hA hB;rw [near_l] at p1;rw [near_r] at p2;rw [near_l,near_r] at p3;refine ⟨r1&&r2&&r3,by cases r1<;>cases r2<;>rfl,?_⟩
    rw [YD,YD,p1,p2,p3]
    constructor
    ·rintro ⟨⟨a,b⟩,c⟩;exact ⟨hf,λh=>⟨h1 h,a h⟩,λh=>⟨h3 h,b h⟩,c⟩
    ·rintro ⟨_,a,b,c⟩;exact ⟨⟨λh=>(a h).2,λh=>(b h).2⟩,c⟩
 ·rw [if_neg (λh=>hf h.2)];exact ⟨false,rfl,λh=>(by cases h),λh=>absurd h.1 hf⟩
def Beside (f:Form) (i:Int):Prop:=∀ lo hi,Under f i lo->Above f i hi->BesideR f i lo hi
theorem Under.uniq {f:Form} {i:Int} {r r':Int×Bool} (h:Under f i r) (h':Under f i r'):r=r':=by
 obtain ⟨a,b⟩:=r
 obtain ⟨a',b'⟩:=r'
 rcases h with ⟨rfl,h1,h2,h3,h4⟩|⟨rfl,rfl,h4⟩<;>rcases h' with ⟨rfl,k1,k2,k3,k4⟩|⟨rfl,rfl,k4⟩
 ·simp only at *
  rcases Int.lt_trichotomy a a' with h|h|h
  ·exact absurd (h4 a' k1 h k2) k3
  ·rw [h]
  ·exact absurd (k4 a h1 h h2) h3
 ·exact absurd (k4 a h1 h2) h3
 ·exact absurd (h4 a' k1 k2) k3
 ·rfl
theorem Above.uniq {f:Form} {i:Int} {r r':Int×Bool} (h:Above f i r) (h':Above f i r'):r=r':=by
 obtain ⟨a,b⟩:=r
 obtain ⟨a',b'⟩:=r'
 rcases h with ⟨rfl,h1,h2,h3,h4⟩|⟨rfl,rfl,h4⟩<;>rcases h' with ⟨rfl,k1,k2,k3,k4⟩|⟨rfl,rfl,k4⟩
 ·simp only at *
  rcases Int.lt_trichotomy a a' with h|h|h
  ·exact absurd (k4 a h1 h h2) h3
  ·rw [h]
  ·exact absurd (h4 a' k1 h k2) k3
 ·exact absurd (k4 a h1 h2) h3
 ·exact absurd (h4 a' k1 k2) k3
 ·rfl
theorem Z6c {f:Form} (hl:Lim f) (hs:Shape f) {i:Int} (hi:ZA i):∃ b,Z0x f i=some b/\(b=true↔Beside f i):=by
 obtain ⟨lo,h1,h2⟩:=Z6m hl hs (Z2Q hi)
 obtain ⟨hi',h3,h4⟩:=Z79 hl hs (Z2Q hi)
 obtain ⟨b,h5,h6⟩:=Z7O hl hs hi h1 h3 (λh=>by rcases h2 with ⟨_,_,h,_⟩|⟨h',_⟩<;>simp_all) (λh=>by rcases h4 with ⟨_,_,h,_⟩|⟨h',_⟩<;>simp_all)
 refine ⟨b,h5,h6.trans ⟨λh lo' hi'' q1 q2=>?_,λh=>h lo hi' h2 h4⟩⟩
 rw [q1.uniq h2,q2.uniq h4];exact h
def sizeF (f:Form):Nat:=(f.Core.map List.length).sum+(f.Odd.map (·.Ticks.length)).sum
theorem sum_take {α:Type} (g:α->Nat) {l:List α} {k:Nat} (h:k<l.length):((l.take (k+1)).map g).sum=((l.take k).map g).sum+g l[k]:=by
 rw [Y0F h,Y05,List.sum_append];simp
theorem gran_Size_eq {f:Form} (hl:Lim f) (hc:f.Core.length<=6000) (ho:f.Odd.length<=6000):Z01 f=some (sizeF f:Int):=by
 have hr:=Z1x
 have lenC:∀ l∈f.Core,l.length<=8796093022207:=λl hm=>by have:=(hl.sets l hm).1;unfold Len at this;omega
 have lenO:∀ g∈f.Odd,g.Ticks.length<=8796093022207:=λl hm=>by have:=(hl.ticks l hm).2.1;unfold Len at this;omega
 obtain ⟨a,h1,h2,h3⟩:=fold_loop (l:=f.Core) (step:=Z01.s0 f) (f:=λa _ x=>a+(x.length:Int)) (fin:=id) (a0:=(0:Int)) (λk a=>a=((((f.Core.take k).map List.length).sum:Nat):Int)/\a<=k*8796093022207) ⟨by simp,by simp⟩ (λk x a hk ⟨ha,hb⟩=>by
   obtain ⟨q1,q2⟩:=Z5z hk;have hx:=lenC x (YC hk);have hkl:k<f.Core.length:=by omega
   have h0:0<=a:=by rw [ha];omega
   unfold Z01.s0;simp only;rw [ZW q2,cond_true,q1,ZB (x:=(k:Int)+1) (by omega)]
   simp only [Y3];rw [ZB (x:=a+(x.length:Int)) (by omega)]
   refine ⟨rfl,?_,by push_cast;omega⟩
   rw [sum_take _ hkl];rw [Y9 hkl] at hk;cases hk;rw [ha];push_cast;rfl) (λa _=>by unfold Z01.s0;simp only;rw [Zc (by omega)];rfl)
 rw [List.take_length] at h2
 obtain ⟨b,h4,h5,h6⟩:=fold_loop (l:=f.Odd) (step:=Z01.s1 f) (f:=λa _ x=>a+(x.Ticks.length:Int)) (fin:=id) (a0:=a) (λk b=>b=a+((((f.Odd.take k).map (·.Ticks.length)).sum:Nat):Int)/\b<=a+k*8796093022207) ⟨by simp,by simp⟩ (λk x b hk ⟨ha,hb⟩=>by
   obtain ⟨q1,q2⟩:=Z5z hk;have hx:=lenO x (YC hk);have hkl:k<f.Odd.length:=by omega
   have h0:0<=b:=by rw [ha,h2];omega
   unfold Z01.s1;simp only;rw [ZW q2,cond_true,q1,ZB (x:=(k:Int)+1) (by omega)]
   simp only [Y3];rw [ZB (x:=b+(x.Ticks.length:Int)) (by omega)]
   refine ⟨rfl,?_,by push_cast;omega⟩
   rw [sum_take _ hkl];rw [Y9 hkl] at hk;cases hk;rw [ha];push_cast;omega) (λa _=>by unfold Z01.s1;simp only;rw [Zc (by omega)];rfl)
 rw [List.take_length] at h5
 unfold Z01
 rw [h1]
 simp only [Y3,id]
 rw [h4]
 simp only [Y3,id,h5,h2,sizeF]
 push_cast;rfl
structure RightF (f:Form):Prop where
 shape:Shape f
 turns:Turns f
 beside:∀ g∈f.Odd,Beside f g.Index
def LongF (f:Form):Prop:=6000<f.Core.length\/6000<f.Odd.length\/60000<sizeF f
theorem gran_Right_eq {f:Form} (hl:Lim f):(LongF f/\Zy f=some 3)\/(¬ LongF f/\RightF f/\Zy f=some 0)\/(¬ LongF f/\¬ RightF f/\Zy f=some 50):=by
 have holen:=Z3k (b:=31) hl.odd
 unfold Zy
 by_cases h1:6000<f.Core.length\/6000<f.Odd.length
 ·have e:(decide ((f.Core.length:Int)>6000)||decide ((f.Odd.length:Int)>6000))=true:=by
   rcases h1 with h|h
   ·rw [ZW (show (f.Core.length:Int)>6000 by omega)];rfl
   ·rw [ZW (show (f.Odd.length:Int)>6000 by omega)];simp
  rw [e];exact .inl ⟨h1.elim .inl (λh=>.inr (.inl h)),rfl⟩
 ·have e:(decide ((f.Core.length:Int)>6000)||decide ((f.Odd.length:Int)>6000))=false:=by
   rw [Zc (show ¬ (f.Core.length:Int)>6000 by omega),Zc (show ¬ (f.Odd.length:Int)>6000 by omega)];rfl
  rw [e,cond_false,gran_Size_eq hl (by omega) (by omega)]
  simp only [Y3]
  by_cases h2:60000<sizeF f
  ·rw [ZW (show (sizeF f:Int)>60000 by omega)]
   exact .inl ⟨.inr (.inr h2),rfl⟩
  ·have hnl:¬ LongF f:=by unfold LongF;omega
   rw [Zc (show ¬ (sizeF f:Int)>60000 by omega),cond_false]
   obtain ⟨b,hb,hbs⟩:=gran_shape_eq hl
   rw [hb];simp only [Y3];refine .inr ?_;cases b with
   | false=>exact .inr ⟨hnl,λh=>(by have:=hbs.2 h.shape;cases this),rfl⟩
   | true=>
    have hs:=hbs.1 rfl;obtain ⟨c,hc,hct⟩:=gran_turns_eq hl hs
    rw [hc];simp only [Y3,Y0Z,cond_false];cases c with
    | false=>exact .inr ⟨hnl,λh=>(by have:=hct.2 h.turns;cases this),rfl⟩
    | true=>
     simp only [Y0Z,cond_false];rcases Z4H (l:=f.Odd) (step:=Zy.s0 f) (λ_ g=>Beside f g.Index) (no:=.ret 50) (yes:=.go ()) (λk g hk _=>by
       obtain ⟨q1,q2⟩:=Z5z hk;obtain ⟨b,hb,hbb⟩:=Z6c hl hs (hs.odd g (YC hk)).2;unfold Zy.s0;rw [ZW q2,cond_true,q1,ZB (by omega)]
       simp only [Y3,hb];cases b
       ·exact .inr ⟨rfl,λh=>by have:=hbb.2 h;cases this⟩
       ·exact .inl ⟨rfl,hbb.1 rfl⟩) (by unfold Zy.s0;rw [Zc (by omega)];rfl) with ⟨q1,q2⟩|⟨q1,q2⟩
     ·rw [q1];exact .inl ⟨hnl,⟨hs,hct.1 rfl,λg hg=>by obtain ⟨k,hk⟩:=YK hg;exact q2 k g hk⟩,rfl⟩
     ·rw [q1];exact .inr ⟨hnl,λh=>q2 λk g hk=>h.beside g (YC hk),rfl⟩
def SmallF (f:Form):Prop:=f.Core.length<=12/\f.Odd.length<=8/\sizeF f<=60
end Go.Dn

namespace Go.Dn
open Go
theorem year_len (y:Int):Bg (y+1)=Bg y+Up y 12:=by
 unfold Bg Up Lp
 rw [show y+1-1=y by omega,show Z1R.getD 12 0=365 from rfl,show decide (2<=12)=true from rfl,Bool.true_and]
 by_cases h4:y % 4=0
 ·by_cases h1:y % 100=0
  ·by_cases h:y % 400=0
   ·rw [ZW h4,Zc (show ¬ y % 100≠0 by omega),ZW h]
    simp only [Bool.or_true,Bool.and_true,cond_true];omega
   ·rw [ZW h4,Zc (show ¬ y % 100≠0 by omega),Zc h]
    simp only [Bool.or_false,Bool.and_false,cond_false];omega
  ·rw [ZW h4,ZW (show y % 100≠0 from h1)];simp only [Bool.true_or,Bool.and_true,cond_true];omega
 ·rw [Zc h4];simp only [Yx,cond_false];omega
theorem Up_zero (y:Int):Up y 0=0:=by unfold Up;rfl
theorem Dy_succ (m:Int):Dy (m+1)=Bg (1970+m / 12)+Up (1970+m / 12) ((m % 12).toNat+1):=by
 unfold Dy
 by_cases h:m % 12=11
 ·rw [show (m+1) / 12=m / 12+1 by omega,show (m+1) % 12=0 by omega,show (m % 12).toNat+1=12 by omega,show 1970+(m / 12+1)=(1970+m / 12)+1 by omega,year_len,show (0:Int).toNat=0 from rfl,Up_zero]
  omega
 ·rw [show (m+1) / 12=m / 12 by omega,show ((m+1) % 12).toNat=(m % 12).toNat+1 by omega]
theorem Dy_lt (m:Int):Dy m+1<=Dy (m+1):=by
 rw [Dy_succ]
 have:=Up_pos (1970+m / 12) (m % 12).toNat (by omega)
 unfold Dy
 omega
theorem Dy_le_add (m:Int) (k:Nat):Dy m+k<=Dy (m+k):=by
 induction k with
 | zero=>simp
 | succ k ih=>
  have:=Dy_lt (m+k);rw [show m+((k+1:Nat):Int)=m+k+1 by omega]
  omega
theorem Dy_mono {a b:Int} (h:a<=b):Dy a+(b-a)<=Dy b:=by
 have:=Dy_le_add a (b-a).toNat
 rw [show a+((b-a).toNat:Int)=b by omega] at this
 omega
theorem Lp_turn (y:Int) (t:Int):Lp (y+400*t)=Lp y:=by
 unfold Lp
 rw [show (y+400*t) % 4=y % 4 by omega,show (y+400*t) % 100=y % 100 by omega,show (y+400*t) % 400=y % 400 by omega]
theorem Dy_turn (m:Int):Dy (m+4800)=Dy m+146097:=by
 unfold Dy Up
 rw [show (m+4800) / 12=m / 12+400 by omega,show (m+4800) % 12=m % 12 by omega,show 1970+(m / 12+400)=(1970+m / 12)+400*1 by omega,Lp_turn]
 unfold Bg
 omega
theorem Dy_far {m b:Int} (h0 : -b<=m) (h1:m<=b) (hb:0<=b) : -(31*b+1000)<=Dy m/\Dy m<=31*b+1000:=by
 have:=Up_bd (1970+m / 12) (k:=(m % 12).toNat) (by omega)
 unfold Dy Bg
 omega
structure Gr (f:Form) (N:Nat) (P:Int) (A:Int->Int):Prop where
 core:∀ i:Nat,i<N->f.Core[i]? = some [⟨A i,A (i+1)-1⟩]
 len:f.Core.length=N
 count:f.Count=N
 per:f.Period=P
 odd:f.Odd=[]
 pos:1<=N/\N<=4800
 posP:1<=P/\P<=146097
 up:∀ i,A i+1<=A (i+1)
 turn:∀ i,A (i+N)=A i+P
 far:∀ i b:Int,-b<=i->i<=b->0<=b->-(400*b+1000)<=A i/\A i<=400*b+1000
def AOf:Nat->Int->Int
 | 0,i|1,i=>i
 | 2,i=>7*i-3
 | 3,i=>Dy i
 | 4,i=>Dy (3*i)
 | _,i=>Dy (12*i)
def NOf:Nat->Nat
 | 0|1|2=>1
 | 3=>4800
 | 4=>1600
 | _=>400
def POf:Nat->Int
 | 0|1=>1
 | 2=>7
 | _=>146097
theorem Mo_gr {n N:Nat} (hn:1<=n/\n<=12) (hN:n*N=4800):Gr (Mo n N) N 146097 (λi=>Dy (n*i)):=by
 have hN0:1<=N:=by
  rcases Nat.eq_zero_or_pos N with h|h
  ·subst h;omega
  ·exact h
 have hN1:N<=4800:=by
  have:=YS N hn.1;omega
 refine ⟨λi hi=>?_,Mo_len n N,rfl,rfl,rfl,⟨hN0,hN1⟩,by omega,λi=>?_,λi=>?_,λi b h0 h1 hb=>?_⟩
 ·rw [Mo_at hi];have e1:((i*n:Nat):Int)=n*i:=by push_cast;rw [Int.mul_comm]
  have e2:((i*n:Nat):Int)+n=n*(i+1):=by rw [e1,Y0e,Int.mul_one]
  rw [e2,e1]
 ·have:=Dy_mono (a:=n*i) (b:=n*(i+1)) (by rw [Y0e];omega)
  rw [Y0e,Int.mul_one] at this ⊢;omega
 ·have e:(n:Int)*(i+N)=n*i+4800:=by
   rw [Y0e,<- Int.natCast_mul,hN]
   rfl
  rw [e,Dy_turn]
 ·have e1:(n:Int)*i<=12*b:=by
   have a1:(n:Int)*i<=n*b:=Y04 h1 (by omega)
   have a2:(n:Int)*b<=12*b:=Y01 (by omega) hb
   omega
  have e2 : -(12*b)<=(n:Int)*i:=by
   have a1:(n:Int)*(-b)<=n*i:=Y04 h0 (by omega)
   have a2:(n:Int)*b<=12*b:=Y01 (by omega) hb
   rw [Int.mul_neg] at a1;omega
  have:=Dy_far e2 e1 (by omega)
  omega
theorem made_gr {j:Nat} (hj:j<6):Gr (Z0s j) (NOf j) (POf j) (AOf j):=by
 match j,hj with
 | 0,_|1,_=>exact ⟨λi hi=>match i,hi with|0,_=>rfl|i+1,hi=>absurd hi (by simp only [NOf];omega),rfl,rfl,rfl,rfl,by decide,by decide,λi=>by simp only [AOf];omega,λi=>by simp only [AOf,NOf,POf];rfl,λi b h0 h1 hb=>by simp only [AOf];omega⟩
 | 2,_=>exact ⟨λi hi=>match i,hi with|0,_=>rfl|i+1,hi=>absurd hi (by simp only [NOf];omega),rfl,rfl,rfl,rfl,by decide,by decide,λi=>by simp only [AOf];omega,λi=>by simp only [AOf,NOf,POf];omega,λi b h0 h1 hb=>by simp only [AOf];omega⟩
 | 3,_=>
  have h:=Mo_gr (n:=1) (N:=4800) (by omega) rfl
  have e:(λi:Int=>Dy (((1:Nat):Int)*i))=AOf 3:=by funext i;show Dy (1*i)=Dy i;rw [Int.one_mul]
  rw [e] at h;exact h
 | 4,_=>exact Mo_gr (n:=3) (N:=1600) (by omega) rfl
 | 5,_=>exact Mo_gr (n:=12) (N:=400) (by omega) rfl
section
variable {f:Form} {N:Nat} {P:Int} {A:Int->Int}
theorem Gr.turns (g:Gr f N P A) (i:Int) (t:Nat):A (i+N*t)=A i+P*t:=by
 induction t with
 | zero=>simp
 | succ t ih=>
  have h1:(N:Int)*((t+1:Nat):Int)=N*t+N:=by push_cast;rw [Y0e,Int.mul_one]
  have h2:P*((t+1:Nat):Int)=P*t+P:=by push_cast;rw [Y0e,Int.mul_one]
  rw [h1,<- Int.add_assoc,g.turn,ih,h2,Int.add_assoc]
theorem Gr.turnZ (g:Gr f N P A) (i q:Int):A (i+N*q)=A i+P*q:=by
 rcases Int.lt_or_le q 0 with h|h
 ·have e:=g.turns (i+N*q) (-q).toNat
  rw [show ((-q).toNat:Int) = -q by omega,Int.mul_neg,Int.mul_neg,Int.add_neg_cancel_right] at e
  omega
 ·have e:=g.turns i q.toNat
  rw [show (q.toNat:Int)=q by omega] at e
  exact e
theorem Gr.not_odd (g:Gr f N P A) (i:Int):¬ Z29 f i:=λ⟨x,hx,_⟩=>by rw [g.odd] at hx;cases hx
theorem Gr.Zi (g:Gr f N P A) (i:Int):Zi f i=[⟨A i,A (i+1)-1⟩]:=by
 have hp:=g.pos
 rw [Z2N (g.not_odd i) (by rw [g.count];omega)]
 unfold Z25 Z4k
 rw [g.count,g.per]
 have h0:=Y06 i (show (N:Int)≠0 by omega)
 have h1:=Y0d i (show (0:Int)<N by omega)
 have hc:=g.core (i % N).toNat (by omega)
 rw [Yw,hc,show ((i % N).toNat:Int)=i % N by omega]
 have e:=Int.emod_add_mul_ediv i N
 have e1:=g.turnZ (i % N) (i / N)
 have e2:=g.turnZ (i % N+1) (i / N)
 rw [e] at e1
 rw [show i % N+1+N*(i / N)=i+1 by omega] at e2
 have e3:i / N*P=P*(i / N):=Int.mul_comm _ _
 simp only [Y0J,Y09,List.map_nil,Z17,e3,e1,e2]
 congr 2
 omega
theorem Gr.mem (g:Gr f N P A) {l:List Span} (hl:l∈f.Core):∃ i:Nat,i<N/\l=[⟨A i,A (i+1)-1⟩]:=by
 obtain ⟨i,hi⟩:=YK hl
 have hlt:=(List.getElem?_eq_some_iff.1 hi).1
 rw [g.len] at hlt
 rw [g.core i hlt] at hi
 exact ⟨i,hlt,(Option.some.inj hi).symm⟩
theorem Gr.tick (g:Gr f N P A) {i:Int} (h0 : -2000000000<=i) (h1:i<=2000000000):ZA (A i)/\ZA (A (i+1)-1):=by
 have a:=g.far i 2000000001 (by omega) (by omega) (by omega)
 have b:=g.far (i+1) 2000000001 (by omega) (by omega) (by omega)
 unfold ZA
 omega
theorem Gr.rightL (g:Gr f N P A) {i:Int} (h0 : -2000000000<=i) (h1:i<=2000000000):RightL [⟨A i,A (i+1)-1⟩]:=by
 have ht:=g.tick h0 h1
 have hu:=g.up i
 refine ⟨λk s hk=>?_,λk s t hk hk1=>?_⟩
 ·cases k with
  | zero=>cases hk;exact ⟨ht.1,ht.2,by simp only;omega⟩
  | succ k=>simp at hk
 ·simp at hk1
theorem Gr.shape (g:Gr f N P A):Shape f:=by
 have hp:=g.pos
 have hP:=g.posP
 refine ⟨by rw [g.count,g.len],by rw [g.count,g.per];omega,by rw [g.per];omega,λl hl=>?_,λx hx=>?_,λj k a b _ h=>?_⟩
 ·obtain ⟨i,hi,rfl⟩:=g.mem hl;exact g.rightL (by omega) (by omega)
 ·rw [g.odd] at hx;cases hx
 ·rw [g.odd] at h;simp at h
theorem Gr.lim (g:Gr f N P A):Lim f:=by
 have hp:=g.pos
 have hP:=g.posP
 refine ⟨by rw [g.len];unfold reachBytes;omega,λl hl=>?_,by rw [g.odd];simp,λx hx=>?_,by rw [g.count];unfold In64;omega,by rw [g.per];unfold In64;omega⟩
 ·obtain ⟨i,hi,rfl⟩:=g.mem hl;exact ⟨by unfold Len reachBytes;simp,(g.rightL (by omega) (by omega)).sp64⟩
 ·rw [g.odd] at hx;cases hx
theorem Gr.full (g:Gr f N P A):full f=f.Core:=by
 unfold Dn.full
 rw [List.filter_eq_self]
 intro l hl
 obtain ⟨i,hi,rfl⟩:=g.mem hl
 rfl
theorem Gr.right (g:Gr f N P A):RightF f:=by
 have hp:=g.pos
 refine ⟨g.shape,⟨λk a b ha hb=>?_,λa b ha hb=>?_⟩,λx hx=>?_⟩
 ·rw [g.full] at ha hb;have h1:=(List.getElem?_eq_some_iff.1 hb).1;rw [g.len] at h1;rw [g.core k (by omega)] at ha
  rw [g.core (k+1) h1] at hb;cases ha;cases hb;show A (k+1)-1<A ((k+1:Nat):Int);rw [show ((k+1:Nat):Int)=(k:Int)+1 by omega]
  omega
 ·rw [g.full] at ha hb;rw [Yy,g.len,g.core (N-1) (by omega)] at ha
  rw [List.head?_eq_getElem?,g.core 0 (by omega)] at hb
  cases ha;cases hb;have:=g.turn 0;show A (((N-1:Nat):Int)+1)-1<A ((0:Nat):Int)+f.Period;rw [g.per,show ((N-1:Nat):Int)+1=0+N by omega,this]
  show A 0+P-1<A 0+P;omega
 ·rw [g.odd] at hx;cases hx
theorem Gr.short (g:Gr f N P A):¬ LongF f:=by
 have hp:=g.pos
 have h:∀ l:List (List Span),(∀ x∈l,x.length=1)->(l.map List.length).sum=l.length:=by
  intro l
  induction l with
  | nil=>intro _;rfl
  | cons x l ih=>
   intro hx;rw [Y09,List.sum_cons,ih λy hy=>hx y (YR _ hy),hx x YV,YX];omega
 unfold LongF sizeF
 rw [g.odd,g.len,h f.Core λx hx=>by obtain ⟨i,_,rfl⟩:=g.mem hx;rfl,g.len]
 simp
 omega
theorem Gr.isRight (g:Gr f N P A):Zy f=some 0:=by
 rcases gran_Right_eq g.lim with ⟨h,_⟩|⟨_,_,h⟩|⟨_,h,_⟩
 ·exact absurd h g.short
 ·exact h
 ·exact absurd g.right h
theorem Gr.get (g:Gr f N P A) {i:Int} (h0 : -2000000000<=i) (h1:i<=2000000000):Z0T f i=some ([⟨A i,A (i+1)-1⟩],0):=by
 rw [Z4B g.lim g.shape (show In64 i by unfold In64;omega),if_pos,g.Zi]
 refine ⟨by unfold ZA;omega,λs hs=>?_⟩
 rw [g.Zi] at hs
 cases List.mem_singleton.1 hs
 exact g.tick h0 h1
end
end Go.Dn

namespace Go.Dn
open Go
theorem name_at:∀ j:Nat,j<6->at? Z9 (j:Int)=some (Z9.getD j ByteArray.empty)
 | 0,_|1,_|2,_|3,_|4,_|5,_=>rfl
 | j+6,h=>by omega
theorem none_at:∀ j:Nat,j<6->([none,none,none,none,none,none] : List (Option Form))[j]? = some none
 | 0,_|1,_|2,_|3,_|4,_|5,_=>rfl
 | j+6,h=>by omega
theorem Z6Z (which index:Int) (ow:okI .u8 which) (oi:okI .i32 index):Z0N which index=some true:=by
 rw [okI_u8] at ow
 rw [okI_i32] at oi
 obtain ⟨j,hj,ej⟩ : ∃ j:Nat,j<6/\which % 6=j:=⟨(which % 6).toNat,by omega,by omega⟩
 obtain ⟨i,hi,h0,h1⟩ : ∃ i,index.tdiv 2=i/\-1073741825<=i/\i<=1073741825:=⟨_,rfl,by rcases tdm index 2 (by omega) with h|h|h<;>omega,by rcases tdm index 2 (by omega) with h|h|h<;>omega⟩
 have g:=made_gr hj
 have hp:=g.pos
 have hP:=g.posP
 have hn:(Z9.length:Int)=6:=rfl
 unfold Z0N
 rw [hn,beq_f (by omega),nz?_ok (by omega),ZB (x:=which) (by omega),ZB (x:=index) (by omega),Y0B (by omega),ej,hi,ZB (x:=i) (by omega),name_at j hj]
 simp only [cond_false,Y3]
 rw [cal_new (j:=j) hj (beq_self_eq_true _) rfl (none_at j hj) (by omega)]
 simp only [Y3]
 have hf:Form.mk (Z0s j).Period (Z0s j).Count (Z0s j).Core (Z0s j).Odd=Z0s j:=rfl
 rw [bne_f rfl,hf,g.isRight]
 simp only [cond_false,Y3]
 rw [bne_f rfl,g.odd,g.count,Zc (show ¬ (NOf j:Int)<1 by omega),bne_f (show (([] : List Granule).length:Int)=0 from rfl)]
 simp only [Bool.or_self,cond_false]
 rw [ZB (x:=i+1) (by omega),ZB (x:=i+(NOf j:Int)) (by omega),g.get (i:=i) (by omega) (by omega),g.get (i:=i+1) (by omega) (by omega),g.get (i:=i+(NOf j:Int)) (by omega) (by omega)]
 simp only [Y3]
 rw [bne_f rfl,bne_f (show (([(⟨AOf j i,AOf j (i+1)-1⟩ : Span)] : List Span).length:Int)=1 from rfl),bne_f (show (([(⟨AOf j (i+1),AOf j (i+1+1)-1⟩ : Span)] : List Span).length:Int)=1 from rfl),bne_f (show (([(⟨AOf j (i+NOf j),AOf j (i+NOf j+1)-1⟩ : Span)] : List Span).length:Int)=1 from rfl)]
 simp only [Bool.or_self,cond_false]
 have a0:∀ s:Span,at? [s] 0=some s:=λs=>rfl
 have b1:=(g.tick (i:=i) (by omega) (by omega))
 unfold ZA at b1
 have u:=g.up i
 have t1:=g.turn i
 have t2:=g.turn (i+1)
 rw [show i+1+(NOf j:Int)=i+NOf j+1 by omega] at t2
 simp only [a0,Y3]
 rw [ZB (x:=AOf j (i+1)-1+1) (by omega),beq_t (show AOf j (i+1)-1+1=AOf j (i+1) by omega)]
 simp only [cond_true,Y3]
 rw [ZW (show AOf j i<=AOf j (i+1)-1 by omega),g.per,ZB (x:=AOf j i+POf j) (by omega),beq_t (show AOf j (i+NOf j)=AOf j i+POf j from t1)]
 simp only [cond_true,Y3]
 rw [ZB (x:=AOf j (i+1)-1+POf j) (by omega),beq_t (show AOf j (i+NOf j+1)-1=AOf j (i+1)-1+POf j by omega)]
 rfl
end Go.Dn
