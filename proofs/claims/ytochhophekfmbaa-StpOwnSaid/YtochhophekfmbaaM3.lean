/- Part 3 of what the row stands on. -/
import Derived.Test.YtochhophekfmbaaM2
set_option linter.unusedVariables false
set_option linter.unusedSimpArgs false
namespace Go.Dn
open Go Go.Proofs
set_option maxRecDepth 100000
set_option maxHeartbeats 4000000
abbrev vl {α:Type} (c:α->List FV) (x:List α):PV:=.v (.sl (x.map c))
abbrev vi (x:Int):PV:=.v (.int .i64 x)
abbrev vu (x:Int):PV:=.v (.int .u64 x)
abbrev vb (x:Bool):PV:=.v (.bool x)
section
theorem Ops.wt {X:Ctx} {n:Nat} {dr:Bool} {ops:Array Oper} {base i:Nat} {l:List Oper} {e:Env} {G:Heap} {K:Env->Heap->Prop} {op:Op} {t:TypeId} {p:String} {af:Array Edge} {j:Nat} {g:Tmp} {w:Bool} {dst:Option Tmp} (hg:(ops[j]?).bind (·.dst)=some g) (he:e g = .v (.bool w)) (hk:Ops X n dr ops base i (⟨dst,op,t,p,af,none⟩::l) e G K):Ops X n dr ops base i (⟨dst,op,t,p,af,some (j,w)⟩::l) e G K:=.wanted hg he hk
variable {X:Ctx} {n:Nat} {dr:Bool} {ops:Array Oper} {base i:Nat} {l:List Oper} {e:Env} {G:Heap} {K:Env->Heap->Prop} {d:Nat} {t t1 t2:TypeId} {p:String} {af:Array Edge} {x y:Operand} {lo hi:Nat} {L:List Res}
theorem Ops.mv (v:PV) (hx:Z0 X e x=some v) (hd:Nat.blt d n=true) (hk:Ops X n dr ops base (i+1) l (set e d v) G K):Ops X n dr ops base i (⟨some d,.move x,t,p,af,none⟩::l) e G K:=.move hx hd hk
theorem Ops.av (v:PV) (hx:Z0 X e x=some v) (hd:Nat.blt d n=true) (hk:Ops X n dr ops base (i+1) l (set e d v) G K):Ops X n dr ops base i (⟨some d,.assign x,t,p,af,none⟩::l) e G K:=.assign hx hd hk
theorem Ops.it {op:BinOp} {k:IntKind} (m m':Int) (r:FV) (hx:Z0 X e x=some (.v (.int k m))) (hy:Z0 X e y=some (.v (.int k m'))) (hop:(op != .shl&&op != .shr)=true) (hr:Z3n op k m m'=some r) (hd:Nat.blt d n=true) (hk:Ops X n dr ops base (i+1) l (set e d (.v r)) G K):Ops X n dr ops base i (⟨some d,.binOp op t1 x y t2,t,p,af,none⟩::l) e G K:=.int hx hy hop hr hd hk
theorem Ops.xt (v:PV) {vs:List PV} {j:Nat} (hx:Z0 X e x=some (.tup vs)) (hj:vs[j]? = some v) (hd:Nat.blt d n=true) (hk:Ops X n dr ops base (i+1) l (set e d v) G K):Ops X n dr ops base i (⟨some d,.extract x j,t,p,af,none⟩::l) e G K:=.extract hx hj hd hk
theorem Ops.ld (v:PV) {id ver off:Nat} {te:TypeId} {cells:List PV} (H:Has G lo hi L) (k:Nat) (hk:L[k]? = some (.blk id te cells)) (hv:cells.length=ver) (hx:Z0 X e x=some (.ptr id ver off)) (hg:tagg X.P t1=some false) (hc:cells[off]? = some v) (ha:dr=true->Seen ops base i id false) (hd:Nat.blt d n=true) (hk':Ops X n dr ops base (i+1) l (set e d v) G K):Ops X n dr ops base i (⟨some d,.load t1 x,t,p,af,none⟩::l) e G K:=.loadH H k hk hv hx hg hc ha hd hk'
end
theorem sk {α:Type} {a b:α} (h:some a=some b):b=a:=(Option.some.inj h).symm
theorem V {α:Sort _} {a:α}:a=a:=rfl
theorem U:True:=trivial
theorem Has.wk {G:Heap} {lo hi:Nat} {L:List Res} (H:Has G lo hi L) {lo':Nat} (h:lo<=lo'):Has G lo' hi L:=H.weak h (Y9 _)
theorem sj {α:Type} {a b:α} (h:some a=some b):a=b:=Option.some.inj h
theorem Z4e {x':Int} {y:Int} {r:Int×Int} (h:Z08 x' y=r):Fn CX 49 [(vu x'),(vu y)] (.tup [(vu r.1),(vu r.2)]):=by
 refine Fn.go Try.func49 V λG H=>?_;unfold Z08 at h;refine .tR 2 V H λb1 G H=>(.aV V (.aV V (.na H λH=>(.tR 3 V H λb2 G H=>(.mV V (.iV V (.aV V (.na H λH=>?_))))))));refine .tR 3 V H λb3 G H=>(.mV V (.shr (m:=x') (m':=32) V V (by decide) V (.aV V (.na H λH=>(.tR 3 V H λb4 G H=>(.mV V (.iV V (.aV V ?_))))))));refine .na H λH=>(.tR 3 V H λb5 G H=>(.mV V (.shr (m:=y) (m':=32) V V (by decide) V (.aV V (.na H λH=>(.tR 4 V H λb6 G H=>(.mV V (.mV V ?_))))))));refine .iV V (.aV V (.na H λH=>(.tR 7 V H λb7 G H=>(.mV V (.mV V (.iV V (.mV V (.shr (m:=(IntKind.u64.wrap ((iAnd .u64 x' 4294967295)*(iAnd .u64 y 4294967295)))) (m':=32) V V (by decide) V ?_))))))));refine .iV V (.aV V (.na H λH=>(.tR 3 V H λb8 G H=>(.mV V (.iV V (.aV V (.na H λH=>(.tR 3 V H λb9 G H=>?_))))))));refine .mV V (.shr (m:=(IntKind.u64.wrap ((IntKind.u64.wrap ((x'.fdiv (2 ^ 32))*(iAnd .u64 y 4294967295)))+((IntKind.u64.wrap ((iAnd .u64 x' 4294967295)*(iAnd .u64 y 4294967295))).fdiv (2 ^ 32))))) (m':=32) V V (by decide) V (.aV V (.na H λH=>(.tR 6 V H λb10 G H=>(.mV V (.mV V (.mV V (.iV V ?_))))))));refine .iV V (.aV V (.na H λH=>(.tR 9 V H λb11 G H=>(.mV V (.mV V (.iV V (.mV V (.iV V ?_))))))));refine .mV V (.shr (m:=(IntKind.u64.wrap ((iAnd .u64 (IntKind.u64.wrap ((IntKind.u64.wrap ((x'.fdiv (2 ^ 32))*(iAnd .u64 y 4294967295)))+((IntKind.u64.wrap ((iAnd .u64 x' 4294967295)*(iAnd .u64 y 4294967295))).fdiv (2 ^ 32)))) 4294967295)+(IntKind.u64.wrap ((iAnd .u64 x' 4294967295)*(y.fdiv (2 ^ 32))))))) (m':=32) V V (by decide) V (.iV V (.aV V (.na H λH=>(.tR 4 V H λb12 G H=>(.mV V (.mV V (.iV V ?_))))))))
 refine .aV V (.na H λH=>(.ret ?_));subst h;exact Ends.eR V
theorem Z5P {x':Int} {y:Int} {r:Int×Int} (h:ZE x' y=r):Fn CX 75 [(vu x'),(vu y)] (.tup [(vu r.1),(vu r.2)]):=by
 refine Fn.go Try.func75 V λG H=>?_;unfold ZE at h;refine .tR 2 V H λb1 G H=>(.aV V (.aV V (.na H λH=>(.then (.no V (.skip (.tR 8 V H λb2 G H=>(.mV V ?_))))))));refine .mV V (.cV (Z4e V) V (.m1 (.tup [(vu (Z08 x' y).1),(vu (Z08 x' y).2)]) V V (.xV V (.xV V (.aV V (.aV V (.na H λH=>(.tR 4 V H λb3 G H=>?_))))))));refine .mV V (.mV V (.aV V (.aV V (.na H λH=>(.ret ?_)))));subst h;exact Ends.eR V
theorem Z27 {x':(List Bound)} {count:Int} {r:(List Bound)} (h:Z9 x' count=some r):FnO CX 63 [(vl Bound.cs x'),(vi count)] (λq A=>∃ (w1:PV),w1=q/\A=[.sl w1 32 2 (r.map Bound.cs) true]):=by
 refine FnO.of Try.func63 V V V V V V ?_;intro G T H;unfold Z9 at h;refine .tR 1 V H λb1 G H=>(.a1 .nils V V (.na H λH=>(.then (.tR 2 V H λb2 G H=>(.mV V (.iV V (.na H λH=>?_)))))));refine .wh h V ?_ ?_<;>intro h
 ·cases h
 refine .skip (.tR 11 V H λb3 G H=>(.mV V (.nV V (.conv (m:=(x'.length:Int)) V V V V (.mV V (.conv (m:=count) V V V V (.cV (Z5P V) V (.m1 (.tup [(vu (ZE (IntKind.u64.wrap (x'.length:Int)) (IntKind.u64.wrap count)).1),(vu (ZE (IntKind.u64.wrap (x'.length:Int)) (IntKind.u64.wrap count)).2)]) V V ?_))))))));refine .xV V (.xV V (.aV V (.aV V (.na H λH=>(.then (.tR 6 V H λb4 G H=>(.mV V (.iV V ?_))))))));refine .mV V ?_;refine .md H 3 [(26,(vb ((decide (((ZE (IntKind.u64.wrap (x'.length:Int)) (IntKind.u64.wrap count)).1)>0))||(decide (((ZE (IntKind.u64.wrap (x'.length:Int)) (IntKind.u64.wrap count)).2)>9223372036854775807))))),(0,(vl Bound.cs x')),(6,(vu (ZE (IntKind.u64.wrap (x'.length:Int)) (IntKind.u64.wrap count)).2))] (T) rfl ?_ λe G H=>?_
 ·refine .split V V ?_ ?_<;>intro hc2
  ·refine .ps 2 V (.kT V (.nil ?_));exact ⟨⟨or_T hc2,V,V,U⟩,H.wk (by omega)⟩
  ·refine .mV V (.iV V (.kF V (.nil ?_)));exact ⟨⟨or_F hc2,V,V,U⟩,H.wk (by omega)⟩
 refine .na H λH=>?_;refine .wh h V ?_ ?_<;>intro h
 ·cases h
 refine .skip (.tR 4 V H λb5 G H=>(.mV V (.conv (m:=(ZE (IntKind.u64.wrap (x'.length:Int)) (IntKind.u64.wrap count)).2) V V V V ?_)));obtain ⟨x1,q1,h⟩:=bs h;refine .makeS (zs:=[(.int .i8 0),(.int .i64 0)]) (cc:=Bound.cs) H (by omega) (by omega) V V q1 V V V V V V V λG H=>(.aB V (.na H λH=>(.tR 4 V H λb6 G H=>(.mB V (.mV V (.copyS (c:=Bound.cs) (w:=(vl Bound.cs x')) (xs:=x1) (ys:=x') H 0 V V V V (.m (λ_=>V)) V V nofun V λG H=>(.aV V (.na H λH=>?_))))))));refine .then (.inBlock ?_);refine .lp h (λs1=>[(7,(.buf (b5+2) ((w64 ((ZE (IntKind.u64.wrap (x'.length:Int)) (IntKind.u64.wrap count)).2))).toNat 2)),(8,(vi s1.1))]) (λs1=>(.sl (.buf (b5+2) ((w64 ((ZE (IntKind.u64.wrap (x'.length:Int)) (IntKind.u64.wrap count)).2))).toNat 2) 32 2 (s1.2.map Bound.cs) true::T)) (.exit 0) (λy1=>[(7,(.buf (b5+2) ((w64 ((ZE (IntKind.u64.wrap (x'.length:Int)) (IntKind.u64.wrap count)).2))).toNat 2))]) (λy1=>(.sl (.buf (b5+2) ((w64 ((ZE (IntKind.u64.wrap (x'.length:Int)) (IntKind.u64.wrap count)).2))).toNat 2) 32 2 (y1.map Bound.cs) true::T)) (EI V) H (λs1 e G H z h=>?_) λy1 e G H h=>?_
 ·unfold Z9.s0 at h;refine .then (.tR 4 V H λb7 G H=>(.mV V (.mB V (.lenSt (c:=Bound.cs) (xs:=s1.2) H 0 V V V nofun V (.iV V (.na H λH=>?_))))));refine .wh h V ?_ ?_<;>intro h
  ·refine .skip (.inBlock (.Z0d 10 V (by kernel_rfl) H λb8 G H B8=>(.mV V (.mB V (.mV V ?_)))));obtain ⟨u1,q2,h⟩:=bs h;refine .viewA V V (cutA q2).1 (cutA q2).2 V V V V (.mB V (.mV V ?_));obtain ⟨u2,q3,h⟩:=bs h;refine .viewB V V (cutB q3).1 (cutB q3).2 V V V V (.copyW (c:=Bound.cs) (xs:=s1.2) (a:=(s1.1).toNat) (m:=((w64 ((ZE (IntKind.u64.wrap (x'.length:Int)) (IntKind.u64.wrap count)).2))).toNat) H 0 V V V (win_le q3) V V (λ_=>.inl ⟨B8 0 _ V _ V,(λ_=>by kernel_rfl),nofun⟩) V λG H=>(.iV V (.aV V (.na H λH=>?_))));obtain rfl:=sj h;exact ⟨V,EI V,H⟩
  refine .exit ?_;obtain rfl:=sj h;exact ⟨nofun,⟨V,EI V,H⟩⟩
 refine .tR 2 V H λb9 G H=>(.mB V (.aB V (.na H λH=>(.ret ?_))));obtain rfl:=sj h;exact ⟨.inr V,_,Z0C H (.tmp (v:=(.buf (b5+2) ((w64 ((ZE (IntKind.u64.wrap (x'.length:Int)) (IntKind.u64.wrap count)).2))).toNat 2)) V .nil),_,⟨(.buf (b5+2) ((w64 ((ZE (IntKind.u64.wrap (x'.length:Int)) (IntKind.u64.wrap count)).2))).toNat 2),V,V⟩,H⟩
theorem Z61 {n:Int} {r:(List (List Bound))×Int} (h:Z0n n=some r):Fn CX 36 [(vi n)] (.tup [(vl (cL Bound.cs) r.1),(vi r.2)]):=by
 refine Fn.go Try.func36 V λG H=>?_;unfold Z0n at h;refine .tR 2 V H λb1 G H=>(.a1 .nils V V (.aV V (.na H λH=>(.then (.tR 6 V H λb2 G H=>(.mV V (.iV V (.mV V ?_))))))));refine .md H 3 [(11,(vb ((decide (n<0))||(decide (n>24))))),(0,(vi n))] [] rfl ?_ λe G H=>?_
 ·refine .split V V ?_ ?_<;>intro hc1
  ·refine .ps 2 V (.kT V (.nil ?_));exact ⟨⟨or_T hc1,V,U⟩,H.wk (by omega)⟩
  ·refine .mV V (.iV V (.kF V (.nil ?_)));exact ⟨⟨or_F hc1,V,U⟩,H.wk (by omega)⟩
 refine .na H λH=>?_;refine .wh h V ?_ ?_<;>intro h
 ·refine .tR 2 V H λb3 G H=>(.a1 .nils V V (.aV V (.na H λH=>(.ret ?_))));obtain rfl:=sj h;exact (Ends.H (xs:=[.nils,(vi 2)]) (.inr V) H (.tmp (v:=.nils) V (.tmp (v:=(vi 2)) V .nil)) (.two (.cons (.c .n) (.cons (.c (.v _)) .nil))))
 refine .skip (.tR 3 V H λb4 G H=>(.mV V ?_));obtain ⟨x1,q1,h⟩:=bs h;obtain ⟨hn1,hr1,hx1⟩:=new?_some q1;refine .makeM H (by omega) (by omega) V V hn1 hr1 V V V V V V λG H=>?_;have hMs1:(List.replicate (n).toNat PV.nils).length=x1.length:=by rw [hx1,Y06,Y06]
 have hNs1:(List.replicate (n).toNat PV.nils).length=(n).toNat:=Y06;replace H:=Has.nilFam (c:=Bound.cs) (rt:=32) (sz:=2) (T:=[]) [.blk (b4+1) 43 (List.replicate (n).toNat PV.nils)] H (n).toNat;rw [<- hx1] at H;replace H:Has G _ _ (.blk (b4+1) 43 (List.replicate (n).toNat PV.nils)::(famL 32 2 Bound.cs (List.replicate (n).toNat PV.nils) x1++[])):=H;refine .aB V (.na H λH=>(.then (.tR 2 V H λb5 G H=>(.mV V (.mV V (.na H λH=>(.inBlock ?_)))))));obtain ⟨y1,hj1,h⟩:=bs h;obtain ⟨n1,hj1⟩:=ZV.1 hj1;refine .mono (Runs.loopO hj1 (λs1 e G=>∃ (ids3:List PV),ids3.length=s1.2.length/\ids3.length=(n).toNat/\ZA e [(0,(vi n)),(4,(.buf (b4+1) ((n).toNat) 1)),(14,(vi n)),(15,(vi s1.1))]/\Hs G (.blk (b4+1) 43 ids3::(famL 32 2 Bound.cs ids3 s1.2++[]))) (λy1 x e G=>∃ (ids4:List PV),ids4.length=y1.length/\ids4.length=(n).toNat/\x = .exit 0/\ZA e [(4,(.buf (b4+1) ((n).toNat) 1))]/\Hs G (.blk (b4+1) 43 ids4::(famL 32 2 Bound.cs ids4 y1++[]))) ⟨(List.replicate (n).toNat PV.nils),hMs1,hNs1,EI V,H⟩ ?_) ?_
 ·intro s1 e G hI z h;obtain ⟨ids3,hMids3,hNids3,he,H⟩:=hI;obtain ⟨e,rfl⟩:=he.ex;unfold Z0n.s0 at h;refine .tR 1 V H λb6 G H=>(.iV V (.na H λH=>(.then ?_)));refine .wh h V ?_ ?_<;>intro h
  ·refine .skip (.then (.inBlock (.tR 2 V H λb7 G H=>(.mV V (.aV V (.na H λH=>(.tR 8 V H λb8 G H=>(.mB V ?_))))))));refine .mV V (.bV [(.v (.int .i8 1)),(vi 0)] V (.Z2B (sz:=2) ([(Bound.mk 1 0)].map Bound.cs) H (by omega) (by omega) V V V V V V V V V λG H=>(.mV V ?_)));obtain ⟨x2,q2,h⟩:=bs h;refine .callFOX (xs:=[(.buf (b8+3) 1 2),(vi n)]) (ys:=[(vl Bound.cs [(Bound.mk 1 0)]),(vi n)]) H rfl (.cons (.c (.s 0 rfl)) (.cons (.c (.v _)) .nil)) (Z27 q2) rfl rfl rfl rfl nofun rfl ?_;rintro _ _ G ⟨w1,rfl,rfl⟩ H;obtain ⟨x3,q3,h⟩:=bs h;obtain ⟨v1,hv1,hr2⟩:=Z0I (rt:=32) (sz:=2) (c:=Bound.cs) hMids3 q3;refine .Zt H 2 V hNids3 V V (at?_nn q3) (hNids3▸Z03 hv1) V V nofun V ?_;have hw1:=Z03 hv1;refine .Z4L (v:=w1) (ys:=[w1]) (cells':=(ids3.set (s1.1).toNat w1)) H 2 V hNids3 V V (H.slCells (k:=0) V) V V (Nat.ble_eq_true_of_le hw1) (Z4c hw1) nofun λG H=>?_;have hMs2:(ids3.set (s1.1).toNat w1).length=(s1.2.set (s1.1).toNat x2).length:=by rw [YQ,YQ];exact hMids3
   have hNs2:(ids3.set (s1.1).toNat w1).length=(n).toNat:=by rw [YQ];exact hNids3
   replace H:Has G _ _ (.sl (.buf (b8+3) 1 2) 32 2 ([(Bound.mk 1 0)].map Bound.cs) false :: .blk (b4+1) 43 (ids3.set (s1.1).toNat w1)::(famL 32 2 Bound.cs (ids3.set (s1.1).toNat w1) (s1.2.set (s1.1).toNat x2)++[])):=H.rowPut (k:=2) rfl hMids3 hw1;refine .na H λH=>(.ZS 8 V H λb9 G H=>(.mB V (.mV V ?_)));obtain ⟨x4,q4,h⟩:=bs h;obtain ⟨v2,hv2,hr3⟩:=Z0I (rt:=32) (sz:=2) (c:=Bound.cs) hMs2 q4;refine .Zt H 1 V hNs2 V V (at?_nn q4) (hNs2▸Z03 hv2) V V nofun V ?_;refine .ld v2 H 1 V hNs2 V V hv2 nofun V (.mV V (.bV [(.v (.int .i8 0)),(vi 0)] V ?_));obtain ⟨x5,q5,h⟩:=bs h;refine .Z0K H (2+(s1.1).toNat) (ZO 2 V hr3) V V (at?_map q5) V V nofun V ?_;intro id1 hv3;refine .Z1s (id:=id1) (j:=0) (zs:=[(.int .i8 0),(.int .i64 0)]) (u:=x5) (u':=(Bound.mk 0 0)) H (2+(s1.1).toNat) (ZO 2 V hr3) hv3 (by simp) q5 V (by simp) V V V V V V nofun λG H=>?_;have hMs3:(ids3.set (s1.1).toNat w1).length=((s1.2.set (s1.1).toNat x2).set (s1.1).toNat (x4.set (s1.1).toNat (Bound.mk 0 0))).length:=hMs2.trans (YQ ..).symm;replace H:Has G _ _ (.sl (.buf (b8+3) 1 2) 32 2 ([(Bound.mk 1 0)].map Bound.cs) false :: .blk (b4+1) 43 (ids3.set (s1.1).toNat w1)::(famL 32 2 Bound.cs (ids3.set (s1.1).toNat w1) ((s1.2.set (s1.1).toNat x2).set (s1.1).toNat (x4.set (s1.1).toNat (Bound.mk 0 0)))++[])):=H.famSet (k:=2) rfl hMs2 hv2;refine .na H λH=>(.ZS 2 V H λb10 G H=>(.iV V (.mV V (.na H λH=>?_))))
   obtain rfl:=sj h;exact ⟨V,(ids3.set (s1.1).toNat w1),hMs3,hNs2,EI V,(H.erase 0)⟩
  refine .exit ?_;obtain rfl:=sj h;exact ⟨nofun,⟨ids3,hMids3,hNids3,V,EI V,H⟩⟩
 ·rintro x e G ⟨ids5,hMids5,hNids5,rfl,he,H⟩;obtain ⟨e,rfl⟩:=he.ex;refine .tR 3 V H λb11 G H=>(.mB V (.aB V (.aV V (.na H λH=>(.ret ?_)))));obtain rfl:=sj h;exact (Ends.M (c:=Bound.cs) (T:=[]) (.inr V) H 0 V V hMids5 hNids5 (Z0C H (.tmp (v:=(.buf (b4+1) ((n).toNat) 1)) V (.tmp (v:=(vi 0)) V .nil))) V V)
theorem Z1K {s:(List (List Bound))} {f:(List Bound)->Option Bool} {C:List Res} {cv0:PV} (hs0:cv0.one=true) (hp0:cv0.pure=true->C=[]) (hf0:∀ z0 y,f z0=some y->CloH CX cv0 [(vl Bound.cs z0)] (vb y) C) {r:Int} (h:Z6 s f=some r):FnH CX 76 [(vl (cL Bound.cs) s),cv0] (vi r) C:=by
 refine FnH.of Try.func76 V V V V (all_t V (all_t (Z3y hs0) all_nil)) V (λh=>hp0 (Z4s h 1 V)) ?_;intro G L hC H;unfold Z6 at h;refine .tR 1 V H λb1 G H=>(.aV V (.na H λH=>(.then (.tR 3 V H λb2 G H=>(.mV V (.nV V (.mV V (.na H λH=>?_))))))));refine .inBlock ?_;obtain ⟨y1,hj1,h⟩:=bs h;obtain ⟨n1,hj1⟩:=ZV.1 hj1;refine .mono (Runs.loopO hj1 (λs1 e G=>ZA e [(0,(vl (cL Bound.cs) s)),(1,cv0),(7,(vi (s.length:Int))),(8,(vi s1))]/\Hs G (L)) (λy1 x e G=>(∃ a1,y1=(.go a1)/\x = .exit 0/\ZA e []/\Hs G (L))\/(∃ r',y1=(.ret r')/\x = .ret/\EndsH CX Try.f76.results.toList (vi r') L x e G)) ⟨EI V,H⟩ ?_) ?_
 ·intro s1 e G hI z h;obtain ⟨he,H⟩:=hI;obtain ⟨e,rfl⟩:=he.ex;unfold Z6.s0 at h;refine .tR 1 V H λb3 G H=>(.iV V (.na H λH=>(.then ?_)));refine .wh h V ?_ ?_<;>intro h
  ·refine .skip (.then (.inBlock (.tR 2 V H λb4 G H=>(.mV V (.aV V (.na H λH=>(.tR 6 V H λb5 G H=>(.m1 cv0 V V ?_))))))));refine .mV V (.mV V ?_);obtain ⟨x1,q1,h⟩:=bs h;refine .jV q1 V (.pV V ?_);obtain ⟨x2,q2,h⟩:=bs h;refine .callV (cv:=cv0) (ys:=[(vl Bound.cs x1)]) (r:=(vb x2)) H V V (hf0 x1 _ q2) hC nofun V λG H=>(.na H λH=>?_);refine .wh h V ?_ ?_<;>intro h
   ·refine .tR 2 V H λb6 G H=>(.mV V (.aV V (.na H λH=>(.ret ?_))));obtain rfl:=sj h;exact ⟨nofun,(.inr ⟨_,V,V,(EndsH.H (xs:=[(vi s1)]) (.inr V) H (.tmp (v:=(vi s1)) V .nil) (.one (.c (.v _))) 0 V)⟩)⟩
   refine .skip (.ZS 2 V H λb7 G H=>(.iV V (.mV V (.na H λH=>?_))));obtain rfl:=sj h;exact ⟨V,EI V,H⟩
  refine .exit ?_;obtain rfl:=sj h;exact ⟨nofun,(.inl ⟨_,V,V,U,H⟩)⟩
 ·rintro x e G (⟨a2,rfl,rfl,he,H⟩|⟨r',rfl,rfl,hE⟩)
  ·replace h:=jgo h;obtain ⟨e,rfl⟩:=he.ex;refine .tR 1 V H λb8 G H=>(.aV V (.na H λH=>(.ret ?_)));obtain rfl:=sj h;exact (EndsH.H (xs:=[(vi (-1))]) (.inr V) H (.tmp (v:=(vi (-1))) V .nil) (.one (.c (.v _))) 0 V)
  ·replace h:=jret h;obtain rfl:=sj h;exact hE
theorem Z14 {s:(List (List Bound))} {f:(List Bound)->Option Bool} {C:List Res} {cv0:PV} (hs0:cv0.one=true) (hp0:cv0.pure=true->C=[]) (hf0:∀ z0 y,f z0=some y->CloH CX cv0 [(vl Bound.cs z0)] (vb y) C) {r:Bool} (h:ZH s f=some r):FnH CX 66 [(vl (cL Bound.cs) s),cv0] (vb r) C:=by
 refine FnH.of Try.func66 V V V V (all_t V (all_t (Z3y hs0) all_nil)) V (λh=>hp0 (Z4s h 1 V)) ?_;intro G L hC H;unfold ZH at h;refine .tR 1 V H λb1 G H=>(.aV V (.na H λH=>(.tR 5 V H λb2 G H=>(.mV V (.m1 cv0 V V ?_)))));obtain ⟨x1,q1,h⟩:=bs h;refine .callH (ys:=[(vl (cL Bound.cs) s),cv0]) (r:=(vi x1)) H V (Z1K (C:=C) hs0 hp0 hf0 q1) hC nofun V λG H=>(.iV V (.aV V (.na H λH=>(.ret ?_))));obtain rfl:=sj h;exact (EndsH.H (xs:=[(vb (decide (x1>=0)))]) (.inr V) H (.tmp (v:=(vb (decide (x1>=0)))) V .nil) (.one (.c (.v _))) 0 V)
theorem Z1S {s:(List Bound)} {f:Bound->Option Bool} {C:List Res} {cv0:PV} (hs0:cv0.one=true) (hp0:cv0.pure=true->C=[]) (hf0:∀ z0 y,f z0=some y->CloH CX cv0 [(.agg (vs (Bound.cs z0)))] (vb y) C) {r:Int} (h:Z8 s f=some r):FnH CX 77 [(vl Bound.cs s),cv0] (vi r) C:=by
 refine FnH.of Try.func77 V V V V (all_t V (all_t (Z3y hs0) all_nil)) V (λh=>hp0 (Z4s h 1 V)) ?_;intro G L hC H;unfold Z8 at h;refine .tR 1 V H λb1 G H=>(.aV V (.na H λH=>(.then (.tR 3 V H λb2 G H=>(.mV V (.nV V (.mV V (.na H λH=>?_))))))));refine .inBlock ?_;obtain ⟨y1,hj1,h⟩:=bs h;obtain ⟨n1,hj1⟩:=ZV.1 hj1;refine .mono (Runs.loopO hj1 (λs1 e G=>ZA e [(0,(vl Bound.cs s)),(1,cv0),(7,(vi (s.length:Int))),(8,(vi s1))]/\Hs G (L)) (λy1 x e G=>(∃ a1,y1=(.go a1)/\x = .exit 0/\ZA e []/\Hs G (L))\/(∃ r',y1=(.ret r')/\x = .ret/\EndsH CX Try.f77.results.toList (vi r') L x e G)) ⟨EI V,H⟩ ?_) ?_
 ·intro s1 e G hI z h;obtain ⟨he,H⟩:=hI;obtain ⟨e,rfl⟩:=he.ex;unfold Z8.s0 at h;refine .tR 1 V H λb3 G H=>(.iV V (.na H λH=>(.then ?_)));refine .wh h V ?_ ?_<;>intro h
  ·refine .skip (.then (.inBlock (.tR 2 V H λb4 G H=>(.mV V (.aV V (.na H λH=>(.tR 6 V H λb5 G H=>(.m1 cv0 V V ?_))))))));refine .mV V (.mV V ?_);obtain ⟨x1,q1,h⟩:=bs h;refine .jV q1 V (.qV [(.int .i8 x1.Inf),(.int .i64 x1.N)] V ?_);obtain ⟨x2,q2,h⟩:=bs h;refine .callV (cv:=cv0) (ys:=[(.agg (vs (Bound.cs x1)))]) (r:=(vb x2)) H V V (hf0 x1 _ q2) hC nofun V λG H=>(.na H λH=>?_);refine .wh h V ?_ ?_<;>intro h
   ·refine .tR 2 V H λb6 G H=>(.mV V (.aV V (.na H λH=>(.ret ?_))));obtain rfl:=sj h;exact ⟨nofun,(.inr ⟨_,V,V,(EndsH.H (xs:=[(vi s1)]) (.inr V) H (.tmp (v:=(vi s1)) V .nil) (.one (.c (.v _))) 0 V)⟩)⟩
   refine .skip (.ZS 2 V H λb7 G H=>(.iV V (.mV V (.na H λH=>?_))));obtain rfl:=sj h;exact ⟨V,EI V,H⟩
  refine .exit ?_;obtain rfl:=sj h;exact ⟨nofun,(.inl ⟨_,V,V,U,H⟩)⟩
 ·rintro x e G (⟨a2,rfl,rfl,he,H⟩|⟨r',rfl,rfl,hE⟩)
  ·replace h:=jgo h;obtain ⟨e,rfl⟩:=he.ex;refine .tR 1 V H λb8 G H=>(.aV V (.na H λH=>(.ret ?_)));obtain rfl:=sj h;exact (EndsH.H (xs:=[(vi (-1))]) (.inr V) H (.tmp (v:=(vi (-1))) V .nil) (.one (.c (.v _))) 0 V)
  ·replace h:=jret h;obtain rfl:=sj h;exact hE
theorem Z1C {s:(List Bound)} {f:Bound->Option Bool} {C:List Res} {cv0:PV} (hs0:cv0.one=true) (hp0:cv0.pure=true->C=[]) (hf0:∀ z0 y,f z0=some y->CloH CX cv0 [(.agg (vs (Bound.cs z0)))] (vb y) C) {r:Bool} (h:ZM s f=some r):FnH CX 68 [(vl Bound.cs s),cv0] (vb r) C:=by
 refine FnH.of Try.func68 V V V V (all_t V (all_t (Z3y hs0) all_nil)) V (λh=>hp0 (Z4s h 1 V)) ?_;intro G L hC H;unfold ZM at h;refine .tR 1 V H λb1 G H=>(.aV V (.na H λH=>(.tR 5 V H λb2 G H=>(.mV V (.m1 cv0 V V ?_)))));obtain ⟨x1,q1,h⟩:=bs h;refine .callH (ys:=[(vl Bound.cs s),cv0]) (r:=(vi x1)) H V (Z1S (C:=C) hs0 hp0 hf0 q1) hC nofun V λG H=>(.iV V (.aV V (.na H λH=>(.ret ?_))));obtain rfl:=sj h;exact (EndsH.H (xs:=[(vb (decide (x1>=0)))]) (.inr V) H (.tmp (v:=(vb (decide (x1>=0)))) V .nil) (.one (.c (.v _))) 0 V)
theorem Z1A {a:Bound} {r:Bool} (h:ZW a=r):Fn CX 31 [(.agg (vs (Bound.cs a)))] (vb r):=by
 refine Fn.go Try.func31 V λG H=>?_;unfold ZW at h;refine .tR 2 V H λb1 G H=>(.bxc (cs:=[(.v (.int .i8 a.Inf)),(vi a.N)]) H V V V λG H=>(.aV V (.na H λH=>(.tR 19 V H λb2 G H=>(.fV H 0 V (.lV H 0 V (.iV V (.mV V ?_))))))));refine .md H 14 [(20,(vb ((a.Inf==0)||(((a.Inf==1)||(a.Inf==(-1)))&&(a.N==0)))))] [] rfl ?_ λe G H=>?_
 ·refine .split V V ?_ ?_<;>intro hc1
  ·refine .ps 13 V (.kT V (.nil ?_));exact ⟨⟨or_T hc1,U⟩,(H.erase 0).wk (by omega)⟩
  ·refine .fV H 0 V (.lV H 0 V (.iV V (.mV V ?_)));refine .md H 4 [(14,(vb ((a.Inf==1)||(a.Inf==(-1))))),(1,(.ptr (b1+0) 2 0)),(6,(vb false))] [.blk (b1+0) 32 [(.v (.int .i8 a.Inf)),(vi a.N)]] rfl ?_ λe G H=>?_
   ·refine .split V V ?_ ?_<;>intro hc2
    ·refine .ps 3 V (.kT V (.nil ?_));exact ⟨⟨or_T hc2,V,V,U⟩,H.wk (by omega)⟩
    ·refine .fV H 0 V (.lV H 0 V (.iV V (.kF V (.nil ?_))));exact ⟨⟨or_F hc2,V,V,U⟩,H.wk (by omega)⟩
   refine .mV V ?_;refine .md H 4 [(19,(vb (((a.Inf==1)||(a.Inf==(-1)))&&(a.N==0)))),(6,(vb false))] [] rfl ?_ λe G H=>?_
   ·refine .split V V ?_ ?_<;>intro hc3
    ·refine .fV H 0 V (.lV H 0 V (.iV V (.kT V (.nil ?_))));exact ⟨⟨Z0h hc3,V,U⟩,(H.erase 0).wk (by omega)⟩
    ·refine .ps 3 V (.kF V (.nil ?_));exact ⟨⟨Z0j hc3,V,U⟩,(H.erase 0).wk (by omega)⟩
   refine .kF V (.nil ?_);exact ⟨⟨or_F hc1,U⟩,H.wk (by omega)⟩
 refine .aV V (.na H λH=>(.ret ?_));subst h;exact Ends.eR V
theorem Z4Z {b:Bound} {r:Bool} (h:Z0o b=r):Fn CX 65 [(.agg (vs (Bound.cs b)))] (vb r):=by
 refine Fn.go Try.func65 V λG H=>?_;unfold Z0o at h;refine .tR 2 V H λb1 G H=>(.bxc (cs:=[(.v (.int .i8 b.Inf)),(vi b.N)]) H V V V λG H=>(.aV V (.na H λH=>(.tR 18 V H λb2 G H=>(.LV [(.v (.int .i8 b.Inf)),(vi b.N)] H 0 V (.cV (Z1A (V:ZW b=_)) V (.mV V ?_)))))));refine .md H 4 [(9,(vb ((ZW b)&&(decide (b.Inf>=0))))),(1,(.ptr (b1+0) 2 0))] [.blk (b1+0) 32 [(.v (.int .i8 b.Inf)),(vi b.N)]] V ?_ λe G H=>?_
 ·refine .split V V ?_ ?_<;>intro hc1
  ·refine .fV H 0 V (.lV H 0 V (.iV V (.kT V (.nil ?_))));exact ⟨⟨Z0h hc1,V,U⟩,H.wk (by omega)⟩
  ·refine .ps 3 V (.kF V (.nil ?_));exact ⟨⟨Z0j hc1,V,U⟩,H.wk (by omega)⟩
 refine .mV V ?_;refine .md H 4 [(14,(vb (((ZW b)&&(decide (b.Inf>=0)))&&(decide (b.N>=(-1125899906842624)))))),(1,(.ptr (b1+0) 2 0))] [.blk (b1+0) 32 [(.v (.int .i8 b.Inf)),(vi b.N)]] V ?_ λe G H=>?_
 ·refine .split V V ?_ ?_<;>intro hc2
  ·refine .fV H 0 V (.lV H 0 V (.iV V (.kT V (.nil ?_))));exact ⟨⟨Z0h hc2,V,U⟩,H.wk (by omega)⟩
  ·refine .ps 3 V (.kF V (.nil ?_));exact ⟨⟨Z0j hc2,V,U⟩,H.wk (by omega)⟩
 refine .mV V ?_;refine .md H 4 [(19,(vb ((((ZW b)&&(decide (b.Inf>=0)))&&(decide (b.N>=(-1125899906842624))))&&(decide (b.N<=1125899906842624)))))] [] V ?_ λe G H=>?_
 ·refine .split V V ?_ ?_<;>intro hc3
  ·refine .fV H 0 V (.lV H 0 V (.iV V (.kT V (.nil ?_))));exact ⟨⟨Z0h hc3,U⟩,(H.erase 0).wk (by omega)⟩
  ·refine .ps 3 V (.kF V (.nil ?_));exact ⟨⟨Z0j hc3,U⟩,(H.erase 0).wk (by omega)⟩
 refine .aV V (.na H λH=>(.ret ?_));subst h;exact Ends.eR V
theorem Z6R {b:Bound} {r:Bool} (h:Z24 b=r):Fn CX 64 [(.agg (vs (Bound.cs b)))] (vb r):=by
 refine Fn.go Try.func64 V λG H=>?_;unfold Z24 at h;refine .tR 2 V H λb1 G H=>(.bxc (cs:=[(.v (.int .i8 b.Inf)),(vi b.N)]) H V V V λG H=>(.aV V (.na H λH=>(.tR 4 V H λb2 G H=>(.LV [(.v (.int .i8 b.Inf)),(vi b.N)] H 0 V (.cV (Z4Z (V:Z0o b=_)) V (.tV V (.aV V ?_))))))));refine .na H λH=>(.ret ?_);subst h;exact Ends.eR V
theorem Z67 {row:(List Bound)} {p1':Int} {id0':Nat} {id1':Nat} {r:Bool} (h:Z1M row p1'=some r):FnH CX 67 [(vl Bound.cs row),(.ptr id0' 1 0),(.ptr id1' 1 0)] (vb r) [.blk id0' 3 [(vi p1')],.blk id1' 36 [(.v (.fn 64))]]:=by
 refine FnH.of Try.func67 V V V V V V (λh=>by have:=Z4s h 1 V;cases this) ?_;intro G L hC H;have hC0:=hC;obtain ⟨k0',hk0',hC⟩:=hC.inv;obtain ⟨k1',hk1',hC⟩:=hC.inv;unfold Z1M at h;refine .tR 1 V H λb1 G H=>(.aV V (.na H λH=>(.tR 10 V H λb2 G H=>(.mV V (.nV V (.ld (vi p1') H k0' hk0' V V V V nofun V (.iV V (.mV V ?_))))))));obtain ⟨y1,hj1,h⟩:=bs h;refine .md H 4 [(13,(vb y1))] (L) V ?_ λe G H=>?_
 ·refine .sp hj1 V ?_ ?_<;>intro h
  ·refine .ps 3 V (.kT V (.nil ?_));obtain rfl:=sj h;exact ⟨EI V,H.wk (by omega)⟩
  refine .mV V (.wt V V (.ld (.v (.fn 64)) H k1' hk1' V V V V nofun V (.wt V V ?_)));obtain ⟨x1,q1,h⟩:=bs h;refine .callH (ys:=[(vl Bound.cs row),(.v (.fn 64))]) (r:=(vb x1)) H V (Z1C (C:=[]) V (λ_=>V) (λz0 y hz=>(CloH.fn (Fn.toH (Z6R (Option.some.inj hz)) _))) q1) .nil nofun V λG H=>(.kF V (.nil ?_));obtain rfl:=sj h;exact ⟨EI V,H.wk (by omega)⟩
 refine .aV V (.na H λH=>(.ret ?_));obtain rfl:=sj h;exact (EndsH.H (xs:=[(vb y1)]) (.inr V) H (.tmp (v:=(vb y1)) V .nil) (.one (.c (.v _))) 0 V)
theorem Z2I {d:(List (List Bound))} {r:Bool} (h:Z0N d=some r):Fn CX 38 [(vl (cL Bound.cs) d)] (vb r):=by
 refine Fn.go Try.func38 V λG H=>?_;unfold Z0N at h;refine .tR 1 V H λb1 G H=>(.aV V (.na H λH=>(.tR 4 V H λb2 G H=>(.mV V (.nV V (.alc (cs:=[(vi 0)]) H V V λG H=>(.sV [(vi (d.length:Int))] H 0 V λG H=>(.na H λH=>?_))))))));refine .tR 2 V H λb3 G H=>(.alc (cs:=[(.v .nilf)]) H V V λG H=>(.sV [(.v (.fn 64))] H 0 V λG H=>(.na H λH=>(.tR 9 V H λb4 G H=>(.lV H 1 V (.iV V (.mV V ?_)))))));obtain ⟨y1,hj1,h⟩:=bs h;refine .md H 5 [(14,(vb y1))] [] V ?_ λe G H=>?_
 ·refine .sp hj1 V ?_ ?_<;>intro h
  ·refine .mV V (.wt V V (.makeClo (fs:=[]) (cs:=[(.ptr (b2+2) 1 0),(.ptr (b3+0) 1 0)]) V V V V (.wt V V ?_)));obtain ⟨x1,q1,h⟩:=bs h;refine .callH (ys:=[(vl (cL Bound.cs) d),(.clo 67 [] [(.ptr (b2+2) 1 0),(.ptr (b3+0) 1 0)])]) (r:=(vb x1)) H V (Z14 (C:=[.blk (b2+2) 3 [(vi (d.length:Int))],.blk (b3+0) 36 [(.v (.fn 64))]]) V (λh=>by simp [PV.pure] at h) (λz0 y hz=>(CloH.clo (Z67 hz))) q1) (.cons 1 V (.cons 0 V .nil)) nofun V λG H=>(.tV V (.kT V (.nil ?_)));obtain rfl:=sj h;exact ⟨EI V,((H.erase 1).erase 0).wk (by omega)⟩
  refine .ps 4 V (.kF V (.nil ?_));obtain rfl:=sj h;exact ⟨EI V,((H.erase 1).erase 0).wk (by omega)⟩
 refine .aV V (.na H λH=>(.ret ?_));obtain rfl:=sj h;exact Ends.eR V
theorem Z1p {s:(List (List Bound))} {r:(List (List Bound))} (h:Zh s=some r):FnO CX 78 [(vl (cL Bound.cs) s)] (λq A=>∃ (w2:PV),w2=q/\A=[.sl w2 43 1 (r.map (cL Bound.cs)) true]):=by
 refine FnO.of Try.func78 V V V V V V ?_;intro G T H;unfold Zh at h;refine .tR 1 V H λb1 G H=>(.a1 .nils V V (.na H λH=>(.then (.tR 2 V H λb2 G H=>(.mV V ?_)))));obtain ⟨u1,q1,h⟩:=bs h;refine .isNilV (c:=(cL Bound.cs)) q1 V V V V (.na H λH=>(.no V (.skip (.tR 4 V H λb3 G H=>(.Z2B (sz:=1) ([].map (cL Bound.cs)) H (by omega) (by omega) V V V V V V V V V λG H=>(.mV V ?_))))));obtain ⟨x1,q2,h⟩:=bs h;refine .Z5A (c:=(cL Bound.cs)) (w:=(vl (cL Bound.cs) s)) (xs:=[]) (ys:=s) H (by omega) (by omega) 0 V V V (.m (λ_=>V)) q2 V V V V V nofun V λG H=>(.aB V (.na H λH=>(.ret ?_)));obtain rfl:=sj h;exact ⟨.inr V,_,Z0C H (.tmp (v:=(.buf (b3+0) x1.length 1)) V .nil),_,⟨(.buf (b3+0) x1.length 1),V,V⟩,H⟩
theorem Z2C {s:(List Bound)} {r:(List Bound)} (h:Zo s=some r):FnO CX 79 [(vl Bound.cs s)] (λq A=>∃ (w2:PV),w2=q/\A=[.sl w2 32 2 (r.map Bound.cs) true]):=by
 refine FnO.of Try.func79 V V V V V V ?_;intro G T H;unfold Zo at h;refine .tR 1 V H λb1 G H=>(.a1 .nils V V (.na H λH=>(.then (.tR 2 V H λb2 G H=>(.mV V ?_)))));obtain ⟨u1,q1,h⟩:=bs h;refine .isNilV (c:=Bound.cs) q1 V V V V (.na H λH=>(.no V (.skip (.tR 4 V H λb3 G H=>(.Z2B (sz:=2) ([].map Bound.cs) H (by omega) (by omega) V V V V V V V V V λG H=>(.mV V ?_))))));obtain ⟨x1,q2,h⟩:=bs h;refine .Z5A (c:=Bound.cs) (w:=(vl Bound.cs s)) (xs:=[]) (ys:=s) H (by omega) (by omega) 0 V V V (.m (λ_=>V)) q2 V V V V V nofun V λG H=>(.aB V (.na H λH=>(.ret ?_)));obtain rfl:=sj h;exact ⟨.inr V,_,Z0C H (.tmp (v:=(.buf (b3+0) x1.length 2)) V .nil),_,⟨(.buf (b3+0) x1.length 2),V,V⟩,H⟩
theorem ownOK {d r:(List (List Bound))} (h:Z1H d=some r):(∃ u,some? d=some u)/\d.length*24<=room/\(∀ q∈d,(∃ u,some? q=some u)/\q.length*16<=room)/\r=d:=by
 unfold Z1H at h;have ne:∀ {α:Type} {l:List α},l.isEmpty=false->∃ u,some? l=some u:=λ{α l} h=>match l,h with|_::_,_=>⟨(),rfl⟩;cases hc:(!d.isEmpty&&decide (d.length*24<=room)&&d.all λq=>!q.isEmpty&&decide (q.length*16<=room)) with
 | false=>rw [hc] at h;cases h
 | true=>
  rw [hc] at h;cases h;simp only [Y8,YS,decide_eq_true_eq,YC] at hc;exact ⟨ne hc.1.1,hc.1.2,λq hq=>⟨ne (hc.2 q hq).1,(hc.2 q hq).2⟩,V⟩
theorem Z60 {d:(List (List Bound))} {r:(List (List Bound))} (h:Z1H d=some r):FnO CX 69 [(vl (cL Bound.cs) d)] (λq A=>∃ (id:Nat) (ids:List PV),ids.length=r.length/\ids.length=d.length/\q=(.buf id d.length 1)/\A=(.blk id 43 ids::famL 32 2 Bound.cs ids r)):=by
 obtain ⟨⟨u,hu⟩,hroom,hrows,rfl⟩:=ownOK h;refine FnO.of Try.func69 V V V V V V ?_;intro G T H;refine .tR 1 V H λb1 G H=>(.a1 .nils V V (.na H λH=>(.tR 3 V H λb2 G H=>(.mV V ?_))));refine .Z2A (ys:=[(vl (cL Bound.cs) r)]) H rfl (Z1p (r:=r) (by unfold Zh app?;rw [hu,Y1,if_pos (by simpa using hroom)];rfl)) nofun rfl ?_;rintro _ _ G ⟨w1,rfl,rfl⟩ H;obtain ⟨id,hw,H2⟩:=H.toMat hu;subst hw;replace H:=H2;clear H2;refine .aB V (.na H λH=>(.then (.tR 3 V H λb3 G H=>(.mB V (.lenM H 0 V (YG _) V V nofun V (.mV V (.na H λH=>(.inBlock ?_))))))));refine .mono (Runs.loop (Q:=λx e G=>x = .exit 0/\∃ ids:List PV,ids.length=r.length/\ZA e [(3,.buf id r.length 1)]/\Hs G (.blk id 43 ids::(famL 32 2 Bound.cs ids r++T))) (λm e G=>∃ (k:Nat) (ids:List PV),k+m=r.length/\ids.length=k/\ZA e [(3,.buf id r.length 1),(8,.v (.int .i64 r.length)),(9,.v (.int .i64 (k:Int)))]/\Hs G (.blk id 43 (ids++(r.drop k).map λq=>PV.v (.sl (q.map Bound.cs)))::(famL 32 2 Bound.cs ids (r.take k)++T))) (m:=r.length) ⟨0,[],by omega,V,EI V,H⟩ ?_) ?_
 ·rintro m e G ⟨k,ids,hkm,hk,he,H⟩;obtain ⟨e,rfl⟩:=he.ex;refine .tR 1 V H λb4 G H=>(.iV V (.na H λH=>(.then ?_)));refine .whether (v:=(decide ((k:Int)<(r.length:Int)))) V ?_ ?_<;>intro hc1
  ·have hlt:k<r.length:=by simpa using hc1
   refine .skip (.then (.inBlock (.tR 2 V H λb5 G H=>(.mV V (.aV V (.na H λH=>(.ZS 9 V H λb6 G H=>?_)))))));have hcl:(ids++(r.drop k).map λq=>PV.v (.sl (q.map Bound.cs))).length=r.length:=by simp;omega
   refine .mB V (.mV V (.mB V (.mV V (.Zt H 0 V hcl V V (by omega) (by omega) V V nofun V ?_))));have hcell:(ids++(r.drop k).map λq=>PV.v (.sl (q.map Bound.cs)))[((k:Int)).toNat]? = some (vl Bound.cs r[k]):=by
    rw [YL,YI (by omega),hk,Y0S,YK,YY,Y0O,Y7 hlt];rfl
   refine .ld (.v (.sl (r[k].map Bound.cs))) H 0 V hcl V V hcell nofun V ?_;obtain ⟨⟨u2,hu2⟩,hr2⟩:=hrows r[k] (Y04 hlt);refine .Z2A (ys:=[(vl Bound.cs r[k])]) H rfl (Z2C (r:=r[k]) (by unfold Zo app?;rw [hu2,Y1,if_pos (by simpa using hr2)];rfl)) nofun rfl ?_;rintro _ _ G ⟨w2,rfl,rfl⟩ H;refine .Zt H 1 V hcl V V (by omega) (by omega) V V nofun V ?_;have hb:((k:Int)).toNat+1<=(ids++(r.drop k).map λq=>PV.v (.sl (q.map Bound.cs))).length:=by rw [hcl,YL];omega
   refine .Z4L (m:=1) (off:=((k:Int)).toNat) (v:=w2) (ys:=[w2]) (cells':=(ids++(r.drop k).map λq=>PV.v (.sl (q.map Bound.cs))).set ((k:Int)).toNat w2) H 1 V hcl V V (H.slCells (k:=0) V) V V (Nat.ble_eq_true_of_le hb) (Z4c (Nat.lt_of_succ_le hb)) nofun λG H=>?_;replace H:=H.ownRow hk hlt;refine .na H λH=>(.ZS 2 V H λb7 G H=>(.iV V (.mV V (.na H λH=>?_))));refine ⟨m-1,by omega,k+1,ids++[w2],by omega,by simp [hk],⟨V,V,?_,U⟩,H⟩
   show PV.v (.int .i64 (w64 ((k:Int)+1)))=_;have:w64 ((k:Int)+1)=((k+1:Nat):Int):=by
    have h64:r.length*24<=140737488355328:=hroom;show IntKind.i64.wrap _=_;rw [Z6D (by omega) (by omega)];push_cast;rfl
   rw [this]
  ·have hnl:¬ (k:Int)<(r.length:Int):=by simpa using hc1
   have hge:k=r.length:=by omega
   refine .exit ?_;subst hge;rw [List.take_length,List.drop_length,List.map_nil,YE] at H;exact ⟨V,ids,hk,EI V,H⟩
 ·rintro x e G ⟨rfl,ids,hids,he,H⟩;obtain ⟨e,rfl⟩:=he.ex;refine .tR 2 V H λb9 G H=>(.mB V (.aB V (.na H λH=>(.ret ?_))));exact ⟨.inr V,_,Z0C H (.tmp (v:=(.buf id r.length 1)) V .nil),_,⟨id,ids,hids,hids,V,V⟩,H⟩
theorem Z1Z {a:Bound} {b:Bound} {r:Bool} (h:Zg a b=r):Fn CX 33 [(.agg (vs (Bound.cs a))),(.agg (vs (Bound.cs b)))] (vb r):=by
 refine Fn.go Try.func33 V λG H=>?_;unfold Zg at h;refine .tR 3 V H λb1 G H=>(.bxc (cs:=[(.v (.int .i8 a.Inf)),(vi a.N)]) H V V V λG H=>(.bxc (cs:=[(.v (.int .i8 b.Inf)),(vi b.N)]) H V V V λG H=>(.aV V (.na H λH=>(.then (.inBlock (.tR 9 V H λb2 G H=>(.LV [(.v (.int .i8 a.Inf)),(vi a.N)] H 1 V ?_))))))));refine .cV (Z1A (V:ZW a=_)) V (.tV V (.mV V ?_));refine .md H 4 [(13,(vb ((!(ZW a))||(!(ZW b))))),(2,(.ptr (b1+0) 2 0)),(3,(.ptr (b1+1) 2 0))] [.blk (b1+1) 32 [(.v (.int .i8 b.Inf)),(vi b.N)],.blk (b1+0) 32 [(.v (.int .i8 a.Inf)),(vi a.N)]] rfl ?_ λe G H=>?_
 ·refine .split V V ?_ ?_<;>intro hc1
  ·refine .ps 3 V (.kT V (.nil ?_));exact ⟨⟨or_T hc1,V,V,U⟩,H.wk (by omega)⟩
  ·refine .LV [(.v (.int .i8 b.Inf)),(vi b.N)] H 0 V (.cV (Z1A (V:ZW b=_)) V (.tV V (.kF V (.nil ?_))));exact ⟨⟨or_F hc1,V,V,U⟩,H.wk (by omega)⟩
 refine .aV V (.na H λH=>?_);refine .wh h V ?_ ?_<;>intro h
 ·refine .tR 1 V H λb3 G H=>(.aV V (.na H λH=>(.ret ?_)));subst h;exact Ends.eR V
 refine .tR 6 V H λb4 G H=>(.fV H 1 V (.lV H 1 V (.fV H 0 V (.lV H 0 V (.iV V (.aV V (.na H λH=>?_)))))));refine .wh h V ?_ ?_<;>intro h
 ·refine .tR 6 V H λb5 G H=>(.fV H 1 V (.lV H 1 V (.fV H 0 V (.lV H 0 V (.iV V (.aV V (.na H λH=>(.ret ?_))))))));subst h;exact Ends.eR V
 refine .skip (.tR 6 V H λb6 G H=>(.fV H 1 V (.lV H 1 V (.fV H 0 V (.lV H 0 V (.iV V (.aV V (.na H λH=>?_))))))));refine .ret ?_;subst h;exact Ends.eR V
theorem stp_Set_fn {d:(List (List Bound))} {i:Int} {j:Int} {most:Bound} {r:(List (List Bound))×Int} (h:Z2F d i j most=some r):Fn CX 41 [(vl (cL Bound.cs) d),(vi i),(vi j),(.agg (vs (Bound.cs most)))] (.tup [(vl (cL Bound.cs) r.1),(vi r.2)]):=by
 refine Fn.go Try.func41 V λG H=>?_;unfold Z2F at h;refine .tR 3 V H λb1 G H=>(.bxc (cs:=[(.v (.int .i8 most.Inf)),(vi most.N)]) H V V V λG H=>(.a1 .nils V V (.aV V (.na H λH=>(.then (.tR 28 V H λb2 G H=>(.mV V ?_)))))));obtain ⟨x1,q1,h⟩:=bs h;refine .cV (Z2I q1) V (.tV V (.mV V ?_));refine .md H 3 [(17,(vb ((!x1)||(decide (i<0))))),(0,(vl (cL Bound.cs) d)),(1,(vi i)),(2,(vi j)),(7,(.ptr (b1+0) 2 0))] [.blk (b1+0) 32 [(.v (.int .i8 most.Inf)),(vi most.N)]] rfl ?_ λe G H=>?_
 ·refine .split V V ?_ ?_<;>intro hc1
  ·refine .ps 2 V (.kT V (.nil ?_));exact ⟨⟨or_T hc1,V,V,V,V,U⟩,H.wk (by omega)⟩
  ·refine .mV V (.iV V (.kF V (.nil ?_)));exact ⟨⟨or_F hc1,V,V,V,V,U⟩,H.wk (by omega)⟩
 refine .mV V ?_;refine .md H 3 [(21,(vb (((!x1)||(decide (i<0)))||(decide (j<0))))),(0,(vl (cL Bound.cs) d)),(1,(vi i)),(2,(vi j)),(7,(.ptr (b1+0) 2 0))] [.blk (b1+0) 32 [(.v (.int .i8 most.Inf)),(vi most.N)]] rfl ?_ λe G H=>?_
 ·refine .split V V ?_ ?_<;>intro hc2
  ·refine .ps 2 V (.kT V (.nil ?_));exact ⟨⟨or_T hc2,V,V,V,V,U⟩,H.wk (by omega)⟩
  ·refine .mV V (.iV V (.kF V (.nil ?_)));exact ⟨⟨or_F hc2,V,V,V,V,U⟩,H.wk (by omega)⟩
 refine .mV V ?_;refine .md H 5 [(27,(vb ((((!x1)||(decide (i<0)))||(decide (j<0)))||(decide (i>=(d.length:Int)))))),(0,(vl (cL Bound.cs) d)),(1,(vi i)),(2,(vi j)),(7,(.ptr (b1+0) 2 0))] [.blk (b1+0) 32 [(.v (.int .i8 most.Inf)),(vi most.N)]] rfl ?_ λe G H=>?_
 ·refine .split V V ?_ ?_<;>intro hc3
  ·refine .ps 4 V (.kT V (.nil ?_));exact ⟨⟨or_T hc3,V,V,V,V,U⟩,H.wk (by omega)⟩
  ·refine .mV V (.mV V (.nV V (.iV V (.kF V (.nil ?_)))));exact ⟨⟨or_F hc3,V,V,V,V,U⟩,H.wk (by omega)⟩
 refine .mV V ?_;refine .md H 5 [(33,(vb (((((!x1)||(decide (i<0)))||(decide (j<0)))||(decide (i>=(d.length:Int))))||(decide (j>=(d.length:Int)))))),(0,(vl (cL Bound.cs) d)),(1,(vi i)),(2,(vi j)),(7,(.ptr (b1+0) 2 0))] [.blk (b1+0) 32 [(.v (.int .i8 most.Inf)),(vi most.N)]] rfl ?_ λe G H=>?_
 ·refine .split V V ?_ ?_<;>intro hc4
  ·refine .ps 4 V (.kT V (.nil ?_));exact ⟨⟨or_T hc4,V,V,V,V,U⟩,H.wk (by omega)⟩
  ·refine .mV V (.mV V (.nV V (.iV V (.kF V (.nil ?_)))));exact ⟨⟨or_F hc4,V,V,V,V,U⟩,H.wk (by omega)⟩
 refine .mV V ?_;refine .md H 4 [(38,(vb ((((((!x1)||(decide (i<0)))||(decide (j<0)))||(decide (i>=(d.length:Int))))||(decide (j>=(d.length:Int))))||(!(Z0o most))))),(0,(vl (cL Bound.cs) d)),(1,(vi i)),(2,(vi j)),(7,(.ptr (b1+0) 2 0))] [.blk (b1+0) 32 [(.v (.int .i8 most.Inf)),(vi most.N)]] rfl ?_ λe G H=>?_
 ·refine .split V V ?_ ?_<;>intro hc5
  ·refine .ps 3 V (.kT V (.nil ?_));exact ⟨⟨or_T hc5,V,V,V,V,U⟩,H.wk (by omega)⟩
  ·refine .LV [(.v (.int .i8 most.Inf)),(vi most.N)] H 0 V (.cV (Z4Z (V:Z0o most=_)) V (.tV V (.kF V (.nil ?_))));exact ⟨⟨or_F hc5,V,V,V,V,U⟩,H.wk (by omega)⟩
 refine .na H λH=>?_;refine .wh h V ?_ ?_<;>intro h
 ·refine .tR 2 V H λb3 G H=>(.a1 .nils V V (.aV V (.na H λH=>(.ret ?_))));obtain rfl:=sj h;exact (Ends.H (xs:=[.nils,(vi 2)]) (.inr V) H (.tmp (v:=.nils) V (.tmp (v:=(vi 2)) V .nil)) (.two (.cons (.c .n) (.cons (.c (.v _)) .nil))))
 refine .skip (.tR 3 V H λb4 G H=>(.mV V ?_));obtain ⟨x2,q2,h⟩:=bs h;refine .Z2A (ys:=[(vl (cL Bound.cs) d)]) H rfl (Z60 q2) nofun rfl ?_;rintro _ _ G ⟨id1,ids1,hMids1,hNids1,rfl,rfl⟩ H;replace H:Has G _ _ (.blk (b1+0) 32 [(.v (.int .i8 most.Inf)),(vi most.N)] :: .blk id1 43 ids1::(famL 32 2 Bound.cs ids1 x2++[])):=Has.matLast (M:=.blk id1 43 ids1::famL 32 2 Bound.cs ids1 x2) [.blk (b1+0) 32 [(.v (.int .i8 most.Inf)),(vi most.N)]] H;refine .aB V (.na H λH=>(.then ?_));obtain ⟨y1,hj1,h⟩:=bs h;refine .mono (Q:=λx e G=>∃ (ids2:List PV),ids2.length=y1.length/\ids2.length=d.length/\x = .normal/\ZA e [(10,(.buf id1 d.length 1))]/\Hs G (.blk id1 43 ids2::(famL 32 2 Bound.cs ids2 y1++[]))) ?_ ?_
 ·replace h:=hj1;refine .then (.Z0d 9 V (by kernel_rfl) H λb5 G H B5=>(.Z1q (cs:=[(.v (.int .i8 most.Inf)),(vi most.N)]) H 0 V V V V V V V (so (B5 0 _ V _ V)) V (.mB V (.mV V ?_))));obtain ⟨x3,q3,h⟩:=bs h;obtain ⟨v1,hv1,hr1⟩:=Z0I (rt:=32) (sz:=2) (c:=Bound.cs) hMids1 q3;refine .Zt H 1 V hNids1 V V (at?_nn q3) (hNids1▸Z03 hv1) V V (so (B5 1 _ V _ V)) V ?_;refine .ld v1 H 1 V hNids1 V V hv1 (so (B5 1 _ V _ V)) V (.mV V ?_);obtain ⟨x4,q4,h⟩:=bs h;refine .Z0K H (2+(i).toNat) (ZO 2 V hr1) V V (at?_map q4) V V (λ_ id ho=>.inl ⟨B5 (2+(i).toNat) _ (ZO 2 V hr1) id ho,nofun,(λ_=>by kernel_rfl)⟩) V ?_;intro id2 hv2;refine .Z1X (id:=id2) H (2+(i).toNat) (ZO 2 V hr1) hv2 (by simp) (at?_map q4) V V V V (λ_=>.inl ⟨B5 (2+(i).toNat) _ (ZO 2 V hr1) _ (by rw [(hv2:(v1:PV)=_)];rfl),nofun,(λ_=>by kernel_rfl)⟩) V ?_;refine .cV (Z1Z (V:Zg most x4=_)) V (.na H λH=>?_);refine .wh h V ?_ ?_<;>intro h
  ·refine .Z0d 8 V (by kernel_rfl) H λb6 G H B6=>(.mB V (.mV V ?_));obtain ⟨x5,q5,h⟩:=bs h;obtain ⟨v2,hv3,hr2⟩:=Z0I (rt:=32) (sz:=2) (c:=Bound.cs) hMids1 q5;refine .Zt H 1 V hNids1 V V (at?_nn q5) (hNids1▸Z03 hv3) V V (so (B6 1 _ V _ V)) V ?_;refine .ld v2 H 1 V hNids1 V V hv3 (so (B6 1 _ V _ V)) V (.mV V (.Z1q (cs:=[(.v (.int .i8 most.Inf)),(vi most.N)]) H 0 V V V V V V V (so (B6 0 _ V _ V)) V ?_));obtain ⟨x6,q6,h⟩:=bs h;refine .Z0K H (2+(i).toNat) (ZO 2 V hr2) V V (at?_map q6) V V (λ_ id ho=>.inl ⟨B6 (2+(i).toNat) _ (ZO 2 V hr2) id ho,nofun,(λ_=>by kernel_rfl)⟩) V ?_;intro id3 hv4;refine .Z1s (id:=id3) (j:=0) (zs:=[(.int .i8 most.Inf),(.int .i64 most.N)]) (u:=x6) (u':=most) H (2+(i).toNat) (ZO 2 V hr2) hv4 (by simp) q6 V (by simp) V V V V V V (λ_=>.inl ⟨B6 (2+(i).toNat) _ (ZO 2 V hr2) _ (by rw [(hv4:(v2:PV)=_)];rfl),(λ_=>by kernel_rfl),nofun⟩) λG H=>?_;have hMs1:ids1.length=(x2.set (i).toNat (x5.set (j).toNat most)).length:=hMids1.trans (YQ ..).symm;replace H:Has G _ _ (.blk (b1+0) 32 [(.v (.int .i8 most.Inf)),(vi most.N)] :: .blk id1 43 ids1::(famL 32 2 Bound.cs ids1 (x2.set (i).toNat (x5.set (j).toNat most))++[])):=H.famSet (k:=2) rfl hMids1 hv3;refine .na H λH=>?_;obtain rfl:=sj h
   exact ⟨ids1,hMs1,hNids1,V,EI V,(H.erase 0)⟩
  refine .skip ?_;obtain rfl:=sj h;exact ⟨ids1,hMids1,hNids1,V,EI V,(H.erase 0)⟩
 ·rintro x e G ⟨ids3,hMids3,hNids3,rfl,he,H⟩;obtain ⟨e,rfl⟩:=he.ex;refine .tR 3 V H λb7 G H=>(.mB V (.aB V (.aV V (.na H λH=>(.ret ?_)))));obtain rfl:=sj h;exact (Ends.M (c:=Bound.cs) (T:=[]) (.inr V) H 0 V V hMids3 hNids3 (Z0C H (.tmp (v:=(.buf id1 d.length 1)) V (.tmp (v:=(vi 0)) V .nil))) V V)
theorem Z0g {n:Int} {l:(List epactlaw24_Set)} {r:(List (List Bound))×Bool} (h:ZJ n l=some r):Fn CX 61 [(vi n),(vl epactlaw24_Set.cs l)] (.tup [(vl (cL Bound.cs) r.1),(vb r.2)]):=by
 refine Fn.go Try.func61 V λG H=>?_;unfold ZJ at h;refine .tR 2 V H λb1 G H=>(.a1 .nils V V (.aV V (.na H λH=>(.tR 7 V H λb2 G H=>(.mV V ?_)))));obtain ⟨x1,q1,h⟩:=bs h;refine .cV (Z61 q1) V (.m1 (.tup [(vl (cL Bound.cs) x1.1),(vi x1.2)]) V V (.xV V (.xV V (.aV V (.aV V (.na H λH=>(.then (.tR 3 V H λb3 G H=>?_))))))));refine .mV V (.nV V (.mV V (.na H λH=>(.inBlock ?_))));refine .lp h (λs1=>[(6,(vl (cL Bound.cs) s1.1)),(7,(vi s1.2.1)),(15,(vl epactlaw24_Set.cs l)),(16,(vi (l.length:Int))),(17,(vi s1.2.2))]) (λs1=>[]) (.exit 0) (λy1=>[(6,(vl (cL Bound.cs) y1.1)),(7,(vi y1.2))]) (λy1=>[]) (EI V) H (λs1 e G H z h=>?_) λy1 e G H h=>?_
 ·unfold ZJ.s0 at h;refine .tR 1 V H λb4 G H=>(.iV V (.na H λH=>(.then ?_)));refine .wh h V ?_ ?_<;>intro h
  ·refine .skip (.then ?_);refine .jn h .normal (λy2=>[(6,(vl (cL Bound.cs) y2.1)),(7,(vi y2.2)),(15,(vl epactlaw24_Set.cs l)),(16,(vi (l.length:Int))),(17,(vi s1.2.2))]) (λy2=>[]) (λy2 h=>?_) λy2 e G H h=>?_
   ·refine .inBlock ?_;refine .jn h .normal (λy3=>[(6,(vl (cL Bound.cs) y3.1)),(7,(vi y3.2)),(15,(vl epactlaw24_Set.cs l)),(16,(vi (l.length:Int))),(17,(vi s1.2.2))]) (λy3=>[]) (λy3 h=>?_) λy3 e G H h=>?_
    ·refine .tR 4 V H λb5 G H=>?_;obtain ⟨x2,q2,h⟩:=bs h;refine .jV q2 V (.qV [(.int .i64 x2.I),(.int .i64 x2.J),(.int .i8 x2.Most.Inf),(.int .i64 x2.Most.N)] V (.alc (cs:=[(vi 0),(vi 0),(.v (.int .i8 0)),(vi 0)]) H V V λG H=>(.sV [(vi x2.I),(vi x2.J),(.v (.int .i8 x2.Most.Inf)),(vi x2.Most.N)] H 0 V λG H=>(.na H λH=>(.tR 2 V H λb6 G H=>(.mV V (.iV V (.na H λH=>?_))))))));refine .wh h V ?_ ?_<;>intro h
     ·refine .ZS 13 V H λb7 G H=>(.mV V (.fV H 0 V (.lV H 0 V (.fV H 0 V (.lV H 0 V (.fV H 0 V (.LV [(.v (.int .i8 x2.Most.Inf)),(vi x2.Most.N)] H 0 V ?_)))))));obtain ⟨x3,q3,h⟩:=bs h;refine .cV (stp_Set_fn q3) V (.m1 (.tup [(vl (cL Bound.cs) x3.1),(vi x3.2)]) V V (.xV V (.xV V (.aV V (.aV V (.na H λH=>?_))))));obtain rfl:=sj h;exact ⟨V,EI V,(H.erase 0)⟩
     refine .skip ?_;obtain rfl:=sj h;exact ⟨V,EI V,(H.erase 0)⟩
    obtain rfl:=sj h;exact ⟨V,EI V,H⟩
   refine .ZS 2 V H λb8 G H=>(.iV V (.mV V (.na H λH=>?_)));obtain rfl:=sj h;exact ⟨V,EI V,H⟩
  refine .exit ?_;obtain rfl:=sj h;exact ⟨nofun,⟨V,EI V,H⟩⟩
 refine .tR 5 V H λb9 G H=>(.mV V (.mV V (.iV V (.aV V (.aV V (.na H λH=>(.ret ?_)))))));obtain rfl:=sj h;exact Ends.eR V
theorem Z45 {n:Int} {l:(List epactlaw24_Set)} {r:(List (List Bound))} (h:ZX n l=some r):Fn CX 47 [(.v (.int .u8 n)),(vl epactlaw24_Set.cs l)] (vl (cL Bound.cs) r):=by
 refine Fn.go Try.func47 V λG H=>?_;unfold ZX at h;refine .tR 1 V H λb1 G H=>(.a1 .nils V V (.na H λH=>(.tR 5 V H λb2 G H=>(.mV V (.rem (m:=n) (m':=24) V V (by decide) V (.conv (m:=(n.tmod 24)) V V V V (.iV V (.aV V ?_))))))));refine .na H λH=>(.tR 1 V H λb3 G H=>(.a1 .nils V V (.na H λH=>(.then (.tR 7 V H λb4 G H=>(.mV V (.mV V (.nV V ?_))))))));refine .min2 V V V ?_;obtain ⟨x1,q1,h⟩:=bs h;refine .sliceP01 (c:=epactlaw24_Set.cs) q1 V V V V (λ_=>V) V (.nV V (.mV V (.na H λH=>(.inBlock ?_))));replace H:=H.pushNil 42 4 true;obtain ⟨y1,hj1,h⟩:=bs h;obtain ⟨n1,hj1⟩:=ZV.1 hj1;refine .mono (Runs.loopO hj1 (λs2 e G=>∃ (w3:PV),ZA e [(5,(vi s2.1)),(6,w3),(20,(vl epactlaw24_Set.cs x1)),(21,(vi (x1.length:Int))),(22,(vi s2.2.1))]/\Hs G [.sl w3 42 4 (s2.2.2.map epactlaw24_Set.cs) true]) (λy1 x e G=>∃ (w4:PV),x = .exit 0/\ZA e [(5,(vi y1.1)),(6,w4)]/\Hs G [.sl w4 42 4 (y1.2.map epactlaw24_Set.cs) true]) ⟨.nils,EI V,H⟩ ?_) ?_
 ·intro s2 e G hI z h;obtain ⟨w3,he,H⟩:=hI;obtain ⟨e,rfl⟩:=he.ex;unfold ZX.s0 at h;refine .tR 1 V H λb5 G H=>(.iV V (.na H λH=>(.then ?_)));refine .wh h V ?_ ?_<;>intro h
  ·refine .skip (.then ?_);obtain ⟨y2,hj2,h⟩:=bs h;refine .mono (Q:=λx e G=>∃ (w5:PV),x = .normal/\ZA e [(5,(vi s2.1)),(6,w5),(20,(vl epactlaw24_Set.cs x1)),(21,(vi (x1.length:Int))),(22,(vi s2.2.1))]/\Hs G [.sl w5 42 4 (y2.map epactlaw24_Set.cs) true]) ?_ ?_
   ·replace h:=hj2;refine .inBlock ?_;obtain ⟨y3,hj3,h⟩:=bs h;refine .mono (Q:=λx e G=>∃ (w6:PV),x = .normal/\ZA e [(5,(vi s2.1)),(6,w6),(20,(vl epactlaw24_Set.cs x1)),(21,(vi (x1.length:Int))),(22,(vi s2.2.1))]/\Hs G [.sl w6 42 4 (y3.map epactlaw24_Set.cs) true]) ?_ ?_
    ·replace h:=hj3;refine .tR 4 V H λb6 G H=>?_;obtain ⟨x2,q2,h⟩:=bs h;refine .jV q2 V (.qV [(.int .i64 x2.I),(.int .i64 x2.J),(.int .i8 x2.Most.Inf),(.int .i64 x2.Most.N)] V (.alc (cs:=[(vi 0),(vi 0),(.v (.int .i8 0)),(vi 0)]) H V V λG H=>(.sV [(vi x2.I),(vi x2.J),(.v (.int .i8 x2.Most.Inf)),(vi x2.Most.N)] H 0 V λG H=>(.na H λH=>(.then (.Z0d 14 V (by kernel_rfl) H λb7 G H B7=>(.Z4T H 0 V V V V V (so (B7 0 _ V _ V)) V (.ld (vi x2.I) H 0 V V V V V (so (B7 0 _ V _ V)) V ?_))))))));refine .iV V (.mV V ?_);obtain ⟨u1,q3,h⟩:=bs h;refine .rem (m:=(iAnd .i64 x2.I 255)) (m':=s2.1) V V (nz_ne q3) V (.Z4T H 0 V V V V V (so (B7 0 _ V _ V)) V (.ld (vi x2.J) H 0 V V V V V (so (B7 0 _ V _ V)) V (.iV V (.mV V ?_))));obtain ⟨u2,q4,h⟩:=bs h;refine .rem (m:=(iAnd .i64 x2.J 255)) (m':=s2.1) V V (nz_ne q4) V (.bV [(.v (.int .i8 1)),(vi 0)] V (.bV [(vi ((iAnd .i64 x2.I 255).tmod s2.1)),(vi ((iAnd .i64 x2.J 255).tmod s2.1)),(.v (.int .i8 1)),(vi 0)] V (.alc (cs:=[(vi 0),(vi 0),(.v (.int .i8 0)),(vi 0)]) H V V λG H=>(.Z4L (cells':=[(vi ((iAnd .i64 x2.I 255).tmod s2.1)),(vi ((iAnd .i64 x2.J 255).tmod s2.1)),(.v (.int .i8 1)),(vi 0)]) H 0 V V V V V V V V V (λ_=>.inr ⟨12,V,by kernel_rfl,by decide⟩) λG H=>(.na H λH=>(.then ?_))))))
     refine .jn h .normal (λy4=>[(5,(vi s2.1)),(6,w3),(9,(.ptr (b7+12) 4 0)),(20,(vl epactlaw24_Set.cs x1)),(21,(vi (x1.length:Int))),(22,(vi s2.2.1))]) (λy4=>[.blk (b7+12) 42 [(vi ((iAnd .i64 x2.I 255).tmod s2.1)),(vi ((iAnd .i64 x2.J 255).tmod s2.1)),(.v (.int .i8 y4.1)),(vi y4.2)],.sl w3 42 4 (s2.2.2.map epactlaw24_Set.cs) true]) (λy4 h=>?_) λy4 e G H h=>?_
     ·refine .tR 4 V H λb8 G H=>(.fV H 1 V (.fV H 1 V (.lV H 1 V (.iV V (.na H λH=>?_)))));refine .wh h V ?_ ?_<;>intro h
      ·refine .ZS 7 V H λb9 G H=>(.fV H 1 V (.fV H 1 V (.lV H 1 V (.rem (m:=x2.Most.N) (m':=1001) V V (by decide) V (.bV [(.v (.int .i8 0)),(vi (x2.Most.N.tmod 1001))] V (.fV H 0 V (.sV [(vi ((iAnd .i64 x2.I 255).tmod s2.1)),(vi ((iAnd .i64 x2.J 255).tmod s2.1)),(.v (.int .i8 0)),(vi (x2.Most.N.tmod 1001))] H 0 V λG H=>(.na H λH=>?_))))))));obtain rfl:=sj h;exact ⟨V,EI V,(H.erase 1)⟩
      refine .skip ?_;obtain rfl:=sj h;exact ⟨V,EI V,(H.erase 1)⟩
     refine .tR 5 V H λb10 G H=>(.fV H 0 V (.lV H 0 V (.fV H 0 V (.lV H 0 V (.iV V (.na H λH=>?_))))));refine .wh h V ?_ ?_<;>intro h
     ·refine .ZS 5 V H λb11 G H=>(.m1 w3 V V (.LV [(vi ((iAnd .i64 x2.I 255).tmod s2.1)),(vi ((iAnd .i64 x2.J 255).tmod s2.1)),(.v (.int .i8 y4.1)),(vi y4.2)] H 0 V (.Z2B (sz:=4) ([(epactlaw24_Set.mk ((iAnd .i64 x2.I 255).tmod s2.1) ((iAnd .i64 x2.J 255).tmod s2.1) (Bound.mk y4.1 y4.2))].map epactlaw24_Set.cs) H (by omega) (by omega) V V V V V V V V V λG H=>?_)));obtain ⟨x3,q5,h⟩:=bs h;refine .appendSt (c:=epactlaw24_Set.cs) (v:=w3) (w:=(.buf (b11+2) 1 4)) (xs:=s2.2.2) (ys:=[(epactlaw24_Set.mk ((iAnd .i64 x2.I 255).tmod s2.1) ((iAnd .i64 x2.J 255).tmod s2.1) (Bound.mk y4.1 y4.2))]) H (by omega) (by omega) 2 V V V (.s 0 V) q5 V V V V V nofun V λw7 G H=>(.a1 w7 V V (.na H λH=>?_));obtain rfl:=sj h;exact ⟨w7,V,EI V,((H.erase 1).erase 0)⟩
     refine .skip ?_;obtain rfl:=sj h;exact ⟨w3,V,EI V,(H.erase 0)⟩
    ·rintro x e G ⟨w8,rfl,he,H⟩;obtain ⟨e,rfl⟩:=he.ex;obtain rfl:=sj h;exact ⟨w8,V,EI V,H⟩
   ·rintro x e G ⟨w9,rfl,he,H⟩;obtain ⟨e,rfl⟩:=he.ex;refine .ZS 2 V H λb12 G H=>(.iV V (.mV V (.na H λH=>?_)));obtain rfl:=sj h;exact ⟨V,w9,EI V,H⟩
  refine .exit ?_;obtain rfl:=sj h;exact ⟨nofun,⟨w3,V,EI V,H⟩⟩
 ·rintro x e G ⟨w10,rfl,he,H⟩;obtain ⟨e,rfl⟩:=he.ex;refine .tR 8 V H λb13 G H=>(.mV V (.m1 w10 V V ?_));obtain ⟨x4,q6,h⟩:=bs h;refine .callX (xs:=[(vi y1.1),w10]) (ys:=[(vi y1.1),(vl epactlaw24_Set.cs y1.2)]) H V (.cons (.c (.v _)) (.cons (.c (.s 0 V)) .nil)) (Z0g q6) V V nofun V λG H=>(.m1 (.tup [(vl (cL Bound.cs) x4.1),(vb x4.2)]) V V (.xV V (.xV V (.aV V (.aV V (.na H λH=>(.tR 2 V H λb14 G H=>(.mV V ?_))))))));refine .aV V (.na H λH=>(.ret ?_));obtain rfl:=sj h;exact Ends.eR V
theorem Z26 {m:(List (List Bound))} {n:Int} {r:Bool} (h:Z4 m n=some r):Fn CX 48 [(vl (cL Bound.cs) m),(vi n)] (vb r):=by
 refine Fn.go Try.func48 V λG H=>?_;unfold Z4 at h;refine .tR 1 V H λb1 G H=>(.aV V (.na H λH=>(.then (.tR 3 V H λb2 G H=>(.mV V (.nV V (.mV V (.na H λH=>?_))))))));refine .inBlock ?_;obtain ⟨y1,hj1,h⟩:=bs h;obtain ⟨n1,hj1⟩:=ZV.1 hj1;refine .mono (Runs.loopO hj1 (λs1 e G=>ZA e [(0,(vl (cL Bound.cs) m)),(1,(vi n)),(7,(vl (cL Bound.cs) m)),(8,(vi (m.length:Int))),(9,(vi s1))]/\Hs G []) (λy1 x e G=>(∃ a1,y1=(.go a1)/\x = .exit 0/\ZA e [(0,(vl (cL Bound.cs) m)),(1,(vi n))]/\Hs G [])\/(∃ r',y1=(.ret r')/\x = .ret/\Ends CX Try.f48.results.toList (vb r') x e G)) ⟨EI V,H⟩ ?_) ?_
 ·intro s1 e G hI z h;obtain ⟨he,H⟩:=hI;obtain ⟨e,rfl⟩:=he.ex;unfold Z4.s0 at h;refine .tR 1 V H λb3 G H=>(.iV V (.na H λH=>(.then ?_)));refine .wh h V ?_ ?_<;>intro h
  ·refine .skip (.then (.inBlock (.tR 3 V H λb4 G H=>?_)));obtain ⟨x1,q1,h⟩:=bs h;refine .jV q1 V (.pV V (.aV V (.na H λH=>(.tR 4 V H λb5 G H=>(.mV V (.nV V (.mV V (.iV V ?_))))))));refine .na H λH=>?_;refine .wh h V ?_ ?_<;>intro h
   ·refine .tR 1 V H λb6 G H=>(.aV V (.na H λH=>(.ret ?_)));obtain rfl:=sj h;exact ⟨nofun,(.inr ⟨_,V,V,(Ends.H (xs:=[(vb false)]) (.inr V) H (.tmp (v:=(vb false)) V .nil) (.one (.c (.v _))))⟩)⟩
   refine .skip (.ZS 2 V H λb7 G H=>(.iV V (.mV V (.na H λH=>?_))));obtain rfl:=sj h;exact ⟨V,EI V,H⟩
  refine .exit ?_;obtain rfl:=sj h;exact ⟨nofun,(.inl ⟨_,V,V,EI V,H⟩)⟩
 ·rintro x e G (⟨a2,rfl,rfl,he,H⟩|⟨r',rfl,rfl,hE⟩)
  ·replace h:=jgo h;obtain ⟨e,rfl⟩:=he.ex;refine .tR 5 V H λb8 G H=>(.mV V (.nV V (.mV V (.iV V (.aV V (.na H λH=>(.ret ?_)))))));obtain rfl:=sj h;exact Ends.eR V
  ·replace h:=jret h;obtain rfl:=sj h;exact hE
theorem Ze {n:Int} {r:Bound} (h:Z1 n=r):Fn CX 62 [(vi n)] (.agg (vs (Bound.cs r))):=by
 refine Fn.go Try.func62 V λG H=>?_;unfold Z1 at h;refine .tR 1 V H λb1 G H=>(.alc (cs:=[(.v (.int .i8 0)),(vi 0)]) H V V λG H=>(.na H λH=>(.tR 3 V H λb2 G H=>(.mV V (.bV [(.v (.int .i8 0)),(vi n)] V (.sV [(.v (.int .i8 0)),(vi n)] H 0 V λG H=>(.na H λH=>(.ret ?_))))))));subst h;exact (Ends.H (xs:=[(.agg [(.v (.int .i8 0)),(vi n)])]) (.inr V) H (.agg (cs:=[(.v (.int .i8 0)),(vi n)]) 0 V V V V V V V .nil) (.one (.p V)))
theorem safe_Add_fn {a:Int} {b:Int} {r:Int×Int} (h:Z0O a b=r):Fn CX 17 [(vi a),(vi b)] (.tup [(vi r.1),(vi r.2)]):=by
 refine Fn.go Try.func17 V λG H=>?_;unfold Z0O at h;refine .tR 2 V H λb1 G H=>(.aV V (.aV V (.na H λH=>(.tR 4 V H λb2 G H=>(.mV V (.mV V (.iV V (.aV V ?_))))))));refine .na H λH=>(.then (.tR 10 V H λb3 G H=>(.mV V (.mV V (.iV V (.mV V (.iV V (.neB (b:=(decide ((w64 (a+b))>a))) (b':=(decide (b>0))) V V V V ?_))))))));refine .mV V ?_;refine .md H 3 [(19,(vb (((decide ((w64 (a+b))>a)) != (decide (b>0)))&&(b != 0)))),(6,(vi (w64 (a+b))))] [] V ?_ λe G H=>?_
 ·refine .split V V ?_ ?_<;>intro hc1
  ·refine .mV V (.iV V (.kT V (.nil ?_)));exact ⟨⟨Z0h hc1,V,U⟩,H.wk (by omega)⟩
  ·refine .ps 2 V (.kF V (.nil ?_));exact ⟨⟨Z0j hc1,V,U⟩,H.wk (by omega)⟩
 refine .na H λH=>?_;refine .wh h V ?_ ?_<;>intro h
 ·refine .tR 2 V H λb4 G H=>(.aV V (.aV V (.na H λH=>(.ret ?_))));subst h;exact Ends.eR V
 refine .skip (.tR 3 V H λb5 G H=>(.mV V (.aV V (.aV V (.na H λH=>(.ret ?_))))));subst h;exact Ends.eR V
end Go.Dn

namespace Go.Dn
open Go Go.Proofs
set_option maxRecDepth 100000
set_option maxHeartbeats 4000000
theorem Z5u {a:Bound} {b:Bound} {r:Bound×Int} (h:ZB a b=r):Fn CX 27 [(.agg (vs (Bound.cs a))),(.agg (vs (Bound.cs b)))] (.tup [(.agg (vs (Bound.cs r.1))),(vi r.2)]):=by
 refine Fn.go Try.func27 V λG H=>?_;unfold ZB at h;refine .tR 4 V H λb1 G H=>(.bxc (cs:=[(.v (.int .i8 a.Inf)),(vi a.N)]) H V V V λG H=>(.bxc (cs:=[(.v (.int .i8 b.Inf)),(vi b.N)]) H V V V λG H=>(.alc (cs:=[(.v (.int .i8 0)),(vi 0)]) H V V λG H=>(.aV V (.na H λH=>(.then (.inBlock (.tR 9 V H λb2 G H=>?_))))))));refine .LV [(.v (.int .i8 a.Inf)),(vi a.N)] H 2 V (.cV (Z1A (V:ZW a=_)) V (.tV V (.mV V ?_)));refine .md H 4 [(16,(vb ((!(ZW a))||(!(ZW b))))),(2,(.ptr (b1+0) 2 0)),(3,(.ptr (b1+1) 2 0)),(4,(.ptr (b1+2) 2 0))] [.blk (b1+2) 32 [(.v (.int .i8 0)),(vi 0)],.blk (b1+1) 32 [(.v (.int .i8 b.Inf)),(vi b.N)],.blk (b1+0) 32 [(.v (.int .i8 a.Inf)),(vi a.N)]] rfl ?_ λe G H=>?_
 ·refine .split V V ?_ ?_<;>intro hc1
  ·refine .ps 3 V (.kT V (.nil ?_));exact ⟨⟨or_T hc1,V,V,V,U⟩,H.wk (by omega)⟩
  ·refine .LV [(.v (.int .i8 b.Inf)),(vi b.N)] H 1 V (.cV (Z1A (V:ZW b=_)) V (.tV V (.kF V (.nil ?_))));exact ⟨⟨or_F hc1,V,V,V,U⟩,H.wk (by omega)⟩
 refine .aV V (.na H λH=>?_);refine .wh h V ?_ ?_<;>intro h
 ·refine .tR 3 V H λb3 G H=>(.bV [(.v (.int .i8 0)),(vi 0)] V (.sV [(.v (.int .i8 0)),(vi 0)] H 0 V λG H=>(.aV V (.na H λH=>(.ret ?_)))));subst h;exact (Ends.H (xs:=[(.agg [(.v (.int .i8 0)),(vi 0)]),(vi 2)]) (.inr V) H (.agg (cs:=[(.v (.int .i8 0)),(vi 0)]) 0 V V V V V V V (.tmp (v:=(vi 2)) V .nil)) (.two (.cons (.p V) (.cons (.c (.v _)) .nil))))
 refine .tR 16 V H λb4 G H=>(.fV H 2 V (.lV H 2 V (.iV V (.mV V ?_))));refine .md H 4 [(26,(vb ((a.Inf != 0)&&(b.Inf != 0)))),(2,(.ptr (b1+0) 2 0)),(3,(.ptr (b1+1) 2 0)),(4,(.ptr (b1+2) 2 0))] [.blk (b1+2) 32 [(.v (.int .i8 0)),(vi 0)],.blk (b1+1) 32 [(.v (.int .i8 b.Inf)),(vi b.N)],.blk (b1+0) 32 [(.v (.int .i8 a.Inf)),(vi a.N)]] V ?_ λe G H=>?_
 ·refine .split V V ?_ ?_<;>intro hc3
  ·refine .fV H 1 V (.lV H 1 V (.iV V (.kT V (.nil ?_))));exact ⟨⟨Z0h hc3,V,V,V,U⟩,H.wk (by omega)⟩
  ·refine .ps 3 V (.kF V (.nil ?_));exact ⟨⟨Z0j hc3,V,V,V,U⟩,H.wk (by omega)⟩
 refine .mV V ?_;refine .md H 6 [(33,(vb (((a.Inf != 0)&&(b.Inf != 0))&&(a.Inf != b.Inf)))),(2,(.ptr (b1+0) 2 0)),(3,(.ptr (b1+1) 2 0)),(4,(.ptr (b1+2) 2 0))] [.blk (b1+2) 32 [(.v (.int .i8 0)),(vi 0)],.blk (b1+1) 32 [(.v (.int .i8 b.Inf)),(vi b.N)],.blk (b1+0) 32 [(.v (.int .i8 a.Inf)),(vi a.N)]] V ?_ λe G H=>?_
 ·refine .split V V ?_ ?_<;>intro hc4
  ·refine .fV H 2 V (.lV H 2 V (.fV H 1 V (.lV H 1 V (.iV V (.kT V (.nil ?_))))));exact ⟨⟨Z0h hc4,V,V,V,U⟩,H.wk (by omega)⟩
  ·refine .ps 5 V (.kF V (.nil ?_));exact ⟨⟨Z0j hc4,V,V,V,U⟩,H.wk (by omega)⟩
 refine .aV V (.na H λH=>?_);refine .wh h V ?_ ?_<;>intro h
 ·refine .tR 3 V H λb5 G H=>(.bV [(.v (.int .i8 0)),(vi 0)] V (.sV [(.v (.int .i8 0)),(vi 0)] H 0 V λG H=>(.aV V (.na H λH=>(.ret ?_)))));subst h;exact (Ends.H (xs:=[(.agg [(.v (.int .i8 0)),(vi 0)]),(vi 10)]) (.inr V) H (.agg (cs:=[(.v (.int .i8 0)),(vi 0)]) 0 V V V V V V V (.tmp (v:=(vi 10)) V .nil)) (.two (.cons (.p V) (.cons (.c (.v _)) .nil))))
 refine .tR 4 V H λb6 G H=>(.fV H 2 V (.lV H 2 V (.iV V (.aV V (.na H λH=>?_)))));refine .wh h V ?_ ?_<;>intro h
 ·refine .tR 3 V H λb7 G H=>(.LV [(.v (.int .i8 a.Inf)),(vi a.N)] H 2 V (.sV [(.v (.int .i8 a.Inf)),(vi a.N)] H 0 V λG H=>(.aV V (.na H λH=>(.ret ?_)))));subst h;exact (Ends.H (xs:=[(.agg [(.v (.int .i8 a.Inf)),(vi a.N)]),(vi 0)]) (.inr V) H (.agg (cs:=[(.v (.int .i8 a.Inf)),(vi a.N)]) 0 V V V V V V V (.tmp (v:=(vi 0)) V .nil)) (.two (.cons (.p V) (.cons (.c (.v _)) .nil))))
 refine .tR 4 V H λb8 G H=>(.fV H 1 V (.lV H 1 V (.iV V (.aV V (.na H λH=>?_)))));refine .wh h V ?_ ?_<;>intro h
 ·refine .tR 3 V H λb9 G H=>(.LV [(.v (.int .i8 b.Inf)),(vi b.N)] H 1 V (.sV [(.v (.int .i8 b.Inf)),(vi b.N)] H 0 V λG H=>(.aV V (.na H λH=>(.ret ?_)))));subst h;exact (Ends.H (xs:=[(.agg [(.v (.int .i8 b.Inf)),(vi b.N)]),(vi 0)]) (.inr V) H (.agg (cs:=[(.v (.int .i8 b.Inf)),(vi b.N)]) 0 V V V V V V V (.tmp (v:=(vi 0)) V .nil)) (.two (.cons (.p V) (.cons (.c (.v _)) .nil))))
 refine .skip (.tR 10 V H λb10 G H=>(.fV H 2 V (.lV H 2 V (.fV H 1 V (.lV H 1 V (.cV (safe_Add_fn V) V (.m1 (.tup [(vi (Z0O a.N b.N).1),(vi (Z0O a.N b.N).2)]) V V (.xV V ?_))))))));refine .xV V (.aV V (.aV V (.na H λH=>(.tR 5 V H λb11 G H=>(.mV V (.bV [(.v (.int .i8 0)),(vi (Z0O a.N b.N).1)] V (.mV V (.sV [(.v (.int .i8 0)),(vi (Z0O a.N b.N).1)] H 0 V λG H=>?_))))))));refine .aV V (.na H λH=>(.ret ?_));subst h;exact (Ends.H (xs:=[(.agg [(.v (.int .i8 0)),(vi (Z0O a.N b.N).1)]),(vi (Z0O a.N b.N).2)]) (.inr V) H (.agg (cs:=[(.v (.int .i8 0)),(vi (Z0O a.N b.N).1)]) 0 V V V V V V V (.tmp (v:=(vi (Z0O a.N b.N).2)) V .nil)) (.two (.cons (.p V) (.cons (.c (.v _)) .nil))))
theorem stp_Close_fn {d:(List (List Bound))} {r:(List (List Bound))×Bool×Int} (hne:CX.intr 44 [(vl (cL Bound.cs) d)]=none) (h:ZC d=some r):Fn CX 44 [(vl (cL Bound.cs) d)] (.tup [(vl (cL Bound.cs) r.1),(vb r.2.1),(vi r.2.2)]):=by
 refine Fn.ends Try.func44 V hne V V V V ?_;have H:Hs (⟨0,λ_=>.none⟩ : Heap) []:=Has.nil (Y9 _)
 generalize (⟨0,λ_=>.none⟩ : Heap)=G at H ⊢
 unfold ZC at h;refine .tR 3 V H λb1 G H=>(.a1 .nils V V (.aV V (.aV V (.na H λH=>(.then (.tR 3 V H λb2 G H=>(.mV V ?_)))))));obtain ⟨x1,q1,h⟩:=bs h;refine .cV (Z2I q1) V (.tV V (.na H λH=>?_));refine .wh h V ?_ ?_<;>intro h
 ·refine .tR 3 V H λb3 G H=>(.a1 .nils V V (.aV V (.aV V (.na H λH=>(.ret ?_)))));obtain rfl:=sj h;exact (Ends.H (xs:=[.nils,(vb false),(vi 2)]) (.inr V) H (.tmp (v:=.nils) V (.tmp (v:=(vb false)) V (.tmp (v:=(vi 2)) V .nil))) (.two (.cons (.c .n) (.cons (.c (.v _)) (.cons (.c (.v _)) .nil)))))
 refine .skip (.tR 3 V H λb4 G H=>(.mV V ?_));obtain ⟨x2,q2,h⟩:=bs h;refine .Z2A (ys:=[(vl (cL Bound.cs) d)]) H rfl (Z60 q2) nofun rfl ?_;rintro _ _ G ⟨id1,ids1,hMids1,hNids1,rfl,rfl⟩ H;replace H:Has G _ _ (.blk id1 43 ids1::(famL 32 2 Bound.cs ids1 x2++[])):=H;refine .aB V (.na H λH=>(.then (.tR 3 V H λb5 G H=>(.mB V (.lenM H 0 V hNids1 V V nofun V (.mV V (.na H λH=>(.inBlock ?_))))))));obtain ⟨y1,hj1,h⟩:=bs h;obtain ⟨n1,hj1⟩:=ZV.1 hj1;refine .mono (Runs.loopO hj1 (λs1 e G=>∃ (ids4:List PV),ids4.length=s1.2.length/\ids4.length=d.length/\ZA e [(5,(.buf id1 d.length 1)),(14,(vi ((d.length:Nat):Int))),(15,(vi s1.1))]/\Hs G (.blk id1 43 ids4::(famL 32 2 Bound.cs ids4 s1.2++[]))) (λy1 x e G=>(∃ a1,∃ (ids5:List PV),ids5.length=a1.length/\ids5.length=d.length/\y1=(.go a1)/\x = .exit 0/\ZA e [(5,(.buf id1 d.length 1))]/\Hs G (.blk id1 43 ids5::(famL 32 2 Bound.cs ids5 a1++[])))\/(∃ r',y1=(.ret r')/\x = .ret/\Ends CX Try.f44.results.toList (.tup [(vl (cL Bound.cs) r'.1),(vb r'.2.1),(vi r'.2.2)]) x e G)) ⟨ids1,hMids1,hNids1,EI V,H⟩ ?_) ?_
 ·intro s1 e G hI z h;obtain ⟨ids4,hMids4,hNids4,he,H⟩:=hI;obtain ⟨e,rfl⟩:=he.ex;unfold ZC.s0 at h;refine .tR 1 V H λb6 G H=>(.iV V (.na H λH=>(.then ?_)));refine .wh h V ?_ ?_<;>intro h
  ·refine .skip (.then (.inBlock (.tR 2 V H λb7 G H=>(.mV V (.aV V (.na H λH=>(.then (.tR 9 V H λb8 G H=>?_))))))));refine .mB V (.mV V ?_);obtain ⟨x3,q3,h⟩:=bs h;obtain ⟨v1,hv1,hr1⟩:=Z0I (rt:=32) (sz:=2) (c:=Bound.cs) hMids4 q3;refine .Zt H 0 V hNids4 V V (at?_nn q3) (hNids4▸Z03 hv1) V V nofun V ?_;refine .ld v1 H 0 V hNids4 V V hv1 nofun V (.mV V ?_);obtain ⟨x4,q4,h⟩:=bs h;refine .Z0K H (1+(s1.1).toNat) (ZO 1 V hr1) V V (at?_map q4) V V nofun V ?_;intro id2 hv2;refine .Z1X (id:=id2) H (1+(s1.1).toNat) (ZO 1 V hr1) hv2 (by simp) (at?_map q4) V V V V nofun V ?_;refine .bV [(.v (.int .i8 0)),(vi 0)] V (.cV (Z1Z (V:Zg x4 (Bound.mk 0 0)=_)) V (.na H λH=>?_));refine .wh h V ?_ ?_<;>intro h
   ·refine .tR 3 V H λb9 G H=>(.a1 .nils V V (.aV V (.aV V (.na H λH=>(.ret ?_)))));obtain rfl:=sj h;exact ⟨nofun,(.inr ⟨_,V,V,(Ends.H (xs:=[.nils,(vb false),(vi 0)]) (.inr V) H (.tmp (v:=.nils) V (.tmp (v:=(vb false)) V (.tmp (v:=(vi 0)) V .nil))) (.two (.cons (.c .n) (.cons (.c (.v _)) (.cons (.c (.v _)) .nil)))))⟩)⟩
   refine .skip (.ZS 8 V H λb10 G H=>(.mB V (.mV V ?_)));obtain ⟨x5,q5,h⟩:=bs h;obtain ⟨v2,hv3,hr2⟩:=Z0I (rt:=32) (sz:=2) (c:=Bound.cs) hMids4 q5;refine .Zt H 0 V hNids4 V V (at?_nn q5) (hNids4▸Z03 hv3) V V nofun V ?_;refine .ld v2 H 0 V hNids4 V V hv3 nofun V (.mV V (.bV [(.v (.int .i8 0)),(vi 0)] V ?_));obtain ⟨x6,q6,h⟩:=bs h;refine .Z0K H (1+(s1.1).toNat) (ZO 1 V hr2) V V (at?_map q6) V V nofun V ?_;intro id3 hv4;refine .Z1s (id:=id3) (j:=0) (zs:=[(.int .i8 0),(.int .i64 0)]) (u:=x6) (u':=(Bound.mk 0 0)) H (1+(s1.1).toNat) (ZO 1 V hr2) hv4 (by simp) q6 V (by simp) V V V V V V nofun λG H=>?_;have hMs1:ids4.length=(s1.2.set (s1.1).toNat (x5.set (s1.1).toNat (Bound.mk 0 0))).length:=hMids4.trans (YQ ..).symm;replace H:Has G _ _ (.blk id1 43 ids4::(famL 32 2 Bound.cs ids4 (s1.2.set (s1.1).toNat (x5.set (s1.1).toNat (Bound.mk 0 0)))++[])):=H.famSet (k:=1) rfl hMids4 hv3;refine .na H λH=>(.ZS 2 V H λb11 G H=>(.iV V (.mV V (.na H λH=>?_))));obtain rfl:=sj h;exact ⟨V,ids4,hMs1,hNids4,EI V,H⟩
  refine .exit ?_;obtain rfl:=sj h;exact ⟨nofun,(.inl ⟨_,ids4,hMids4,hNids4,V,V,EI V,H⟩)⟩
 ·rintro x e G (⟨a2,ids6,hMids6,hNids6,rfl,rfl,he,H⟩|⟨r',rfl,rfl,hE⟩)
  ·replace h:=jgo h;obtain ⟨e,rfl⟩:=he.ex;refine .then (.tR 3 V H λb12 G H=>(.mB V (.lenM H 0 V hNids6 V V nofun V (.mV V (.na H λH=>(.inBlock ?_))))));obtain ⟨y2,hj2,h⟩:=bs h;obtain ⟨n2,hj2⟩:=ZV.1 hj2;refine .mono (Runs.loopO hj2 (λs2 e G=>∃ (ids9:List PV),ids9.length=s2.2.length/\ids9.length=d.length/\ZA e [(5,(.buf id1 d.length 1)),(36,(vi ((d.length:Nat):Int))),(37,(vi s2.1))]/\Hs G (.blk id1 43 ids9::(famL 32 2 Bound.cs ids9 s2.2++[]))) (λy2 x e G=>(∃ a3,∃ (ids10:List PV),ids10.length=a3.length/\ids10.length=d.length/\y2=(.go a3)/\x = .exit 2/\ZA e [(5,(.buf id1 d.length 1))]/\Hs G (.blk id1 43 ids10::(famL 32 2 Bound.cs ids10 a3++[])))\/(∃ r',y2=(.ret r')/\x = .ret/\Ends CX Try.f44.results.toList (.tup [(vl (cL Bound.cs) r'.1),(vb r'.2.1),(vi r'.2.2)]) x e G)) ⟨ids6,hMids6,hNids6,EI V,H⟩ ?_) ?_
   ·intro s2 e G hI z h;obtain ⟨ids9,hMids9,hNids9,he,H⟩:=hI;obtain ⟨e,rfl⟩:=he.ex;unfold ZC.s1 at h;refine .tR 1 V H λb13 G H=>(.iV V (.na H λH=>(.then ?_)));refine .wh h V ?_ ?_<;>intro h
    ·refine .skip (.then (.inBlock (.tR 2 V H λb14 G H=>(.mV V (.aV V (.na H λH=>(.tR 4 V H λb15 G H=>(.mB V ?_))))))));refine .mV V ?_;obtain ⟨y3,hj3,h⟩:=bs h;refine .callI (PostA:=λr A=>∃ (ids11:List PV),ids11.length=y3.2.length/\ids11.length=d.length/\r=(vb y3.1)/\A=(.blk id1 43 ids11::famL 32 2 Bound.cs ids11 y3.2)) (cv:=(.v (.fn 70))) (ys:=[(.buf id1 d.length 1),(vi s2.1)]) (L:=[]) (.blk id1 43 ids9::famL 32 2 Bound.cs ids9 s2.2) H V V (λT1 hT H=>callI_of Try.func70 V (λ_=>V) V V V V ?_) nofun V ?_
     ·replace h:=hj3;refine .tR 1 V H λb16 G H=>(.aV V (.na H λH=>(.then (.tR 3 V H λb17 G H=>(.mB V (.lenM H 0 V hNids9 V V nofun V (.mV V (.na H λH=>?_))))))));refine .inBlock ?_;obtain ⟨y4,hj4,h⟩:=bs h;obtain ⟨n3,hj4⟩:=ZV.1 hj4;refine .mono (Runs.loopO hj4 (λs3 e G=>∃ (ids14:List PV),ids14.length=s3.2.length/\ids14.length=d.length/\ZA e [(0,(.buf id1 d.length 1)),(1,(vi s2.1)),(11,(vi ((d.length:Nat):Int))),(12,(vi s3.1))]/\Hs G (.blk id1 43 ids14::(famL 32 2 Bound.cs ids14 s3.2++T1))) (λy4 x e G=>∃ (ids15:List PV),ids15.length=y4.length/\ids15.length=d.length/\x = .exit 0/\ZA e [(0,(.buf id1 d.length 1))]/\Hs G (.blk id1 43 ids15::(famL 32 2 Bound.cs ids15 y4++T1))) ⟨ids9,hMids9,hNids9,EI V,H⟩ ?_) ?_
      ·intro s3 e G hI z h;obtain ⟨ids14,hMids14,hNids14,he,H⟩:=hI;obtain ⟨e,rfl⟩:=he.ex;unfold ZC.s2 at h;refine .tR 1 V H λb18 G H=>(.iV V (.na H λH=>(.then ?_)));refine .wh h V ?_ ?_<;>intro h
       ·refine .skip (.then (.inBlock (.tR 2 V H λb19 G H=>(.mV V (.aV V (.na H λH=>(.tR 3 V H λb20 G H=>(.mB V ?_))))))));refine .lenM H 0 V hNids14 V V nofun V (.mV V (.na H λH=>(.inBlock ?_)));obtain ⟨y5,hj5,h⟩:=bs h;obtain ⟨n4,hj5⟩:=ZV.1 hj5;refine .mono (Runs.loopO hj5 (λs4 e G=>∃ (ids18:List PV),ids18.length=s4.2.length/\ids18.length=d.length/\ZA e [(0,(.buf id1 d.length 1)),(1,(vi s2.1)),(5,(vi s3.1)),(11,(vi ((d.length:Nat):Int))),(12,(vi s3.1)),(16,(vi ((d.length:Nat):Int))),(17,(vi s4.1))]/\Hs G (.blk id1 43 ids18::(famL 32 2 Bound.cs ids18 s4.2++T1))) (λy5 x e G=>∃ (ids19:List PV),ids19.length=y5.length/\ids19.length=d.length/\x = .exit 2/\ZA e [(0,(.buf id1 d.length 1)),(1,(vi s2.1)),(11,(vi ((d.length:Nat):Int))),(12,(vi s3.1))]/\Hs G (.blk id1 43 ids19::(famL 32 2 Bound.cs ids19 y5++T1))) ⟨ids14,hMids14,hNids14,EI V,H⟩ ?_) ?_
        ·intro s4 e G hI z h;obtain ⟨ids18,hMids18,hNids18,he,H⟩:=hI;obtain ⟨e,rfl⟩:=he.ex;unfold ZC.s3 at h;refine .tR 1 V H λb21 G H=>(.iV V (.na H λH=>(.then ?_)));refine .wh h V ?_ ?_<;>intro h
         ·refine .skip (.then ?_);obtain ⟨y6,hj6,h⟩:=bs h;refine .mono (Q:=λx e G=>∃ (ids20:List PV),ids20.length=y6.length/\ids20.length=d.length/\x = .normal/\ZA e [(0,(.buf id1 d.length 1)),(1,(vi s2.1)),(5,(vi s3.1)),(11,(vi ((d.length:Nat):Int))),(12,(vi s3.1)),(16,(vi ((d.length:Nat):Int))),(17,(vi s4.1))]/\Hs G (.blk id1 43 ids20::(famL 32 2 Bound.cs ids20 y6++T1))) ?_ ?_
          ·replace h:=hj6;refine .inBlock ?_;obtain ⟨y7,hj7,h⟩:=bs h;refine .mono (Q:=λx e G=>∃ (ids21:List PV),ids21.length=y7.length/\ids21.length=d.length/\x = .normal/\ZA e [(0,(.buf id1 d.length 1)),(1,(vi s2.1)),(5,(vi s3.1)),(11,(vi ((d.length:Nat):Int))),(12,(vi s3.1)),(16,(vi ((d.length:Nat):Int))),(17,(vi s4.1))]/\Hs G (.blk id1 43 ids21::(famL 32 2 Bound.cs ids21 y7++T1))) ?_ ?_
           ·replace h:=hj7;refine .tR 2 V H λb22 G H=>(.mV V (.aV V (.na H λH=>(.then (.Z0d 21 V (by kernel_rfl) H λb23 G H B23=>(.mB V (.mV V ?_)))))));obtain ⟨x7,q7,h⟩:=bs h;obtain ⟨v3,hv5,hr3⟩:=Z0I (rt:=32) (sz:=2) (c:=Bound.cs) hMids18 q7;refine .Zt H 0 V hNids18 V V (at?_nn q7) (hNids18▸Z03 hv5) V V (so (B23 0 _ V _ V)) V ?_;refine .ld v3 H 0 V hNids18 V V hv5 (so (B23 0 _ V _ V)) V (.mV V ?_);obtain ⟨x8,q8,h⟩:=bs h;refine .Z0K H (1+(s3.1).toNat) (ZO 1 V hr3) V V (at?_map q8) V V (λ_ id ho=>.inl ⟨B23 (1+(s3.1).toNat) _ (ZO 1 V hr3) id ho,nofun,(λ_=>by kernel_rfl)⟩) V ?_;intro id4 hv6;refine .Z1X (id:=id4) H (1+(s3.1).toNat) (ZO 1 V hr3) hv6 (by simp) (at?_map q8) V V V V (λ_=>.inl ⟨B23 (1+(s3.1).toNat) _ (ZO 1 V hr3) _ (by rw [(hv6:(v3:PV)=_)];rfl),nofun,(λ_=>by kernel_rfl)⟩) V ?_;refine .mB V (.mV V ?_);obtain ⟨x9,q9,h⟩:=bs h;obtain ⟨v4,hv7,hr4⟩:=Z0I (rt:=32) (sz:=2) (c:=Bound.cs) hMids18 q9;refine .Zt H 0 V hNids18 V V (at?_nn q9) (hNids18▸Z03 hv7) V V (so (B23 0 _ V _ V)) V ?_;refine .ld v4 H 0 V hNids18 V V hv7 (so (B23 0 _ V _ V)) V (.mV V ?_);obtain ⟨x10,q10,h⟩:=bs h;refine .Z0K H (1+(s2.1).toNat) (ZO 1 V hr4) V V (at?_map q10) V V (λ_ id ho=>.inl ⟨B23 (1+(s2.1).toNat) _ (ZO 1 V hr4) id ho,nofun,(λ_=>by kernel_rfl)⟩) V ?_;intro id5 hv8
            refine .Z1X (id:=id5) H (1+(s2.1).toNat) (ZO 1 V hr4) hv8 (by simp) (at?_map q10) V V V V (λ_=>.inl ⟨B23 (1+(s2.1).toNat) _ (ZO 1 V hr4) _ (by rw [(hv8:(v4:PV)=_)];rfl),nofun,(λ_=>by kernel_rfl)⟩) V ?_;refine .cV (Z5u (V:ZB x8 x10=_)) V (.m1 (.tup [(.agg [(.v (.int .i8 (ZB x8 x10).1.Inf)),(vi (ZB x8 x10).1.N)]),(vi (ZB x8 x10).2)]) V V (.xV V (.xV V (.alc (cs:=[(.v (.int .i8 0)),(vi 0)]) H V V λG H=>(.Z4L (cells':=[(.v (.int .i8 (ZB x8 x10).1.Inf)),(vi (ZB x8 x10).1.N)]) H 0 V V V V V V V V V (λ_=>.inr ⟨18,V,by kernel_rfl,by decide⟩) λG H=>(.aV V (.na H λH=>(.then ?_))))))));refine .Z0d 13 V (by kernel_rfl) H λb24 G H B24=>(.mV V (.iV V (.mV V ?_)));obtain ⟨y8,hj8,h⟩:=bs h;refine .md H 10 [(50,(vb y8)),(0,(.buf id1 d.length 1)),(1,(vi s2.1)),(5,(vi s3.1)),(6,(vi s4.1)),(7,(.ptr (b23+18) 2 0)),(11,(vi ((d.length:Nat):Int))),(12,(vi s3.1)),(16,(vi ((d.length:Nat):Int))),(17,(vi s4.1))] (.blk (b23+18) 32 [(.v (.int .i8 (ZB x8 x10).1.Inf)),(vi (ZB x8 x10).1.N)] :: .blk id1 43 ids18::(famL 32 2 Bound.cs ids18 s4.2++T1)) V ?_ λe G H=>?_
            ·refine .sp hj8 V ?_ ?_<;>intro h
             ·refine .wt V V (.Z1q (cs:=[(.v (.int .i8 (ZB x8 x10).1.Inf)),(vi (ZB x8 x10).1.N)]) H 0 V V V V V V V (so (B24 0 _ V _ V)) V (.mB V (.mV V (.wt V V ?_))));obtain ⟨x11,q11,h⟩:=bs h;obtain ⟨v5,hv9,hr5⟩:=Z0I (rt:=32) (sz:=2) (c:=Bound.cs) hMids18 q11;refine .Zt H 1 V hNids18 V V (at?_nn q11) (hNids18▸Z03 hv9) V V (so (B24 1 _ V _ V)) V ?_;refine .wt V V (.ld v5 H 1 V hNids18 V V hv9 (so (B24 1 _ V _ V)) V (.mV V (.wt V V ?_)));obtain ⟨x12,q12,h⟩:=bs h;refine .Z0K H (2+(s3.1).toNat) (ZO 2 V hr5) V V (at?_map q12) V V (λ_ id ho=>.inl ⟨B24 (2+(s3.1).toNat) _ (ZO 2 V hr5) id ho,nofun,(λ_=>by kernel_rfl)⟩) V ?_;intro id6 hv10;refine .wt V V ?_;refine .Z1X (id:=id6) H (2+(s3.1).toNat) (ZO 2 V hr5) hv10 (by simp) (at?_map q12) V V V V (λ_=>.inl ⟨B24 (2+(s3.1).toNat) _ (ZO 2 V hr5) _ (by rw [(hv10:(v5:PV)=_)];rfl),nofun,(λ_=>by kernel_rfl)⟩) V ?_;refine .cV (Z1Z (V:Zg ((ZB x8 x10).1) x12=_)) V (.kT V (.nil ?_));obtain rfl:=sj h;exact ⟨EI V,H.wk (by omega)⟩
             refine .ps 9 V (.kF V (.nil ?_));obtain rfl:=sj h;exact ⟨EI V,H.wk (by omega)⟩
            refine .na H λH=>?_;refine .wh h V ?_ ?_<;>intro h
            ·refine .Z0d 8 V (by kernel_rfl) H λb25 G H B25=>(.mB V (.mV V ?_));obtain ⟨x13,q13,h⟩:=bs h;obtain ⟨v6,hv11,hr6⟩:=Z0I (rt:=32) (sz:=2) (c:=Bound.cs) hMids18 q13;refine .Zt H 1 V hNids18 V V (at?_nn q13) (hNids18▸Z03 hv11) V V (so (B25 1 _ V _ V)) V ?_;refine .ld v6 H 1 V hNids18 V V hv11 (so (B25 1 _ V _ V)) V (.mV V (.Z1q (cs:=[(.v (.int .i8 (ZB x8 x10).1.Inf)),(vi (ZB x8 x10).1.N)]) H 0 V V V V V V V (so (B25 0 _ V _ V)) V ?_));obtain ⟨x14,q14,h⟩:=bs h;refine .Z0K H (2+(s3.1).toNat) (ZO 2 V hr6) V V (at?_map q14) V V (λ_ id ho=>.inl ⟨B25 (2+(s3.1).toNat) _ (ZO 2 V hr6) id ho,nofun,(λ_=>by kernel_rfl)⟩) V ?_;intro id7 hv12;refine .Z1s (id:=id7) (j:=0) (zs:=[(.int .i8 (ZB x8 x10).1.Inf),(.int .i64 (ZB x8 x10).1.N)]) (u:=x14) (u':=((ZB x8 x10).1)) H (2+(s3.1).toNat) (ZO 2 V hr6) hv12 (by simp) q14 V (by simp) V V V V V V (λ_=>.inl ⟨B25 (2+(s3.1).toNat) _ (ZO 2 V hr6) _ (by rw [(hv12:(v6:PV)=_)];rfl),(λ_=>by kernel_rfl),nofun⟩) λG H=>?_;have hMs2:ids18.length=(s4.2.set (s3.1).toNat (x13.set (s4.1).toNat ((ZB x8 x10).1))).length:=hMids18.trans (YQ ..).symm;replace H:Has G _ _ (.blk (b23+18) 32 [(.v (.int .i8 (ZB x8 x10).1.Inf)),(vi (ZB x8 x10).1.N)] :: .blk id1 43 ids18::(famL 32 2 Bound.cs ids18 (s4.2.set (s3.1).toNat (x13.set (s4.1).toNat ((ZB x8 x10).1)))++T1)):=H.famSet (k:=2) rfl hMids18 hv11
             refine .na H λH=>?_;obtain rfl:=sj h;exact ⟨ids18,hMs2,hNids18,V,EI V,(H.erase 0)⟩
            refine .skip ?_;obtain rfl:=sj h;exact ⟨ids18,hMids18,hNids18,V,EI V,(H.erase 0)⟩
           ·rintro x e G ⟨ids22,hMids22,hNids22,rfl,he,H⟩;obtain ⟨e,rfl⟩:=he.ex;obtain rfl:=sj h;exact ⟨ids22,hMids22,hNids22,V,EI V,H⟩
          ·rintro x e G ⟨ids23,hMids23,hNids23,rfl,he,H⟩;obtain ⟨e,rfl⟩:=he.ex;refine .ZS 2 V H λb26 G H=>(.iV V (.mV V (.na H λH=>?_)));obtain rfl:=sj h;exact ⟨V,ids23,hMids23,hNids23,EI V,H⟩
         refine .exit ?_;obtain rfl:=sj h;exact ⟨nofun,⟨ids18,hMids18,hNids18,V,EI V,H⟩⟩
        ·rintro x e G ⟨ids24,hMids24,hNids24,rfl,he,H⟩;obtain ⟨e,rfl⟩:=he.ex;refine .ZS 2 V H λb27 G H=>(.iV V (.mV V (.na H λH=>?_)));obtain rfl:=sj h;exact ⟨V,ids24,hMids24,hNids24,EI V,H⟩
       refine .exit ?_;obtain rfl:=sj h;exact ⟨nofun,⟨ids14,hMids14,hNids14,V,EI V,H⟩⟩
      ·rintro x e G ⟨ids25,hMids25,hNids25,rfl,he,H⟩;obtain ⟨e,rfl⟩:=he.ex;refine .then (.tR 3 V H λb28 G H=>(.mB V (.lenM H 0 V hNids25 V V nofun V (.mV V (.na H λH=>(.inBlock ?_))))));obtain ⟨y9,hj9,h⟩:=bs h;obtain ⟨n5,hj9⟩:=ZV.1 hj9;refine .mono (Runs.loopO hj9 (λs5 e G=>ZA e [(0,(.buf id1 d.length 1)),(61,(vi ((d.length:Nat):Int))),(62,(vi s5))]/\Hs G (.blk id1 43 ids25::(famL 32 2 Bound.cs ids25 y4++T1))) (λy9 x e G=>(∃ a4,y9=(.go a4)/\x = .exit 4/\ZA e []/\Hs G (.blk id1 43 ids25::(famL 32 2 Bound.cs ids25 y4++T1)))\/(∃ a5,y9=(.ret a5)/\x = .ret/\ZA e [(4,(vb false))]/\Hs G (.blk id1 43 ids25::(famL 32 2 Bound.cs ids25 y4++T1)))) ⟨EI V,H⟩ ?_) ?_
       ·intro s5 e G hI z h;obtain ⟨he,H⟩:=hI;obtain ⟨e,rfl⟩:=he.ex;unfold ZC.s4 at h;refine .tR 1 V H λb29 G H=>(.iV V (.na H λH=>(.then ?_)));refine .wh h V ?_ ?_<;>intro h
        ·refine .skip (.then (.inBlock (.tR 2 V H λb30 G H=>(.mV V (.aV V (.na H λH=>(.tR 9 V H λb31 G H=>(.mB V ?_))))))));refine .mV V ?_;obtain ⟨x15,q15,h⟩:=bs h;obtain ⟨v7,hv13,hr7⟩:=Z0I (rt:=32) (sz:=2) (c:=Bound.cs) hMids25 q15;refine .Zt H 0 V hNids25 V V (at?_nn q15) (hNids25▸Z03 hv13) V V nofun V ?_;refine .ld v7 H 0 V hNids25 V V hv13 nofun V (.mV V ?_);obtain ⟨x16,q16,h⟩:=bs h;refine .Z0K H (1+(s5).toNat) (ZO 1 V hr7) V V (at?_map q16) V V nofun V ?_;intro id8 hv14;refine .Z1X (id:=id8) H (1+(s5).toNat) (ZO 1 V hr7) hv14 (by simp) (at?_map q16) V V V V nofun V ?_;refine .bV [(.v (.int .i8 0)),(vi 0)] V (.cV (Z1Z (V:Zg x16 (Bound.mk 0 0)=_)) V (.na H λH=>?_));refine .wh h V ?_ ?_<;>intro h
         ·refine .tR 1 V H λb32 G H=>(.aV V (.na H λH=>(.ret ?_)));obtain rfl:=sj h;exact ⟨nofun,(.inr ⟨_,V,V,EI V,H⟩)⟩
         refine .skip (.ZS 2 V H λb33 G H=>(.iV V (.mV V (.na H λH=>?_))));obtain rfl:=sj h;exact ⟨V,EI V,H⟩
        refine .exit ?_;obtain rfl:=sj h;exact ⟨nofun,(.inl ⟨_,V,V,U,H⟩)⟩
       ·rintro x e G (⟨a6,rfl,rfl,he,H⟩|⟨a7,rfl,rfl,he,H⟩)
        ·replace h:=jgo h;obtain ⟨e,rfl⟩:=he.ex;refine .tR 1 V H λb34 G H=>(.aV V (.na H λH=>(.ret ?_)));obtain rfl:=sj h;exact ⟨.inr V,_,Z0C H (.tmp (v:=(vb true)) V .nil),_,⟨ids25,hMids25,hNids25,V,V⟩,H⟩
        ·replace h:=jret h;obtain ⟨e,rfl⟩:=he.ex;obtain rfl:=sj h;exact ⟨.inr V,_,Z0C H (.tmp (v:=(vb false)) V .nil),_,⟨ids25,hMids25,hNids25,V,V⟩,H⟩
     ·rintro _ _ G ⟨ids11,hMids11,hNids11,rfl,rfl⟩ H;refine .tV V (.na H λH=>?_);refine .wh h V ?_ ?_<;>intro h
      ·refine .tR 3 V H λb35 G H=>(.a1 .nils V V (.aV V (.aV V (.na H λH=>(.ret ?_)))));obtain rfl:=sj h;exact ⟨nofun,(.inr ⟨_,V,V,(Ends.H (xs:=[.nils,(vb false),(vi 0)]) (.inr V) H (.tmp (v:=.nils) V (.tmp (v:=(vb false)) V (.tmp (v:=(vi 0)) V .nil))) (.two (.cons (.c .n) (.cons (.c (.v _)) (.cons (.c (.v _)) .nil)))))⟩)⟩
      refine .skip (.ZS 2 V H λb36 G H=>(.iV V (.mV V (.na H λH=>?_))));obtain rfl:=sj h;exact ⟨V,ids11,hMids11,hNids11,EI V,H⟩
    refine .exit ?_;obtain rfl:=sj h;exact ⟨nofun,(.inl ⟨_,ids9,hMids9,hNids9,V,V,EI V,H⟩)⟩
   ·rintro x e G (⟨a8,ids26,hMids26,hNids26,rfl,rfl,he,H⟩|⟨r',rfl,rfl,hE⟩)
    ·replace h:=jgo h;obtain ⟨e,rfl⟩:=he.ex;refine .tR 4 V H λb37 G H=>(.mB V (.aB V (.aV V (.aV V (.na H λH=>(.ret ?_))))));obtain rfl:=sj h;exact (Ends.M (c:=Bound.cs) (T:=[]) (.inr V) H 0 V V hMids26 hNids26 (Z0C H (.tmp (v:=(.buf id1 d.length 1)) V (.tmp (v:=(vb true)) V (.tmp (v:=(vi 0)) V .nil)))) V V)
    ·replace h:=jret h;obtain rfl:=sj h;exact hE
  ·replace h:=jret h;obtain rfl:=sj h;exact hE
theorem Z2r {d:(List (List Bound))} {r:(List (List Bound))×Bool×Int} (h:Z1h d=some r):Fn CX 44 [(vl (cL Bound.cs) d)] (.tup [(vl (cL Bound.cs) r.1),(vb r.2.1),(vi r.2.2)]):=by
 cases d with
 | nil=>cases Option.some.inj h;exact Fn.intr rfl rfl rfl rfl
 | cons a0 d0=>exact stp_Close_fn rfl h
theorem Z4I {a:(List (List Bound))} {b:(List (List Bound))} {r:Bool} (h:Za a b=some r):Fn CX 46 [(vl (cL Bound.cs) a),(vl (cL Bound.cs) b)] (vb r):=by
 refine Fn.go Try.func46 V λG H=>?_;unfold Za at h;refine .tR 1 V H λb1 G H=>(.aV V (.na H λH=>(.then (.tR 5 V H λb2 G H=>(.mV V (.nV V (.mV V (.nV V ?_))))))));refine .iV V (.na H λH=>?_);refine .wh h V ?_ ?_<;>intro h
 ·refine .tR 1 V H λb3 G H=>(.aV V (.na H λH=>(.ret ?_)));obtain rfl:=sj h;exact Ends.eR V
 refine .skip (.then (.tR 1 V H λb4 G H=>(.aV V (.na H λH=>(.inBlock ?_)))));obtain ⟨y1,hj1,h⟩:=bs h;obtain ⟨n1,hj1⟩:=ZV.1 hj1;refine .mono (Runs.loopO hj1 (λs1 e G=>ZA e [(0,(vl (cL Bound.cs) a)),(1,(vl (cL Bound.cs) b)),(5,(vi s1))]/\Hs G []) (λy1 x e G=>(∃ a1,y1=(.go a1)/\x = .exit 0/\ZA e []/\Hs G [])\/(∃ r',y1=(.ret r')/\x = .ret/\Ends CX Try.f46.results.toList (vb r') x e G)) ⟨EI V,H⟩ ?_) ?_
 ·intro s1 e G hI z h;obtain ⟨he,H⟩:=hI;obtain ⟨e,rfl⟩:=he.ex;unfold Za.s0 at h;refine .then (.tR 4 V H λb5 G H=>(.mV V (.mV V (.nV V (.iV V (.na H λH=>?_))))));refine .wh h V ?_ ?_<;>intro h
  ·refine .skip (.then (.inBlock (.then (.then (.Z0d 11 V (by kernel_rfl) H λb6 G H B6=>(.mV V (.mV V ?_)))))));obtain ⟨x1,q1,h⟩:=bs h;refine .jV q1 V (.pV V (.nV V (.mV V (.mV V ?_))));obtain ⟨x2,q2,h⟩:=bs h;refine .jV q2 V (.pV V (.nV V (.iV V (.na H λH=>?_))));refine .wh h V ?_ ?_<;>intro h
   ·refine .tR 1 V H λb7 G H=>(.aV V (.na H λH=>(.ret ?_)));obtain rfl:=sj h;exact ⟨nofun,(.inr ⟨_,V,V,(Ends.H (xs:=[(vb false)]) (.inr V) H (.tmp (v:=(vb false)) V .nil) (.one (.c (.v _))))⟩)⟩
   refine .skip (.tR 1 V H λb8 G H=>(.aV V (.na H λH=>(.inBlock ?_))));obtain ⟨y2,hj2,h⟩:=bs h;obtain ⟨n2,hj2⟩:=ZV.1 hj2;refine .mono (Runs.loopO hj2 (λs2 e G=>ZA e [(0,(vl (cL Bound.cs) a)),(1,(vl (cL Bound.cs) b)),(5,(vi s1)),(6,(vi s2))]/\Hs G []) (λy2 x e G=>(∃ a2,y2=(.go a2)/\x = .exit 2/\ZA e [(0,(vl (cL Bound.cs) a)),(1,(vl (cL Bound.cs) b)),(5,(vi s1))]/\Hs G [])\/(∃ r',y2=(.ret r')/\x = .ret/\Ends CX Try.f46.results.toList (vb r') x e G)) ⟨EI V,H⟩ ?_) ?_
   ·intro s2 e G hI z h;obtain ⟨he,H⟩:=hI;obtain ⟨e,rfl⟩:=he.ex;unfold Za.s1 at h;refine .then (.tR 7 V H λb9 G H=>(.mV V (.mV V (.mV V ?_))));obtain ⟨x3,q3,h⟩:=bs h;refine .jV q3 V (.pV V (.nV V (.iV V (.na H λH=>?_))));refine .wh h V ?_ ?_<;>intro h
    ·refine .skip (.then (.inBlock (.then (.Z0d 15 V (by kernel_rfl) H λb10 G H B10=>(.mV V (.mV V ?_))))));obtain ⟨x4,q4,h⟩:=bs h;refine .jV q4 V (.pV V (.mV V ?_));obtain ⟨x5,q5,h⟩:=bs h;refine .jV q5 V (.qV [(.int .i8 x5.Inf),(.int .i64 x5.N)] V (.mV V (.mV V ?_)));obtain ⟨x6,q6,h⟩:=bs h;refine .jV q6 V (.pV V (.mV V ?_));obtain ⟨x7,q7,h⟩:=bs h;refine .jV q7 V (.qV [(.int .i8 x7.Inf),(.int .i64 x7.N)] V (.binA (u:=(.agg [(.v (.int .i8 x5.Inf)),(vi x5.N)])) (w:=(.agg [(.v (.int .i8 x7.Inf)),(vi x7.N)])) (r:=.bool (!((x5.Inf==x7.Inf)&&((x5.N==x7.N)&&true)))) V V (by kernel_rfl) (λ_=>Z1w V V V V) V (.na H λH=>?_)));refine .wh h V ?_ ?_<;>intro h
     ·refine .tR 1 V H λb11 G H=>(.aV V (.na H λH=>(.ret ?_)));obtain rfl:=sj h;exact ⟨nofun,(.inr ⟨_,V,V,(Ends.H (xs:=[(vb false)]) (.inr V) H (.tmp (v:=(vb false)) V .nil) (.one (.c (.v _))))⟩)⟩
     refine .skip (.ZS 3 V H λb12 G H=>(.mV V (.iV V (.aV V (.na H λH=>?_)))));obtain rfl:=sj h;exact ⟨V,EI V,H⟩
    refine .exit ?_;obtain rfl:=sj h;exact ⟨nofun,(.inl ⟨_,V,V,EI V,H⟩)⟩
   ·rintro x e G (⟨a3,rfl,rfl,he,H⟩|⟨r',rfl,rfl,hE⟩)
    ·replace h:=jgo h;obtain ⟨e,rfl⟩:=he.ex;refine .ZS 3 V H λb13 G H=>(.mV V (.iV V (.aV V (.na H λH=>?_))));obtain rfl:=sj h;exact ⟨V,EI V,H⟩
    ·replace h:=jret h;obtain rfl:=sj h;exact ⟨nofun,(.inr ⟨_,V,V,hE⟩)⟩
  refine .exit ?_;obtain rfl:=sj h;exact ⟨nofun,(.inl ⟨_,V,V,U,H⟩)⟩
 ·rintro x e G (⟨a4,rfl,rfl,he,H⟩|⟨r',rfl,rfl,hE⟩)
  ·replace h:=jgo h;obtain ⟨e,rfl⟩:=he.ex;refine .tR 1 V H λb14 G H=>(.aV V (.na H λH=>(.ret ?_)));obtain rfl:=sj h;exact Ends.eR V
  ·replace h:=jret h;obtain rfl:=sj h;exact hE
theorem safe_Sub_fn {a:Int} {b:Int} {r:Int×Int} (h:Z0z a b=r):Fn CX 21 [(vi a),(vi b)] (.tup [(vi r.1),(vi r.2)]):=by
 refine Fn.go Try.func21 V λG H=>?_;unfold Z0z at h;refine .tR 2 V H λb1 G H=>(.aV V (.aV V (.na H λH=>(.tR 4 V H λb2 G H=>(.mV V (.mV V (.iV V (.aV V ?_))))))));refine .na H λH=>(.then (.tR 10 V H λb3 G H=>(.mV V (.mV V (.iV V (.mV V (.iV V (.neB (b:=(decide ((w64 (a-b))<a))) (b':=(decide (b>0))) V V V V ?_))))))));refine .mV V ?_;refine .md H 3 [(19,(vb (((decide ((w64 (a-b))<a)) != (decide (b>0)))&&(b != 0)))),(6,(vi (w64 (a-b))))] [] V ?_ λe G H=>?_
 ·refine .split V V ?_ ?_<;>intro hc1
  ·refine .mV V (.iV V (.kT V (.nil ?_)));exact ⟨⟨Z0h hc1,V,U⟩,H.wk (by omega)⟩
  ·refine .ps 2 V (.kF V (.nil ?_));exact ⟨⟨Z0j hc1,V,U⟩,H.wk (by omega)⟩
 refine .na H λH=>?_;refine .wh h V ?_ ?_<;>intro h
 ·refine .tR 2 V H λb4 G H=>(.aV V (.aV V (.na H λH=>(.ret ?_))));subst h;exact Ends.eR V
 refine .skip (.tR 3 V H λb5 G H=>(.mV V (.aV V (.aV V (.na H λH=>(.ret ?_))))));subst h;exact Ends.eR V
theorem Z4g {d:(List (List Bound))} {ticks:(List Int)} {r:Bool} (h:ZY d ticks=some r):Fn CX 39 [(vl (cL Bound.cs) d),(vl (cI .i64) ticks)] (vb r):=by
 refine Fn.go Try.func39 V λG H=>?_;unfold ZY at h;refine .tR 1 V H λb1 G H=>(.aV V (.na H λH=>(.then (.tR 10 V H λb2 G H=>(.mV V ?_)))));obtain ⟨x1,q1,h⟩:=bs h;refine .cV (Z2I q1) V (.tV V (.mV V ?_));refine .md H 6 [(20,(vb ((!x1)||((ticks.length:Int) != (d.length:Int))))),(0,(vl (cL Bound.cs) d)),(1,(vl (cI .i64) ticks))] [] rfl ?_ λe G H=>?_
 ·refine .split V V ?_ ?_<;>intro hc1
  ·refine .ps 5 V (.kT V (.nil ?_));exact ⟨⟨or_T hc1,V,V,U⟩,H.wk (by omega)⟩
  ·refine .mV V (.nV V (.mV V (.nV V (.iV V (.kF V (.nil ?_))))));exact ⟨⟨or_F hc1,V,V,U⟩,H.wk (by omega)⟩
 refine .na H λH=>?_;refine .wh h V ?_ ?_<;>intro h
 ·refine .tR 1 V H λb3 G H=>(.aV V (.na H λH=>(.ret ?_)));obtain rfl:=sj h;exact Ends.eR V
 refine .skip (.then (.tR 3 V H λb4 G H=>(.mV V (.nV V (.mV V (.na H λH=>(.inBlock ?_)))))));obtain ⟨y1,hj1,h⟩:=bs h;obtain ⟨n1,hj1⟩:=ZV.1 hj1;refine .mono (Runs.loopO hj1 (λs1 e G=>ZA e [(1,(vl (cI .i64) ticks)),(21,(vl (cL Bound.cs) d)),(22,(vi (d.length:Int))),(23,(vi s1))]/\Hs G []) (λy1 x e G=>(∃ a1,y1=(.go a1)/\x = .exit 0/\ZA e []/\Hs G [])\/(∃ r',y1=(.ret r')/\x = .ret/\Ends CX Try.f39.results.toList (vb r') x e G)) ⟨EI V,H⟩ ?_) ?_
 ·intro s1 e G hI z h;obtain ⟨he,H⟩:=hI;obtain ⟨e,rfl⟩:=he.ex;unfold ZY.s0 at h;refine .tR 1 V H λb5 G H=>(.iV V (.na H λH=>(.then ?_)));refine .wh h V ?_ ?_<;>intro h
  ·refine .skip (.then (.inBlock (.tR 5 V H λb6 G H=>(.mV V ?_))));obtain ⟨x2,q2,h⟩:=bs h;refine .jV q2 V (.pV V (.aV V (.aV V (.na H λH=>(.tR 3 V H λb7 G H=>(.mV V (.nV V (.mV V ?_))))))));refine .na H λH=>(.inBlock ?_);obtain ⟨y2,hj2,h⟩:=bs h;obtain ⟨n2,hj2⟩:=ZV.1 hj2;refine .mono (Runs.loopO hj2 (λs2 e G=>ZA e [(1,(vl (cI .i64) ticks)),(5,(vi s1)),(21,(vl (cL Bound.cs) d)),(22,(vi (d.length:Int))),(23,(vi s1)),(28,(vl Bound.cs x2)),(29,(vi (x2.length:Int))),(30,(vi s2))]/\Hs G []) (λy2 x e G=>(∃ a2,y2=(.go a2)/\x = .exit 2/\ZA e [(1,(vl (cI .i64) ticks)),(21,(vl (cL Bound.cs) d)),(22,(vi (d.length:Int))),(23,(vi s1))]/\Hs G [])\/(∃ r',y2=(.ret r')/\x = .ret/\Ends CX Try.f39.results.toList (vb r') x e G)) ⟨EI V,H⟩ ?_) ?_
   ·intro s2 e G hI z h;obtain ⟨he,H⟩:=hI;obtain ⟨e,rfl⟩:=he.ex;unfold ZY.s1 at h;refine .tR 1 V H λb8 G H=>(.iV V (.na H λH=>(.then ?_)));refine .wh h V ?_ ?_<;>intro h
    ·refine .skip (.then ?_);obtain ⟨y3,hj3,h⟩:=bs h;refine .mono (Q:=λx e G=>(∃ a3,y3=(.go a3)/\x = .normal/\ZA e [(1,(vl (cI .i64) ticks)),(5,(vi s1)),(21,(vl (cL Bound.cs) d)),(22,(vi (d.length:Int))),(23,(vi s1)),(28,(vl Bound.cs x2)),(29,(vi (x2.length:Int))),(30,(vi s2))]/\Hs G [])\/(∃ r',y3=(.ret r')/\x = .ret/\Ends CX Try.f39.results.toList (vb r') x e G)) ?_ ?_
     ·replace h:=hj3;refine .inBlock ?_;obtain ⟨y4,hj4,h⟩:=bs h;refine .mono (Q:=λx e G=>(∃ a4,y4=(.go a4)/\x = .normal/\ZA e [(1,(vl (cI .i64) ticks)),(5,(vi s1)),(21,(vl (cL Bound.cs) d)),(22,(vi (d.length:Int))),(23,(vi s1)),(28,(vl Bound.cs x2)),(29,(vi (x2.length:Int))),(30,(vi s2))]/\Hs G [])\/(∃ r',y4=(.ret r')/\x = .ret/\Ends CX Try.f39.results.toList (vb r') x e G)) ?_ ?_
      ·replace h:=hj4;refine .tR 6 V H λb9 G H=>(.mV V ?_);obtain ⟨x3,q3,h⟩:=bs h;refine .jV q3 V (.qV [(.int .i8 x3.Inf),(.int .i64 x3.N)] V (.alc (cs:=[(.v (.int .i8 0)),(vi 0)]) H V V λG H=>(.aV V (.sV [(.v (.int .i8 x3.Inf)),(vi x3.N)] H 0 V λG H=>(.na H λH=>(.then (.Z0d 14 V (by kernel_rfl) H λb10 G H B10=>(.mV V ?_))))))));refine .mV V ?_;obtain ⟨x4,q4,h⟩:=bs h;refine .jV q4 V (.pV V (.mV V (.mV V ?_)));obtain ⟨x5,q5,h⟩:=bs h;refine .jV q5 V (.pV V (.cV (safe_Sub_fn V) V (.m1 (.tup [(vi (Z0z x4 x5).1),(vi (Z0z x4 x5).2)]) V V (.xV V (.xV V (.aV V (.aV V (.na H λH=>?_))))))));refine .inBlock ?_;obtain ⟨y5,hj5,h⟩:=bs h;refine .mono (Q:=λx e G=>(∃ a5,y5=(.go a5)/\x = .normal/\ZA e [(1,(vl (cI .i64) ticks)),(5,(vi s1)),(21,(vl (cL Bound.cs) d)),(22,(vi (d.length:Int))),(23,(vi s1)),(28,(vl Bound.cs x2)),(29,(vi (x2.length:Int))),(30,(vi s2))]/\Hs G [])\/(∃ r',y5=(.ret r')/\x = .ret/\Ends CX Try.f39.results.toList (vb r') x e G)) ?_ ?_
       ·replace h:=hj5;refine .tR 4 V H λb11 G H=>(.fV H 0 V (.lV H 0 V (.iV V (.aV V (.na H λH=>?_)))));refine .wh h V ?_ ?_<;>intro h
        ·refine .skip ?_;obtain rfl:=sj h;exact (.inl ⟨_,V,V,EI V,(H.erase 0)⟩)
        refine .then ?_;refine .jn h .normal (λy6=>[(1,(vl (cI .i64) ticks)),(5,(vi s1)),(21,(vl (cL Bound.cs) d)),(22,(vi (d.length:Int))),(23,(vi s1)),(28,(vl Bound.cs x2)),(29,(vi (x2.length:Int))),(30,(vi s2)),(51,(vb y6))]) (λy6=>[]) (λy6 h=>?_) λy6 e G H h=>?_
        ·refine .then (.Z0d 14 V (by kernel_rfl) H λb12 G H B12=>(.mV V (.iV V (.mV V ?_))));obtain ⟨y7,hj7,h⟩:=bs h;refine .md H 10 [(64,(vb y7)),(1,(vl (cI .i64) ticks)),(5,(vi s1)),(8,(.ptr (b9+3) 2 0)),(9,(vi (Z0z x4 x5).1)),(10,(vi (Z0z x4 x5).2)),(21,(vl (cL Bound.cs) d)),(22,(vi (d.length:Int))),(23,(vi s1)),(28,(vl Bound.cs x2)),(29,(vi (x2.length:Int))),(30,(vi s2))] [.blk (b9+3) 32 [(.v (.int .i8 x3.Inf)),(vi x3.N)]] V ?_ λe G H=>?_
         ·refine .sp hj7 V ?_ ?_<;>intro h
          ·refine .mV V (.mV V (.wt V V ?_));obtain ⟨x6,q6,h⟩:=bs h;refine .jV q6 V (.pV V (.mV V (.mV V (.wt V V ?_))));obtain ⟨x7,q7,h⟩:=bs h;refine .jV q7 V (.pV V (.iV V (.kT V (.nil ?_))));obtain rfl:=sj h;exact ⟨EI V,H.wk (by omega)⟩
          refine .ps 9 V (.kF V (.nil ?_));obtain rfl:=sj h;exact ⟨EI V,H.wk (by omega)⟩
         refine .aV V (.na H λH=>?_);refine .wh h V ?_ ?_<;>intro h
         ·refine .skip ?_;obtain rfl:=sj h;exact ⟨V,EI V,(H.erase 0)⟩
         refine .ZS 9 V H λb13 G H=>(.mV V (.iV V (.mV V ?_)));refine .md H 5 [(72,(vb ((((Z0z x4 x5).2)==0)&&(decide (((Z0z x4 x5).1)>x3.N))))),(1,(vl (cI .i64) ticks)),(5,(vi s1)),(21,(vl (cL Bound.cs) d)),(22,(vi (d.length:Int))),(23,(vi s1)),(28,(vl Bound.cs x2)),(29,(vi (x2.length:Int))),(30,(vi s2))] [] V ?_ λe G H=>?_
         ·refine .split V V ?_ ?_<;>intro hc8
          ·refine .mV V (.fV H 0 V (.lV H 0 V (.iV V (.kT V (.nil ?_)))));exact ⟨⟨Z0h hc8,V,V,V,V,V,V,V,V,U⟩,(H.erase 0).wk (by omega)⟩
          ·refine .ps 4 V (.kF V (.nil ?_));exact ⟨⟨Z0j hc8,V,V,V,V,V,V,V,V,U⟩,(H.erase 0).wk (by omega)⟩
         refine .aV V (.na H λH=>?_);obtain rfl:=sj h;exact ⟨V,EI V,H⟩
        refine .wh h V ?_ ?_<;>intro h
        ·refine .tR 1 V H λb14 G H=>(.aV V (.na H λH=>(.ret ?_)));obtain rfl:=sj h;exact (.inr ⟨_,V,V,(Ends.H (xs:=[(vb false)]) (.inr V) H (.tmp (v:=(vb false)) V .nil) (.one (.c (.v _))))⟩)
        refine .skip ?_;obtain rfl:=sj h;exact (.inl ⟨_,V,V,EI V,H⟩)
       ·rintro x e G (⟨a6,rfl,rfl,he,H⟩|⟨r',rfl,rfl,hE⟩)
        ·replace h:=jgo h;obtain ⟨e,rfl⟩:=he.ex;obtain rfl:=sj h;exact (.inl ⟨_,V,V,EI V,H⟩)
        ·replace h:=jret h;obtain rfl:=sj h;exact (.inr ⟨_,V,V,hE⟩)
      ·rintro x e G (⟨a7,rfl,rfl,he,H⟩|⟨r',rfl,rfl,hE⟩)
       ·replace h:=jgo h;obtain ⟨e,rfl⟩:=he.ex;obtain rfl:=sj h;exact (.inl ⟨_,V,V,EI V,H⟩)
       ·replace h:=jret h;obtain rfl:=sj h;exact (.inr ⟨_,V,V,hE⟩)
     ·rintro x e G (⟨a8,rfl,rfl,he,H⟩|⟨r',rfl,rfl,hE⟩)
      ·replace h:=jgo h;obtain ⟨e,rfl⟩:=he.ex;refine .ZS 2 V H λb15 G H=>(.iV V (.mV V (.na H λH=>?_)));obtain rfl:=sj h;exact ⟨V,EI V,H⟩
      ·replace h:=jret h;obtain rfl:=sj h;exact ⟨nofun,(.inr ⟨_,V,V,hE⟩)⟩
    refine .exit ?_;obtain rfl:=sj h;exact ⟨nofun,(.inl ⟨_,V,V,EI V,H⟩)⟩
   ·rintro x e G (⟨a9,rfl,rfl,he,H⟩|⟨r',rfl,rfl,hE⟩)
    ·replace h:=jgo h;obtain ⟨e,rfl⟩:=he.ex;refine .ZS 2 V H λb16 G H=>(.iV V (.mV V (.na H λH=>?_)));obtain rfl:=sj h;exact ⟨V,EI V,H⟩
    ·replace h:=jret h;obtain rfl:=sj h;exact ⟨nofun,(.inr ⟨_,V,V,hE⟩)⟩
  refine .exit ?_;obtain rfl:=sj h;exact ⟨nofun,(.inl ⟨_,V,V,U,H⟩)⟩
 ·rintro x e G (⟨a10,rfl,rfl,he,H⟩|⟨r',rfl,rfl,hE⟩)
  ·replace h:=jgo h;obtain ⟨e,rfl⟩:=he.ex;refine .tR 1 V H λb17 G H=>(.aV V (.na H λH=>(.ret ?_)));obtain rfl:=sj h;exact Ends.eR V
  ·replace h:=jret h;obtain rfl:=sj h;exact hE
theorem Z3k {r:Bool} (h:Z0a=some r):Fn CX 35 [] (vb r):=by
 refine Fn.go Try.func35 V λG H=>?_;unfold Z0a at h;refine .tR 1 V H λb1 G H=>(.aV V (.na H λH=>(.tR 11 V H λb2 G H=>(.cV (Ze V) V (.bV [(vi 0),(vi 1),(.v (.int .i8 (Z1 5).Inf)),(vi (Z1 5).N)] V (.cV (Ze V) V (.bV [(vi 1),(vi 0),(.v (.int .i8 (Z1 (-2)).Inf)),(vi (Z1 (-2)).N)] V (.Z2B (sz:=4) ([(epactlaw24_Set.mk 0 1 (Z1 5)),(epactlaw24_Set.mk 1 0 (Z1 (-2)))].map epactlaw24_Set.cs) H (by omega) (by omega) V V V V V V V V V λG H=>?_))))))));obtain ⟨x1,q1,h⟩:=bs h;refine .callX (xs:=[(vi 2),(.buf (b2+4) 2 4)]) (ys:=[(vi 2),(vl epactlaw24_Set.cs [(epactlaw24_Set.mk 0 1 (Z1 5)),(epactlaw24_Set.mk 1 0 (Z1 (-2)))])]) H V (.cons (.c (.v _)) (.cons (.c (.s 0 V)) .nil)) (Z0g q1) V V nofun V λG H=>(.m1 (.tup [(vl (cL Bound.cs) x1.1),(vb x1.2)]) V V (.xV V (.xV V (.aV V (.aV V (.na H λH=>(.tR 9 V H λb3 G H=>(.mV V ?_))))))));obtain ⟨x2,q2,h⟩:=bs h;refine .cV (Z2r q2) V (.m1 (.tup [(vl (cL Bound.cs) x2.1),(vb x2.2.1),(vi x2.2.2)]) V V (.xV V (.xV V (.xV V (.aV V (.aV V (.aV V (.na H λH=>?_))))))));refine .tR 13 V H λb4 G H=>(.cV (Ze V) V (.bV [(vi 0),(vi 1),(.v (.int .i8 (Z1 5).Inf)),(vi (Z1 5).N)] V (.cV (Ze V) V (.bV [(vi 1),(vi 0),(.v (.int .i8 (Z1 (-2)).Inf)),(vi (Z1 (-2)).N)] V (.cV (Ze V) V (.bV [(vi 1),(vi 2),(.v (.int .i8 (Z1 1).Inf)),(vi (Z1 1).N)] V (.Z2B (sz:=4) ([(epactlaw24_Set.mk 0 1 (Z1 5)),(epactlaw24_Set.mk 1 0 (Z1 (-2))),(epactlaw24_Set.mk 1 2 (Z1 1))].map epactlaw24_Set.cs) H (by omega) (by omega) V V V V V V V V V λG H=>?_)))))))
 obtain ⟨x3,q3,h⟩:=bs h;refine .callX (xs:=[(vi 3),(.buf (b4+6) 3 4)]) (ys:=[(vi 3),(vl epactlaw24_Set.cs [(epactlaw24_Set.mk 0 1 (Z1 5)),(epactlaw24_Set.mk 1 0 (Z1 (-2))),(epactlaw24_Set.mk 1 2 (Z1 1))])]) H V (.cons (.c (.v _)) (.cons (.c (.s 0 V)) .nil)) (Z0g q3) V V nofun V λG H=>(.m1 (.tup [(vl (cL Bound.cs) x3.1),(vb x3.2)]) V V (.xV V (.xV V (.aV V (.aV V (.na H λH=>(.tR 9 V H λb5 G H=>(.mV V ?_))))))));obtain ⟨x4,q4,h⟩:=bs h;refine .cV (Z2r q4) V (.m1 (.tup [(vl (cL Bound.cs) x4.1),(vb x4.2.1),(vi x4.2.2)]) V V (.xV V (.xV V (.xV V (.aV V (.aV V (.aV V (.na H λH=>?_))))))));refine .tR 11 V H λb6 G H=>(.cV (Ze V) V (.bV [(vi 0),(vi 1),(.v (.int .i8 (Z1 5).Inf)),(vi (Z1 5).N)] V (.cV (Ze V) V (.bV [(vi 1),(vi 0),(.v (.int .i8 (Z1 (-6)).Inf)),(vi (Z1 (-6)).N)] V (.Z2B (sz:=4) ([(epactlaw24_Set.mk 0 1 (Z1 5)),(epactlaw24_Set.mk 1 0 (Z1 (-6)))].map epactlaw24_Set.cs) H (by omega) (by omega) V V V V V V V V V λG H=>?_)))));obtain ⟨x5,q5,h⟩:=bs h;refine .callX (xs:=[(vi 2),(.buf (b6+4) 2 4)]) (ys:=[(vi 2),(vl epactlaw24_Set.cs [(epactlaw24_Set.mk 0 1 (Z1 5)),(epactlaw24_Set.mk 1 0 (Z1 (-6)))])]) H V (.cons (.c (.v _)) (.cons (.c (.s 0 V)) .nil)) (Z0g q5) V V nofun V λG H=>(.m1 (.tup [(vl (cL Bound.cs) x5.1),(vb x5.2)]) V V (.xV V (.xV V (.aV V (.aV V (.na H λH=>(.tR 9 V H λb7 G H=>(.mV V ?_))))))))
 obtain ⟨x6,q6,h⟩:=bs h;refine .cV (Z2r q6) V (.m1 (.tup [(vl (cL Bound.cs) x6.1),(vb x6.2.1),(vi x6.2.2)]) V V (.xV V (.xV V (.xV V (.aV V (.aV V (.aV V (.na H λH=>?_))))))));refine .tR 6 V H λb8 G H=>?_;obtain ⟨x7,q7,h⟩:=bs h;refine .cV (Z61 q7) V (.m1 (.tup [(vl (cL Bound.cs) x7.1),(vi x7.2)]) V V (.xV V (.xV V (.aV V (.aV V (.na H λH=>(.then (.tR 47 V H λb9 G H=>?_))))))));refine .mV V (.tV V (.mV V ?_));refine .md H 3 [(74,(vb ((!x1.2)||(!x3.2)))),(1,(vl (cL Bound.cs) x1.1)),(3,(vl (cL Bound.cs) x2.1)),(4,(vb x2.2.1)),(5,(vi x2.2.2)),(8,(vl (cL Bound.cs) x4.1)),(9,(vb x4.2.1)),(10,(vi x4.2.2)),(12,(vb x5.2)),(14,(vb x6.2.1)),(15,(vi x6.2.2)),(16,(vl (cL Bound.cs) x7.1)),(17,(vi x7.2))] [] rfl ?_ λe G H=>?_
 ·refine .split V V ?_ ?_<;>intro hc1
  ·refine .ps 2 V (.kT V (.nil ?_));exact ⟨⟨or_T hc1,V,V,V,V,V,V,V,V,V,V,V,V,U⟩,(((H.erase 2).erase 1).erase 0).wk (by omega)⟩
  ·refine .mV V (.tV V (.kF V (.nil ?_)));exact ⟨⟨or_F hc1,V,V,V,V,V,V,V,V,V,V,V,V,U⟩,(((H.erase 2).erase 1).erase 0).wk (by omega)⟩
 refine .mV V ?_;refine .md H 3 [(78,(vb (((!x1.2)||(!x3.2))||(!x5.2)))),(1,(vl (cL Bound.cs) x1.1)),(3,(vl (cL Bound.cs) x2.1)),(4,(vb x2.2.1)),(5,(vi x2.2.2)),(8,(vl (cL Bound.cs) x4.1)),(9,(vb x4.2.1)),(10,(vi x4.2.2)),(14,(vb x6.2.1)),(15,(vi x6.2.2)),(16,(vl (cL Bound.cs) x7.1)),(17,(vi x7.2))] [] rfl ?_ λe G H=>?_
 ·refine .split V V ?_ ?_<;>intro hc2
  ·refine .ps 2 V (.kT V (.nil ?_));exact ⟨⟨or_T hc2,V,V,V,V,V,V,V,V,V,V,V,U⟩,H.wk (by omega)⟩
  ·refine .mV V (.tV V (.kF V (.nil ?_)));exact ⟨⟨or_F hc2,V,V,V,V,V,V,V,V,V,V,V,U⟩,H.wk (by omega)⟩
 refine .mV V ?_;refine .md H 3 [(82,(vb ((((!x1.2)||(!x3.2))||(!x5.2))||(!x2.2.1)))),(1,(vl (cL Bound.cs) x1.1)),(3,(vl (cL Bound.cs) x2.1)),(5,(vi x2.2.2)),(8,(vl (cL Bound.cs) x4.1)),(9,(vb x4.2.1)),(10,(vi x4.2.2)),(14,(vb x6.2.1)),(15,(vi x6.2.2)),(16,(vl (cL Bound.cs) x7.1)),(17,(vi x7.2))] [] rfl ?_ λe G H=>?_
 ·refine .split V V ?_ ?_<;>intro hc3
  ·refine .ps 2 V (.kT V (.nil ?_));exact ⟨⟨or_T hc3,V,V,V,V,V,V,V,V,V,V,U⟩,H.wk (by omega)⟩
  ·refine .mV V (.tV V (.kF V (.nil ?_)));exact ⟨⟨or_F hc3,V,V,V,V,V,V,V,V,V,V,U⟩,H.wk (by omega)⟩
 refine .mV V ?_;refine .md H 3 [(86,(vb (((((!x1.2)||(!x3.2))||(!x5.2))||(!x2.2.1))||(!x4.2.1)))),(1,(vl (cL Bound.cs) x1.1)),(3,(vl (cL Bound.cs) x2.1)),(5,(vi x2.2.2)),(8,(vl (cL Bound.cs) x4.1)),(10,(vi x4.2.2)),(14,(vb x6.2.1)),(15,(vi x6.2.2)),(16,(vl (cL Bound.cs) x7.1)),(17,(vi x7.2))] [] rfl ?_ λe G H=>?_
 ·refine .split V V ?_ ?_<;>intro hc4
  ·refine .ps 2 V (.kT V (.nil ?_));exact ⟨⟨or_T hc4,V,V,V,V,V,V,V,V,V,U⟩,H.wk (by omega)⟩
  ·refine .mV V (.tV V (.kF V (.nil ?_)));exact ⟨⟨or_F hc4,V,V,V,V,V,V,V,V,V,U⟩,H.wk (by omega)⟩
 refine .mV V ?_;refine .md H 2 [(89,(vb ((((((!x1.2)||(!x3.2))||(!x5.2))||(!x2.2.1))||(!x4.2.1))||x6.2.1))),(1,(vl (cL Bound.cs) x1.1)),(3,(vl (cL Bound.cs) x2.1)),(5,(vi x2.2.2)),(8,(vl (cL Bound.cs) x4.1)),(10,(vi x4.2.2)),(15,(vi x6.2.2)),(16,(vl (cL Bound.cs) x7.1)),(17,(vi x7.2))] [] rfl ?_ λe G H=>?_
 ·refine .split V V ?_ ?_<;>intro hc5
  ·refine .ps 1 V (.kT V (.nil ?_));exact ⟨⟨or_T hc5,V,V,V,V,V,V,V,V,U⟩,H.wk (by omega)⟩
  ·refine .mV V (.kF V (.nil ?_));exact ⟨⟨or_F hc5,V,V,V,V,V,V,V,V,U⟩,H.wk (by omega)⟩
 refine .mV V ?_;refine .md H 3 [(93,(vb (((((((!x1.2)||(!x3.2))||(!x5.2))||(!x2.2.1))||(!x4.2.1))||x6.2.1)||(x2.2.2 != 0)))),(1,(vl (cL Bound.cs) x1.1)),(3,(vl (cL Bound.cs) x2.1)),(8,(vl (cL Bound.cs) x4.1)),(10,(vi x4.2.2)),(15,(vi x6.2.2)),(16,(vl (cL Bound.cs) x7.1)),(17,(vi x7.2))] [] rfl ?_ λe G H=>?_
 ·refine .split V V ?_ ?_<;>intro hc6
  ·refine .ps 2 V (.kT V (.nil ?_));exact ⟨⟨or_T hc6,V,V,V,V,V,V,V,U⟩,H.wk (by omega)⟩
  ·refine .mV V (.iV V (.kF V (.nil ?_)));exact ⟨⟨or_F hc6,V,V,V,V,V,V,V,U⟩,H.wk (by omega)⟩
 refine .mV V ?_;refine .md H 3 [(97,(vb ((((((((!x1.2)||(!x3.2))||(!x5.2))||(!x2.2.1))||(!x4.2.1))||x6.2.1)||(x2.2.2 != 0))||(x4.2.2 != 0)))),(1,(vl (cL Bound.cs) x1.1)),(3,(vl (cL Bound.cs) x2.1)),(8,(vl (cL Bound.cs) x4.1)),(15,(vi x6.2.2)),(16,(vl (cL Bound.cs) x7.1)),(17,(vi x7.2))] [] rfl ?_ λe G H=>?_
 ·refine .split V V ?_ ?_<;>intro hc7
  ·refine .ps 2 V (.kT V (.nil ?_));exact ⟨⟨or_T hc7,V,V,V,V,V,V,U⟩,H.wk (by omega)⟩
  ·refine .mV V (.iV V (.kF V (.nil ?_)));exact ⟨⟨or_F hc7,V,V,V,V,V,V,U⟩,H.wk (by omega)⟩
 refine .mV V ?_;refine .md H 3 [(101,(vb (((((((((!x1.2)||(!x3.2))||(!x5.2))||(!x2.2.1))||(!x4.2.1))||x6.2.1)||(x2.2.2 != 0))||(x4.2.2 != 0))||(x6.2.2 != 0)))),(1,(vl (cL Bound.cs) x1.1)),(3,(vl (cL Bound.cs) x2.1)),(8,(vl (cL Bound.cs) x4.1)),(16,(vl (cL Bound.cs) x7.1)),(17,(vi x7.2))] [] rfl ?_ λe G H=>?_
 ·refine .split V V ?_ ?_<;>intro hc8
  ·refine .ps 2 V (.kT V (.nil ?_));exact ⟨⟨or_T hc8,V,V,V,V,V,U⟩,H.wk (by omega)⟩
  ·refine .mV V (.iV V (.kF V (.nil ?_)));exact ⟨⟨or_F hc8,V,V,V,V,V,U⟩,H.wk (by omega)⟩
 refine .mV V ?_;refine .md H 3 [(105,(vb ((((((((((!x1.2)||(!x3.2))||(!x5.2))||(!x2.2.1))||(!x4.2.1))||x6.2.1)||(x2.2.2 != 0))||(x4.2.2 != 0))||(x6.2.2 != 0))||(x7.2 != 0)))),(1,(vl (cL Bound.cs) x1.1)),(3,(vl (cL Bound.cs) x2.1)),(8,(vl (cL Bound.cs) x4.1)),(16,(vl (cL Bound.cs) x7.1))] [] rfl ?_ λe G H=>?_
 ·refine .split V V ?_ ?_<;>intro hc9
  ·refine .ps 2 V (.kT V (.nil ?_));exact ⟨⟨or_T hc9,V,V,V,V,U⟩,H.wk (by omega)⟩
  ·refine .mV V (.iV V (.kF V (.nil ?_)));exact ⟨⟨or_F hc9,V,V,V,V,U⟩,H.wk (by omega)⟩
 refine .mV V ?_;obtain ⟨y1,hj1,h⟩:=bs h;refine .md H 4 [(110,(vb y1)),(1,(vl (cL Bound.cs) x1.1)),(3,(vl (cL Bound.cs) x2.1)),(8,(vl (cL Bound.cs) x4.1)),(16,(vl (cL Bound.cs) x7.1))] [] V ?_ λe G H=>?_
 ·refine .sp hj1 V ?_ ?_<;>intro h
  ·refine .ps 3 V (.kT V (.nil ?_));obtain rfl:=sj h;exact ⟨EI V,H.wk (by omega)⟩
  refine .mV V (.wt V V ?_);obtain ⟨x8,q8,h⟩:=bs h;refine .cV (Z26 q8) V (.tV V (.kF V (.nil ?_)));obtain rfl:=sj h;exact ⟨EI V,H.wk (by omega)⟩
 refine .mV V ?_;obtain ⟨y2,hj2,h⟩:=bs h;refine .md H 4 [(115,(vb y2)),(1,(vl (cL Bound.cs) x1.1)),(3,(vl (cL Bound.cs) x2.1)),(8,(vl (cL Bound.cs) x4.1)),(16,(vl (cL Bound.cs) x7.1))] [] V ?_ λe G H=>?_
 ·refine .sp hj2 V ?_ ?_<;>intro h
  ·refine .ps 3 V (.kT V (.nil ?_));obtain rfl:=sj h;exact ⟨EI V,H.wk (by omega)⟩
  refine .mV V (.wt V V ?_);obtain ⟨x9,q9,h⟩:=bs h;refine .cV (Z26 q9) V (.tV V (.kF V (.nil ?_)));obtain rfl:=sj h;exact ⟨EI V,H.wk (by omega)⟩
 refine .na H λH=>?_;refine .wh h V ?_ ?_<;>intro h
 ·refine .tR 1 V H λb10 G H=>(.aV V (.na H λH=>(.ret ?_)));obtain rfl:=sj h;exact Ends.eR V
 refine .skip (.then (.Z0d 42 V (by kernel_rfl) H λb11 G H B11=>(.mV V (.mV V ?_))));obtain ⟨x10,q10,h⟩:=bs h;refine .cV (Z4I q10) V (.mV V ?_);obtain ⟨y3,hj3,h⟩:=bs h;refine .md H 8 [(127,(vb y3)),(1,(vl (cL Bound.cs) x1.1)),(16,(vl (cL Bound.cs) x7.1))] [] V ?_ λe G H=>?_
 ·refine .sp hj3 V ?_ ?_<;>intro h
  ·refine .mV V (.wt V V ?_);obtain ⟨x11,q11,h⟩:=bs h;refine .jV q11 V (.pV V (.wt V V ?_));obtain ⟨x12,q12,h⟩:=bs h;refine .jV q12 V (.qV [(.int .i8 x12.Inf),(.int .i64 x12.N)] V (.cV (Ze V) V (.wt V V (.binA (u:=(.agg [(.v (.int .i8 x12.Inf)),(vi x12.N)])) (w:=(.agg [(.v (.int .i8 (Z1 6).Inf)),(vi (Z1 6).N)])) (r:=.bool ((x12.Inf==((Z1 6).Inf))&&((x12.N==((Z1 6).N))&&true))) V V (by kernel_rfl) (λ_=>Z1w V V V V) V (.kT V (.nil ?_))))));obtain rfl:=sj h;exact ⟨EI V,H.wk (by omega)⟩
  refine .ps 7 V (.kF V (.nil ?_));obtain rfl:=sj h;exact ⟨EI V,H.wk (by omega)⟩
 refine .mV V ?_;obtain ⟨y4,hj4,h⟩:=bs h;refine .md H 8 [(136,(vb y4)),(1,(vl (cL Bound.cs) x1.1)),(16,(vl (cL Bound.cs) x7.1))] [] V ?_ λe G H=>?_
 ·refine .sp hj4 V ?_ ?_<;>intro h
  ·refine .mV V (.wt V V ?_);obtain ⟨x13,q13,h⟩:=bs h;refine .jV q13 V (.pV V (.wt V V ?_));obtain ⟨x14,q14,h⟩:=bs h;refine .jV q14 V (.qV [(.int .i8 x14.Inf),(.int .i64 x14.N)] V (.cV (Ze V) V (.wt V V (.binA (u:=(.agg [(.v (.int .i8 x14.Inf)),(vi x14.N)])) (w:=(.agg [(.v (.int .i8 (Z1 0).Inf)),(vi (Z1 0).N)])) (r:=.bool ((x14.Inf==((Z1 0).Inf))&&((x14.N==((Z1 0).N))&&true))) V V (by kernel_rfl) (λ_=>Z1w V V V V) V (.kT V (.nil ?_))))));obtain rfl:=sj h;exact ⟨EI V,H.wk (by omega)⟩
  refine .ps 7 V (.kF V (.nil ?_));obtain rfl:=sj h;exact ⟨EI V,H.wk (by omega)⟩
 refine .mV V ?_;obtain ⟨y5,hj5,h⟩:=bs h;refine .md H 8 [(145,(vb y5)),(1,(vl (cL Bound.cs) x1.1))] [] V ?_ λe G H=>?_
 ·refine .sp hj5 V ?_ ?_<;>intro h
  ·refine .mV V (.wt V V ?_);obtain ⟨x15,q15,h⟩:=bs h;refine .jV q15 V (.pV V (.wt V V ?_));obtain ⟨x16,q16,h⟩:=bs h;refine .jV q16 V (.qV [(.int .i8 x16.Inf),(.int .i64 x16.N)] V (.bV [(.v (.int .i8 1)),(vi 0)] V (.wt V V (.binA (u:=(.agg [(.v (.int .i8 x16.Inf)),(vi x16.N)])) (w:=(.agg [(.v (.int .i8 1)),(vi 0)])) (r:=.bool ((x16.Inf==1)&&((x16.N==0)&&true))) V V (by kernel_rfl) (λ_=>Z1w V V V V) V (.kT V (.nil ?_))))));obtain rfl:=sj h;exact ⟨EI V,H.wk (by omega)⟩
  refine .ps 7 V (.kF V (.nil ?_));obtain rfl:=sj h;exact ⟨EI V,H.wk (by omega)⟩
 refine .mV V ?_;obtain ⟨y6,hj6,h⟩:=bs h;refine .md H 4 [(150,(vb y6)),(1,(vl (cL Bound.cs) x1.1))] [] V ?_ λe G H=>?_
 ·refine .sp hj6 V ?_ ?_<;>intro h
  ·refine .mV V (.wt V V (.Z2B (sz:=1) ([3,7].map (cI .i64)) H (by omega) (by omega) V V V V V V V V V λG H=>(.wt V V ?_)));obtain ⟨x17,q17,h⟩:=bs h;refine .callX (xs:=[(vl (cL Bound.cs) x1.1),(.buf (b11+32) 2 1)]) (ys:=[(vl (cL Bound.cs) x1.1),(vl (cI .i64) [3,7])]) H V (.cons (.c (.v _)) (.cons (.c (.s 0 V)) .nil)) (Z4g q17) V V (λ_=>by kernel_rfl) V λG H=>(.kT V (.nil ?_));obtain rfl:=sj h;exact ⟨EI V,(H.erase 0).wk (by omega)⟩
  refine .ps 3 V (.kF V (.nil ?_));obtain rfl:=sj h;exact ⟨EI V,H.wk (by omega)⟩
 refine .mV V ?_;obtain ⟨y7,hj7,h⟩:=bs h;refine .md H 5 [(156,(vb y7))] [] V ?_ λe G H=>?_
 ·refine .sp hj7 V ?_ ?_<;>intro h
  ·refine .mV V (.wt V V (.Z2B (sz:=1) ([3,9].map (cI .i64)) H (by omega) (by omega) V V V V V V V V V λG H=>(.wt V V ?_)));obtain ⟨x18,q18,h⟩:=bs h;refine .callX (xs:=[(vl (cL Bound.cs) x1.1),(.buf (b11+37) 2 1)]) (ys:=[(vl (cL Bound.cs) x1.1),(vl (cI .i64) [3,9])]) H V (.cons (.c (.v _)) (.cons (.c (.s 0 V)) .nil)) (Z4g q18) V V (λ_=>by kernel_rfl) V λG H=>(.tV V (.kT V (.nil ?_)));obtain rfl:=sj h;exact ⟨EI V,(H.erase 0).wk (by omega)⟩
  refine .ps 4 V (.kF V (.nil ?_));obtain rfl:=sj h;exact ⟨EI V,H.wk (by omega)⟩
 refine .aV V (.na H λH=>(.ret ?_));obtain rfl:=sj h;exact Ends.eR V
theorem Z46 {r:Bool} (h:ZK=r):Fn CX 35 [] (vb r):=by
 subst h;exact Z3k Z3F
end Go.Dn

namespace Go.Dn
open Go Go.Proofs
def ownZ (f:FuncId):Bool:=f==13||f==41||f==44||f==48||f==69||f==70||f==78||f==79
noncomputable def CZ:Ctx:={ P:=Try.prog,glob:=λ_=>none,intr:=λf args=>if ownZ f then none else liftI CX f args,opn:=λf=>f==41||f==44||f==69||f==70||f==78||f==79,keep:=λf=>f==70,thaw:=λf=>f==48,hold:=λt ps=>match t,ps with|62,[(0,.tmp 42),(1,.tmp 43)]=>true|_,_=>false }
theorem lift {f:FuncId} {args:List PV} {r:PV} (hs:ownZ f=false) (h:Fn CX f args r) (hk:CZ.keep f=false) (ho:CZ.opn f=false):Fn CZ f args r:=by
 refine Fn.intr ?_ h.pure hk ho
 show (if ownZ f then none else liftI CX f args)=some r
 rw [hs]
 exact liftI_of h
theorem cz_ok:CtxOK CZ:=by
 refine ⟨Z4w,λf args r h s hi hG vs hv hp=>?_⟩
 have h:(if ownZ f then none else liftI CX f args)=some r:=h
 split at h
 ·cases h
 ·have hF:=liftI_fn h;obtain ⟨k,hk⟩:=Z07.1 (hF.call s.G);exact Z4o cx_ok k (.fn f) args r s.G s hk hi hG vs hv
end Go.Dn

namespace Go.Dn
open Go Go.Proofs
set_option maxRecDepth 100000
set_option maxHeartbeats 4000000
theorem Z3W {n:Int} {l:(List epactlaw24_Set)} {r:(List (List Bound))} (h:ZX n l=some r):Fn CZ 47 [(.v (.int .u8 n)),(vl epactlaw24_Set.cs l)] (vl (cL Bound.cs) r):=lift rfl (Z45 h) rfl rfl
theorem Z49 {d:(List (List Bound))} {r:Bool} (h:Z0N d=some r):Fn CZ 38 [(vl (cL Bound.cs) d)] (vb r):=lift rfl (Z2I h) rfl rfl
theorem stp_may_fnZ {b:Bound} {r:Bool} (h:Z0o b=r):Fn CZ 65 [(.agg (vs (Bound.cs b)))] (vb r):=lift rfl (Z4Z h) rfl rfl
theorem Z1d {s:(List (List Bound))} {r:(List (List Bound))} (h:Zh s=some r):FnO CZ 78 [(vl (cL Bound.cs) s)] (λq A=>∃ (w2:PV),w2=q/\A=[.sl w2 43 1 (r.map (cL Bound.cs)) true]):=by
 refine FnO.of Try.func78 V V V V V V ?_;intro G T H;unfold Zh at h;refine .tR 1 V H λb1 G H=>(.a1 .nils V V (.na H λH=>(.then (.tR 2 V H λb2 G H=>(.mV V ?_)))));obtain ⟨u1,q1,h⟩:=bs h;refine .isNilV (c:=(cL Bound.cs)) q1 V V V V (.na H λH=>(.no V (.skip (.tR 4 V H λb3 G H=>(.Z2B (sz:=1) ([].map (cL Bound.cs)) H (by omega) (by omega) V V V V V V V V V λG H=>(.mV V ?_))))));obtain ⟨x1,q2,h⟩:=bs h;refine .Z5A (c:=(cL Bound.cs)) (w:=(vl (cL Bound.cs) s)) (xs:=[]) (ys:=s) H (by omega) (by omega) 0 V V V (.m (λ_=>V)) q2 V V V V V nofun V λG H=>(.aB V (.na H λH=>(.ret ?_)));obtain rfl:=sj h;exact ⟨.inr V,_,Z0C H (.tmp (v:=(.buf (b3+0) x1.length 1)) V .nil),_,⟨(.buf (b3+0) x1.length 1),V,V⟩,H⟩
theorem Z1z {s:(List Bound)} {r:(List Bound)} (h:Zo s=some r):FnO CZ 79 [(vl Bound.cs s)] (λq A=>∃ (w2:PV),w2=q/\A=[.sl w2 32 2 (r.map Bound.cs) true]):=by
 refine FnO.of Try.func79 V V V V V V ?_;intro G T H;unfold Zo at h;refine .tR 1 V H λb1 G H=>(.a1 .nils V V (.na H λH=>(.then (.tR 2 V H λb2 G H=>(.mV V ?_)))));obtain ⟨u1,q1,h⟩:=bs h;refine .isNilV (c:=Bound.cs) q1 V V V V (.na H λH=>(.no V (.skip (.tR 4 V H λb3 G H=>(.Z2B (sz:=2) ([].map Bound.cs) H (by omega) (by omega) V V V V V V V V V λG H=>(.mV V ?_))))));obtain ⟨x1,q2,h⟩:=bs h;refine .Z5A (c:=Bound.cs) (w:=(vl Bound.cs s)) (xs:=[]) (ys:=s) H (by omega) (by omega) 0 V V V (.m (λ_=>V)) q2 V V V V V nofun V λG H=>(.aB V (.na H λH=>(.ret ?_)));obtain rfl:=sj h;exact ⟨.inr V,_,Z0C H (.tmp (v:=(.buf (b3+0) x1.length 2)) V .nil),_,⟨(.buf (b3+0) x1.length 2),V,V⟩,H⟩
theorem Z5b {d:(List (List Bound))} {r:(List (List Bound))} (h:Z1H d=some r):FnO CZ 69 [(vl (cL Bound.cs) d)] (λq A=>∃ (id:Nat) (ids:List PV),ids.length=r.length/\ids.length=d.length/\q=(.buf id d.length 1)/\A=(.blk id 43 ids::famL 32 2 Bound.cs ids r)):=by
 obtain ⟨⟨u,hu⟩,hroom,hrows,rfl⟩:=ownOK h;refine FnO.of Try.func69 V V V V V V ?_;intro G T H;refine .tR 1 V H λb1 G H=>(.a1 .nils V V (.na H λH=>(.tR 3 V H λb2 G H=>(.mV V ?_))));refine .Z2A (ys:=[(vl (cL Bound.cs) r)]) H rfl (Z1d (r:=r) (by unfold Zh app?;rw [hu,Y1,if_pos (by simpa using hroom)];rfl)) nofun rfl ?_;rintro _ _ G ⟨w1,rfl,rfl⟩ H;obtain ⟨id,hw,H2⟩:=H.toMat hu;subst hw;replace H:=H2;clear H2;refine .aB V (.na H λH=>(.then (.tR 3 V H λb3 G H=>(.mB V (.lenM H 0 V (YG _) V V nofun V (.mV V (.na H λH=>(.inBlock ?_))))))));refine .mono (Runs.loop (Q:=λx e G=>x = .exit 0/\∃ ids:List PV,ids.length=r.length/\ZA e [(3,.buf id r.length 1)]/\Hs G (.blk id 43 ids::(famL 32 2 Bound.cs ids r++T))) (λm e G=>∃ (k:Nat) (ids:List PV),k+m=r.length/\ids.length=k/\ZA e [(3,.buf id r.length 1),(8,.v (.int .i64 r.length)),(9,.v (.int .i64 (k:Int)))]/\Hs G (.blk id 43 (ids++(r.drop k).map λq=>PV.v (.sl (q.map Bound.cs)))::(famL 32 2 Bound.cs ids (r.take k)++T))) (m:=r.length) ⟨0,[],by omega,V,EI V,H⟩ ?_) ?_
 ·rintro m e G ⟨k,ids,hkm,hk,he,H⟩;obtain ⟨e,rfl⟩:=he.ex;refine .tR 1 V H λb4 G H=>(.iV V (.na H λH=>(.then ?_)));refine .whether (v:=(decide ((k:Int)<(r.length:Int)))) V ?_ ?_<;>intro hc1
  ·have hlt:k<r.length:=by simpa using hc1
   refine .skip (.then (.inBlock (.tR 2 V H λb5 G H=>(.mV V (.aV V (.na H λH=>(.ZS 9 V H λb6 G H=>?_)))))));have hcl:(ids++(r.drop k).map λq=>PV.v (.sl (q.map Bound.cs))).length=r.length:=by simp;omega
   refine .mB V (.mV V (.mB V (.mV V (.Zt H 0 V hcl V V (by omega) (by omega) V V nofun V ?_))));have hcell:(ids++(r.drop k).map λq=>PV.v (.sl (q.map Bound.cs)))[((k:Int)).toNat]? = some (vl Bound.cs r[k]):=by
    rw [YL,YI (by omega),hk,Y0S,YK,YY,Y0O,Y7 hlt];rfl
   refine .ld (.v (.sl (r[k].map Bound.cs))) H 0 V hcl V V hcell nofun V ?_;obtain ⟨⟨u2,hu2⟩,hr2⟩:=hrows r[k] (Y04 hlt);refine .Z2A (ys:=[(vl Bound.cs r[k])]) H rfl (Z1z (r:=r[k]) (by unfold Zo app?;rw [hu2,Y1,if_pos (by simpa using hr2)];rfl)) nofun rfl ?_;rintro _ _ G ⟨w2,rfl,rfl⟩ H;refine .Zt H 1 V hcl V V (by omega) (by omega) V V nofun V ?_;have hb:((k:Int)).toNat+1<=(ids++(r.drop k).map λq=>PV.v (.sl (q.map Bound.cs))).length:=by rw [hcl,YL];omega
   refine .Z4L (m:=1) (off:=((k:Int)).toNat) (v:=w2) (ys:=[w2]) (cells':=(ids++(r.drop k).map λq=>PV.v (.sl (q.map Bound.cs))).set ((k:Int)).toNat w2) H 1 V hcl V V (H.slCells (k:=0) V) V V (Nat.ble_eq_true_of_le hb) (Z4c (Nat.lt_of_succ_le hb)) nofun λG H=>?_;replace H:=H.ownRow hk hlt;refine .na H λH=>(.ZS 2 V H λb7 G H=>(.iV V (.mV V (.na H λH=>?_))));refine ⟨m-1,by omega,k+1,ids++[w2],by omega,by simp [hk],⟨V,V,?_,U⟩,H⟩
   show PV.v (.int .i64 (w64 ((k:Int)+1)))=_;have:w64 ((k:Int)+1)=((k+1:Nat):Int):=by
    have h64:r.length*24<=140737488355328:=hroom;show IntKind.i64.wrap _=_;rw [Z6D (by omega) (by omega)];push_cast;rfl
   rw [this]
  ·have hnl:¬ (k:Int)<(r.length:Int):=by simpa using hc1
   have hge:k=r.length:=by omega
   refine .exit ?_;subst hge;rw [List.take_length,List.drop_length,List.map_nil,YE] at H;exact ⟨V,ids,hk,EI V,H⟩
 ·rintro x e G ⟨rfl,ids,hids,he,H⟩;obtain ⟨e,rfl⟩:=he.ex;refine .tR 2 V H λb9 G H=>(.mB V (.aB V (.na H λH=>(.ret ?_))));exact ⟨.inr V,_,Z0C H (.tmp (v:=(.buf id r.length 1)) V .nil),_,⟨id,ids,hids,hids,V,V⟩,H⟩
theorem Z1t {a:Bound} {b:Bound} {r:Bool} (h:Zg a b=r):Fn CZ 33 [(.agg (vs (Bound.cs a))),(.agg (vs (Bound.cs b)))] (vb r):=lift rfl (Z1Z h) rfl rfl
theorem stp_SetO_fnZ {d:(List (List Bound))} {i:Int} {j:Int} {most:Bound} {r:(List (List Bound))×Int} (h:Z38 d i j most=some r):FnO CZ 41 [(vl (cL Bound.cs) d),(vi i),(vi j),(.agg (vs (Bound.cs most)))] (λq A=>∃ (id4:Nat) (ids4:List PV),ids4.length=r.1.length/\ids4.length=d.length/\q=(.tup [(.buf id4 d.length 1),(vi r.2)])/\A=(.blk id4 43 ids4::famL 32 2 Bound.cs ids4 r.1)):=by
 refine FnO.of Try.func41 V V V V V V ?_;intro G T H;unfold Z38 at h;refine .tR 3 V H λb1 G H=>(.bxc (cs:=[(.v (.int .i8 most.Inf)),(vi most.N)]) H V V V λG H=>(.a1 .nils V V (.aV V (.na H λH=>(.then (.tR 28 V H λb2 G H=>(.mV V ?_)))))));obtain ⟨x1,q1,h⟩:=bs h;refine .cV (Z49 q1) V (.tV V (.mV V ?_));refine .md H 3 [(17,(vb ((!x1)||(decide (i<0))))),(0,(vl (cL Bound.cs) d)),(1,(vi i)),(2,(vi j)),(7,(.ptr (b1+0) 2 0))] (.blk (b1+0) 32 [(.v (.int .i8 most.Inf)),(vi most.N)]::T) rfl ?_ λe G H=>?_
 ·refine .split V V ?_ ?_<;>intro hc1
  ·refine .ps 2 V (.kT V (.nil ?_));exact ⟨⟨or_T hc1,V,V,V,V,U⟩,H.wk (by omega)⟩
  ·refine .mV V (.iV V (.kF V (.nil ?_)));exact ⟨⟨or_F hc1,V,V,V,V,U⟩,H.wk (by omega)⟩
 refine .mV V ?_;refine .md H 3 [(21,(vb (((!x1)||(decide (i<0)))||(decide (j<0))))),(0,(vl (cL Bound.cs) d)),(1,(vi i)),(2,(vi j)),(7,(.ptr (b1+0) 2 0))] (.blk (b1+0) 32 [(.v (.int .i8 most.Inf)),(vi most.N)]::T) rfl ?_ λe G H=>?_
 ·refine .split V V ?_ ?_<;>intro hc2
  ·refine .ps 2 V (.kT V (.nil ?_));exact ⟨⟨or_T hc2,V,V,V,V,U⟩,H.wk (by omega)⟩
  ·refine .mV V (.iV V (.kF V (.nil ?_)));exact ⟨⟨or_F hc2,V,V,V,V,U⟩,H.wk (by omega)⟩
 refine .mV V ?_;refine .md H 5 [(27,(vb ((((!x1)||(decide (i<0)))||(decide (j<0)))||(decide (i>=(d.length:Int)))))),(0,(vl (cL Bound.cs) d)),(1,(vi i)),(2,(vi j)),(7,(.ptr (b1+0) 2 0))] (.blk (b1+0) 32 [(.v (.int .i8 most.Inf)),(vi most.N)]::T) rfl ?_ λe G H=>?_
 ·refine .split V V ?_ ?_<;>intro hc3
  ·refine .ps 4 V (.kT V (.nil ?_));exact ⟨⟨or_T hc3,V,V,V,V,U⟩,H.wk (by omega)⟩
  ·refine .mV V (.mV V (.nV V (.iV V (.kF V (.nil ?_)))));exact ⟨⟨or_F hc3,V,V,V,V,U⟩,H.wk (by omega)⟩
 refine .mV V ?_;refine .md H 5 [(33,(vb (((((!x1)||(decide (i<0)))||(decide (j<0)))||(decide (i>=(d.length:Int))))||(decide (j>=(d.length:Int)))))),(0,(vl (cL Bound.cs) d)),(1,(vi i)),(2,(vi j)),(7,(.ptr (b1+0) 2 0))] (.blk (b1+0) 32 [(.v (.int .i8 most.Inf)),(vi most.N)]::T) rfl ?_ λe G H=>?_
 ·refine .split V V ?_ ?_<;>intro hc4
  ·refine .ps 4 V (.kT V (.nil ?_));exact ⟨⟨or_T hc4,V,V,V,V,U⟩,H.wk (by omega)⟩
  ·refine .mV V (.mV V (.nV V (.iV V (.kF V (.nil ?_)))));exact ⟨⟨or_F hc4,V,V,V,V,U⟩,H.wk (by omega)⟩
 refine .mV V ?_;refine .md H 4 [(38,(vb ((((((!x1)||(decide (i<0)))||(decide (j<0)))||(decide (i>=(d.length:Int))))||(decide (j>=(d.length:Int))))||(!(Z0o most))))),(0,(vl (cL Bound.cs) d)),(1,(vi i)),(2,(vi j)),(7,(.ptr (b1+0) 2 0))] (.blk (b1+0) 32 [(.v (.int .i8 most.Inf)),(vi most.N)]::T) rfl ?_ λe G H=>?_
 ·refine .split V V ?_ ?_<;>intro hc5
  ·refine .ps 3 V (.kT V (.nil ?_));exact ⟨⟨or_T hc5,V,V,V,V,U⟩,H.wk (by omega)⟩
  ·refine .LV [(.v (.int .i8 most.Inf)),(vi most.N)] H 0 V (.cV (stp_may_fnZ (V:Z0o most=_)) V (.tV V (.kF V (.nil ?_))));exact ⟨⟨or_F hc5,V,V,V,V,U⟩,H.wk (by omega)⟩
 refine .na H λH=>?_;refine .wh h V ?_ ?_<;>intro h
 ·refine .tR 2 V H λb3 G H=>(.a1 .nils V V (.aV V (.na H λH=>(.ret ?_))));cases h
 refine .skip (.tR 3 V H λb4 G H=>(.mV V ?_));obtain ⟨x2,q2,h⟩:=bs h;refine .Z2A (ys:=[(vl (cL Bound.cs) d)]) H rfl (Z5b q2) nofun rfl ?_;rintro _ _ G ⟨id1,ids1,hMids1,hNids1,rfl,rfl⟩ H;replace H:Has G _ _ (.blk (b1+0) 32 [(.v (.int .i8 most.Inf)),(vi most.N)] :: .blk id1 43 ids1::(famL 32 2 Bound.cs ids1 x2++T)):=Has.matIn (M:=.blk id1 43 ids1::famL 32 2 Bound.cs ids1 x2) (O:=[.blk (b1+0) 32 [(.v (.int .i8 most.Inf)),(vi most.N)]]) (T:=T) H;refine .aB V (.na H λH=>(.then ?_));obtain ⟨y1,hj1,h⟩:=bs h;refine .mono (Q:=λx e G=>∃ (ids2:List PV),ids2.length=y1.length/\ids2.length=d.length/\x = .normal/\ZA e [(10,(.buf id1 d.length 1))]/\Hs G (.blk id1 43 ids2::(famL 32 2 Bound.cs ids2 y1++T))) ?_ ?_
 ·replace h:=hj1;refine .then (.Z0d 9 V (by kernel_rfl) H λb5 G H B5=>(.Z1q (cs:=[(.v (.int .i8 most.Inf)),(vi most.N)]) H 0 V V V V V V V (so (B5 0 _ V _ V)) V (.mB V (.mV V ?_))));obtain ⟨x3,q3,h⟩:=bs h;obtain ⟨v1,hv1,hr1⟩:=Z0I (rt:=32) (sz:=2) (c:=Bound.cs) hMids1 q3;refine .Zt H 1 V hNids1 V V (at?_nn q3) (hNids1▸Z03 hv1) V V (so (B5 1 _ V _ V)) V ?_;refine .ld v1 H 1 V hNids1 V V hv1 (so (B5 1 _ V _ V)) V (.mV V ?_);obtain ⟨x4,q4,h⟩:=bs h;refine .Z0K H (2+(i).toNat) (ZO 2 V hr1) V V (at?_map q4) V V (λ_ id ho=>.inl ⟨B5 (2+(i).toNat) _ (ZO 2 V hr1) id ho,nofun,(λ_=>by kernel_rfl)⟩) V ?_;intro id2 hv2;refine .Z1X (id:=id2) H (2+(i).toNat) (ZO 2 V hr1) hv2 (by simp) (at?_map q4) V V V V (λ_=>.inl ⟨B5 (2+(i).toNat) _ (ZO 2 V hr1) _ (by rw [(hv2:(v1:PV)=_)];rfl),nofun,(λ_=>by kernel_rfl)⟩) V ?_;refine .cV (Z1t (V:Zg most x4=_)) V (.na H λH=>?_);refine .wh h V ?_ ?_<;>intro h
  ·refine .Z0d 8 V (by kernel_rfl) H λb6 G H B6=>(.mB V (.mV V ?_));obtain ⟨x5,q5,h⟩:=bs h;obtain ⟨v2,hv3,hr2⟩:=Z0I (rt:=32) (sz:=2) (c:=Bound.cs) hMids1 q5;refine .Zt H 1 V hNids1 V V (at?_nn q5) (hNids1▸Z03 hv3) V V (so (B6 1 _ V _ V)) V ?_;refine .ld v2 H 1 V hNids1 V V hv3 (so (B6 1 _ V _ V)) V (.mV V (.Z1q (cs:=[(.v (.int .i8 most.Inf)),(vi most.N)]) H 0 V V V V V V V (so (B6 0 _ V _ V)) V ?_));obtain ⟨x6,q6,h⟩:=bs h;refine .Z0K H (2+(i).toNat) (ZO 2 V hr2) V V (at?_map q6) V V (λ_ id ho=>.inl ⟨B6 (2+(i).toNat) _ (ZO 2 V hr2) id ho,nofun,(λ_=>by kernel_rfl)⟩) V ?_;intro id3 hv4;refine .Z1s (id:=id3) (j:=0) (zs:=[(.int .i8 most.Inf),(.int .i64 most.N)]) (u:=x6) (u':=most) H (2+(i).toNat) (ZO 2 V hr2) hv4 (by simp) q6 V (by simp) V V V V V V (λ_=>.inl ⟨B6 (2+(i).toNat) _ (ZO 2 V hr2) _ (by rw [(hv4:(v2:PV)=_)];rfl),(λ_=>by kernel_rfl),nofun⟩) λG H=>?_;have hMs1:ids1.length=(x2.set (i).toNat (x5.set (j).toNat most)).length:=hMids1.trans (YQ ..).symm;replace H:Has G _ _ (.blk (b1+0) 32 [(.v (.int .i8 most.Inf)),(vi most.N)] :: .blk id1 43 ids1::(famL 32 2 Bound.cs ids1 (x2.set (i).toNat (x5.set (j).toNat most))++T)):=H.famSet (k:=2) rfl hMids1 hv3;refine .na H λH=>?_;obtain rfl:=sj h
   exact ⟨ids1,hMs1,hNids1,V,EI V,(H.erase 0)⟩
  refine .skip ?_;obtain rfl:=sj h;exact ⟨ids1,hMids1,hNids1,V,EI V,(H.erase 0)⟩
 ·rintro x e G ⟨ids3,hMids3,hNids3,rfl,he,H⟩;obtain ⟨e,rfl⟩:=he.ex;refine .tR 3 V H λb7 G H=>(.mB V (.aB V (.aV V (.na H λH=>(.ret ?_)))));obtain rfl:=sj h;exact ⟨.inr V,_,Z0C H (.tmp (v:=(.buf id1 d.length 1)) V (.tmp (v:=(vi 0)) V .nil)),_,⟨_,_,hMids3,hNids3,V,V⟩,H⟩
theorem safe_Sum_fnZ {a:Bound} {b:Bound} {r:Bound×Int} (h:ZB a b=r):Fn CZ 27 [(.agg (vs (Bound.cs a))),(.agg (vs (Bound.cs b)))] (.tup [(.agg (vs (Bound.cs r.1))),(vi r.2)]):=lift rfl (Z5u h) rfl rfl
theorem Z2V {d:(List (List Bound))} {r:(List (List Bound))×Bool×Int} (h:ZD d=some r):FnO CZ 44 [(vl (cL Bound.cs) d)] (λq A=>(r.2.1=true/\∃ (id9:Nat) (ids31:List PV),ids31.length=r.1.length/\ids31.length=d.length/\q=(.tup [(.buf id9 d.length 1),(vb true),(vi r.2.2)])/\A=(.blk id9 43 ids31::famL 32 2 Bound.cs ids31 r.1))\/(r.2.1=false/\q=(.tup [.nils,(vb false),(vi r.2.2)])/\A=[])):=by
 refine FnO.of Try.func44 V V V V V V ?_;intro G T H;unfold ZD at h;refine .tR 3 V H λb1 G H=>(.a1 .nils V V (.aV V (.aV V (.na H λH=>(.then (.tR 3 V H λb2 G H=>(.mV V ?_)))))));obtain ⟨x1,q1,h⟩:=bs h;refine .cV (Z49 q1) V (.tV V (.na H λH=>?_));refine .wh h V ?_ ?_<;>intro h
 ·refine .tR 3 V H λb3 G H=>(.a1 .nils V V (.aV V (.aV V (.na H λH=>(.ret ?_)))));obtain rfl:=sj h;exact ⟨.inr V,_,Z0C H (.tmp (v:=.nils) V (.tmp (v:=(vb false)) V (.tmp (v:=(vi 2)) V .nil))),_,.inr ⟨V,V,V⟩,H⟩
 refine .skip (.tR 3 V H λb4 G H=>(.mV V ?_));obtain ⟨x2,q2,h⟩:=bs h;refine .Z2A (ys:=[(vl (cL Bound.cs) d)]) H rfl (Z5b q2) nofun rfl ?_;rintro _ _ G ⟨id1,ids1,hMids1,hNids1,rfl,rfl⟩ H;replace H:Has G _ _ (.blk id1 43 ids1::(famL 32 2 Bound.cs ids1 x2++T)):=H;refine .aB V (.na H λH=>(.then (.tR 3 V H λb5 G H=>(.mB V (.lenM H 0 V hNids1 V V nofun V (.mV V (.na H λH=>(.inBlock ?_))))))));obtain ⟨y1,hj1,h⟩:=bs h;obtain ⟨n1,hj1⟩:=ZV.1 hj1;refine .mono (Runs.loopO hj1 (λs1 e G=>∃ (ids4:List PV),ids4.length=s1.2.length/\ids4.length=d.length/\ZA e [(5,(.buf id1 d.length 1)),(14,(vi ((d.length:Nat):Int))),(15,(vi s1.1))]/\Hs G (.blk id1 43 ids4::(famL 32 2 Bound.cs ids4 s1.2++T))) (λy1 x e G=>(∃ a1,∃ (ids5:List PV),ids5.length=a1.length/\ids5.length=d.length/\y1=(.go a1)/\x = .exit 0/\ZA e [(5,(.buf id1 d.length 1))]/\Hs G (.blk id1 43 ids5::(famL 32 2 Bound.cs ids5 a1++T)))\/(∃ a2,∃ (ids6:List PV),ids6.length=a2.length/\ids6.length=d.length/\y1=(.ret a2)/\x = .ret/\ZA e [(2,.nils),(3,(vb false)),(4,(vi 0))]/\Hs G (.blk id1 43 ids6::(famL 32 2 Bound.cs ids6 a2++T)))) ⟨ids1,hMids1,hNids1,EI V,H⟩ ?_) ?_
 ·intro s1 e G hI z h;obtain ⟨ids4,hMids4,hNids4,he,H⟩:=hI;obtain ⟨e,rfl⟩:=he.ex;unfold ZD.s0 at h;refine .tR 1 V H λb6 G H=>(.iV V (.na H λH=>(.then ?_)));refine .wh h V ?_ ?_<;>intro h
  ·refine .skip (.then (.inBlock (.tR 2 V H λb7 G H=>(.mV V (.aV V (.na H λH=>(.then (.tR 9 V H λb8 G H=>?_))))))));refine .mB V (.mV V ?_);obtain ⟨x3,q3,h⟩:=bs h;obtain ⟨v1,hv1,hr1⟩:=Z0I (rt:=32) (sz:=2) (c:=Bound.cs) hMids4 q3;refine .Zt H 0 V hNids4 V V (at?_nn q3) (hNids4▸Z03 hv1) V V nofun V ?_;refine .ld v1 H 0 V hNids4 V V hv1 nofun V (.mV V ?_);obtain ⟨x4,q4,h⟩:=bs h;refine .Z0K H (1+(s1.1).toNat) (ZO 1 V hr1) V V (at?_map q4) V V nofun V ?_;intro id2 hv2;refine .Z1X (id:=id2) H (1+(s1.1).toNat) (ZO 1 V hr1) hv2 (by simp) (at?_map q4) V V V V nofun V ?_;refine .bV [(.v (.int .i8 0)),(vi 0)] V (.cV (Z1t (V:Zg x4 (Bound.mk 0 0)=_)) V (.na H λH=>?_));refine .wh h V ?_ ?_<;>intro h
   ·refine .tR 3 V H λb9 G H=>(.a1 .nils V V (.aV V (.aV V (.na H λH=>(.ret ?_)))));obtain rfl:=sj h;exact ⟨nofun,(.inr ⟨_,ids4,hMids4,hNids4,V,V,EI V,H⟩)⟩
   refine .skip (.ZS 8 V H λb10 G H=>(.mB V (.mV V ?_)));obtain ⟨x5,q5,h⟩:=bs h;obtain ⟨v2,hv3,hr2⟩:=Z0I (rt:=32) (sz:=2) (c:=Bound.cs) hMids4 q5;refine .Zt H 0 V hNids4 V V (at?_nn q5) (hNids4▸Z03 hv3) V V nofun V ?_;refine .ld v2 H 0 V hNids4 V V hv3 nofun V (.mV V (.bV [(.v (.int .i8 0)),(vi 0)] V ?_));obtain ⟨x6,q6,h⟩:=bs h;refine .Z0K H (1+(s1.1).toNat) (ZO 1 V hr2) V V (at?_map q6) V V nofun V ?_;intro id3 hv4;refine .Z1s (id:=id3) (j:=0) (zs:=[(.int .i8 0),(.int .i64 0)]) (u:=x6) (u':=(Bound.mk 0 0)) H (1+(s1.1).toNat) (ZO 1 V hr2) hv4 (by simp) q6 V (by simp) V V V V V V nofun λG H=>?_;have hMs1:ids4.length=(s1.2.set (s1.1).toNat (x5.set (s1.1).toNat (Bound.mk 0 0))).length:=hMids4.trans (YQ ..).symm;replace H:Has G _ _ (.blk id1 43 ids4::(famL 32 2 Bound.cs ids4 (s1.2.set (s1.1).toNat (x5.set (s1.1).toNat (Bound.mk 0 0)))++T)):=H.famSet (k:=1) rfl hMids4 hv3;refine .na H λH=>(.ZS 2 V H λb11 G H=>(.iV V (.mV V (.na H λH=>?_))));obtain rfl:=sj h;exact ⟨V,ids4,hMs1,hNids4,EI V,H⟩
  refine .exit ?_;obtain rfl:=sj h;exact ⟨nofun,(.inl ⟨_,ids4,hMids4,hNids4,V,V,EI V,H⟩)⟩
 ·rintro x e G (⟨a3,ids7,hMids7,hNids7,rfl,rfl,he,H⟩|⟨a4,ids8,hMids8,hNids8,rfl,rfl,he,H⟩)
  ·replace h:=jgo h;obtain ⟨e,rfl⟩:=he.ex;refine .then (.tR 3 V H λb12 G H=>(.mB V (.lenM H 0 V hNids7 V V nofun V (.mV V (.na H λH=>(.inBlock ?_))))));obtain ⟨y2,hj2,h⟩:=bs h;obtain ⟨n2,hj2⟩:=ZV.1 hj2;refine .mono (Runs.loopO hj2 (λs2 e G=>∃ (ids11:List PV),ids11.length=s2.2.length/\ids11.length=d.length/\ZA e [(5,(.buf id1 d.length 1)),(36,(vi ((d.length:Nat):Int))),(37,(vi s2.1))]/\Hs G (.blk id1 43 ids11::(famL 32 2 Bound.cs ids11 s2.2++T))) (λy2 x e G=>(∃ a5,∃ (ids12:List PV),ids12.length=a5.length/\ids12.length=d.length/\y2=(.go a5)/\x = .exit 2/\ZA e [(5,(.buf id1 d.length 1))]/\Hs G (.blk id1 43 ids12::(famL 32 2 Bound.cs ids12 a5++T)))\/(∃ a6,∃ (ids13:List PV),ids13.length=a6.length/\ids13.length=d.length/\y2=(.ret a6)/\x = .ret/\ZA e [(2,.nils),(3,(vb false)),(4,(vi 0))]/\Hs G (.blk id1 43 ids13::(famL 32 2 Bound.cs ids13 a6++T)))) ⟨ids7,hMids7,hNids7,EI V,H⟩ ?_) ?_
   ·intro s2 e G hI z h;obtain ⟨ids11,hMids11,hNids11,he,H⟩:=hI;obtain ⟨e,rfl⟩:=he.ex;unfold ZD.s1 at h;refine .tR 1 V H λb13 G H=>(.iV V (.na H λH=>(.then ?_)));refine .wh h V ?_ ?_<;>intro h
    ·refine .skip (.then (.inBlock (.tR 2 V H λb14 G H=>(.mV V (.aV V (.na H λH=>(.tR 4 V H λb15 G H=>(.mB V ?_))))))));refine .mV V ?_;obtain ⟨y3,hj3,h⟩:=bs h;refine .callI (PostA:=λr A=>∃ (ids14:List PV),ids14.length=y3.2.length/\ids14.length=d.length/\r=(vb y3.1)/\A=(.blk id1 43 ids14::famL 32 2 Bound.cs ids14 y3.2)) (cv:=(.v (.fn 70))) (ys:=[(.buf id1 d.length 1),(vi s2.1)]) (L:=T) (.blk id1 43 ids11::famL 32 2 Bound.cs ids11 s2.2) H V V (λT1 hT H=>callI_of Try.func70 V (λ_=>V) V V V V ?_) nofun V ?_
     ·replace h:=hj3;refine .tR 1 V H λb16 G H=>(.aV V (.na H λH=>(.then (.tR 3 V H λb17 G H=>(.mB V (.lenM H 0 V hNids11 V V nofun V (.mV V (.na H λH=>?_))))))));refine .inBlock ?_;obtain ⟨y4,hj4,h⟩:=bs h;obtain ⟨n3,hj4⟩:=ZV.1 hj4;refine .mono (Runs.loopO hj4 (λs3 e G=>∃ (ids17:List PV),ids17.length=s3.2.length/\ids17.length=d.length/\ZA e [(0,(.buf id1 d.length 1)),(1,(vi s2.1)),(11,(vi ((d.length:Nat):Int))),(12,(vi s3.1))]/\Hs G (.blk id1 43 ids17::(famL 32 2 Bound.cs ids17 s3.2++T1))) (λy4 x e G=>∃ (ids18:List PV),ids18.length=y4.length/\ids18.length=d.length/\x = .exit 0/\ZA e [(0,(.buf id1 d.length 1))]/\Hs G (.blk id1 43 ids18::(famL 32 2 Bound.cs ids18 y4++T1))) ⟨ids11,hMids11,hNids11,EI V,H⟩ ?_) ?_
      ·intro s3 e G hI z h;obtain ⟨ids17,hMids17,hNids17,he,H⟩:=hI;obtain ⟨e,rfl⟩:=he.ex;unfold ZD.s2 at h;refine .tR 1 V H λb18 G H=>(.iV V (.na H λH=>(.then ?_)));refine .wh h V ?_ ?_<;>intro h
       ·refine .skip (.then (.inBlock (.tR 2 V H λb19 G H=>(.mV V (.aV V (.na H λH=>(.tR 3 V H λb20 G H=>(.mB V ?_))))))));refine .lenM H 0 V hNids17 V V nofun V (.mV V (.na H λH=>(.inBlock ?_)));obtain ⟨y5,hj5,h⟩:=bs h;obtain ⟨n4,hj5⟩:=ZV.1 hj5;refine .mono (Runs.loopO hj5 (λs4 e G=>∃ (ids21:List PV),ids21.length=s4.2.length/\ids21.length=d.length/\ZA e [(0,(.buf id1 d.length 1)),(1,(vi s2.1)),(5,(vi s3.1)),(11,(vi ((d.length:Nat):Int))),(12,(vi s3.1)),(16,(vi ((d.length:Nat):Int))),(17,(vi s4.1))]/\Hs G (.blk id1 43 ids21::(famL 32 2 Bound.cs ids21 s4.2++T1))) (λy5 x e G=>∃ (ids22:List PV),ids22.length=y5.length/\ids22.length=d.length/\x = .exit 2/\ZA e [(0,(.buf id1 d.length 1)),(1,(vi s2.1)),(11,(vi ((d.length:Nat):Int))),(12,(vi s3.1))]/\Hs G (.blk id1 43 ids22::(famL 32 2 Bound.cs ids22 y5++T1))) ⟨ids17,hMids17,hNids17,EI V,H⟩ ?_) ?_
        ·intro s4 e G hI z h;obtain ⟨ids21,hMids21,hNids21,he,H⟩:=hI;obtain ⟨e,rfl⟩:=he.ex;unfold ZD.s3 at h;refine .tR 1 V H λb21 G H=>(.iV V (.na H λH=>(.then ?_)));refine .wh h V ?_ ?_<;>intro h
         ·refine .skip (.then ?_);obtain ⟨y6,hj6,h⟩:=bs h;refine .mono (Q:=λx e G=>∃ (ids23:List PV),ids23.length=y6.length/\ids23.length=d.length/\x = .normal/\ZA e [(0,(.buf id1 d.length 1)),(1,(vi s2.1)),(5,(vi s3.1)),(11,(vi ((d.length:Nat):Int))),(12,(vi s3.1)),(16,(vi ((d.length:Nat):Int))),(17,(vi s4.1))]/\Hs G (.blk id1 43 ids23::(famL 32 2 Bound.cs ids23 y6++T1))) ?_ ?_
          ·replace h:=hj6;refine .inBlock ?_;obtain ⟨y7,hj7,h⟩:=bs h;refine .mono (Q:=λx e G=>∃ (ids24:List PV),ids24.length=y7.length/\ids24.length=d.length/\x = .normal/\ZA e [(0,(.buf id1 d.length 1)),(1,(vi s2.1)),(5,(vi s3.1)),(11,(vi ((d.length:Nat):Int))),(12,(vi s3.1)),(16,(vi ((d.length:Nat):Int))),(17,(vi s4.1))]/\Hs G (.blk id1 43 ids24::(famL 32 2 Bound.cs ids24 y7++T1))) ?_ ?_
           ·replace h:=hj7;refine .tR 2 V H λb22 G H=>(.mV V (.aV V (.na H λH=>(.then (.Z0d 21 V (by kernel_rfl) H λb23 G H B23=>(.mB V (.mV V ?_)))))));obtain ⟨x7,q7,h⟩:=bs h;obtain ⟨v3,hv5,hr3⟩:=Z0I (rt:=32) (sz:=2) (c:=Bound.cs) hMids21 q7;refine .Zt H 0 V hNids21 V V (at?_nn q7) (hNids21▸Z03 hv5) V V (so (B23 0 _ V _ V)) V ?_;refine .ld v3 H 0 V hNids21 V V hv5 (so (B23 0 _ V _ V)) V (.mV V ?_);obtain ⟨x8,q8,h⟩:=bs h;refine .Z0K H (1+(s3.1).toNat) (ZO 1 V hr3) V V (at?_map q8) V V (λ_ id ho=>.inl ⟨B23 (1+(s3.1).toNat) _ (ZO 1 V hr3) id ho,nofun,(λ_=>by kernel_rfl)⟩) V ?_;intro id4 hv6;refine .Z1X (id:=id4) H (1+(s3.1).toNat) (ZO 1 V hr3) hv6 (by simp) (at?_map q8) V V V V (λ_=>.inl ⟨B23 (1+(s3.1).toNat) _ (ZO 1 V hr3) _ (by rw [(hv6:(v3:PV)=_)];rfl),nofun,(λ_=>by kernel_rfl)⟩) V ?_;refine .mB V (.mV V ?_);obtain ⟨x9,q9,h⟩:=bs h;obtain ⟨v4,hv7,hr4⟩:=Z0I (rt:=32) (sz:=2) (c:=Bound.cs) hMids21 q9;refine .Zt H 0 V hNids21 V V (at?_nn q9) (hNids21▸Z03 hv7) V V (so (B23 0 _ V _ V)) V ?_;refine .ld v4 H 0 V hNids21 V V hv7 (so (B23 0 _ V _ V)) V (.mV V ?_);obtain ⟨x10,q10,h⟩:=bs h;refine .Z0K H (1+(s2.1).toNat) (ZO 1 V hr4) V V (at?_map q10) V V (λ_ id ho=>.inl ⟨B23 (1+(s2.1).toNat) _ (ZO 1 V hr4) id ho,nofun,(λ_=>by kernel_rfl)⟩) V ?_;intro id5 hv8
            refine .Z1X (id:=id5) H (1+(s2.1).toNat) (ZO 1 V hr4) hv8 (by simp) (at?_map q10) V V V V (λ_=>.inl ⟨B23 (1+(s2.1).toNat) _ (ZO 1 V hr4) _ (by rw [(hv8:(v4:PV)=_)];rfl),nofun,(λ_=>by kernel_rfl)⟩) V ?_;refine .cV (safe_Sum_fnZ (V:ZB x8 x10=_)) V (.m1 (.tup [(.agg [(.v (.int .i8 (ZB x8 x10).1.Inf)),(vi (ZB x8 x10).1.N)]),(vi (ZB x8 x10).2)]) V V (.xV V (.xV V (.alc (cs:=[(.v (.int .i8 0)),(vi 0)]) H V V λG H=>(.Z4L (cells':=[(.v (.int .i8 (ZB x8 x10).1.Inf)),(vi (ZB x8 x10).1.N)]) H 0 V V V V V V V V V (λ_=>.inr ⟨18,V,by kernel_rfl,by decide⟩) λG H=>(.aV V (.na H λH=>(.then ?_))))))));refine .Z0d 13 V (by kernel_rfl) H λb24 G H B24=>(.mV V (.iV V (.mV V ?_)));obtain ⟨y8,hj8,h⟩:=bs h;refine .md H 10 [(50,(vb y8)),(0,(.buf id1 d.length 1)),(1,(vi s2.1)),(5,(vi s3.1)),(6,(vi s4.1)),(7,(.ptr (b23+18) 2 0)),(11,(vi ((d.length:Nat):Int))),(12,(vi s3.1)),(16,(vi ((d.length:Nat):Int))),(17,(vi s4.1))] (.blk (b23+18) 32 [(.v (.int .i8 (ZB x8 x10).1.Inf)),(vi (ZB x8 x10).1.N)] :: .blk id1 43 ids21::(famL 32 2 Bound.cs ids21 s4.2++T1)) V ?_ λe G H=>?_
            ·refine .sp hj8 V ?_ ?_<;>intro h
             ·refine .wt V V (.Z1q (cs:=[(.v (.int .i8 (ZB x8 x10).1.Inf)),(vi (ZB x8 x10).1.N)]) H 0 V V V V V V V (so (B24 0 _ V _ V)) V (.mB V (.mV V (.wt V V ?_))));obtain ⟨x11,q11,h⟩:=bs h;obtain ⟨v5,hv9,hr5⟩:=Z0I (rt:=32) (sz:=2) (c:=Bound.cs) hMids21 q11;refine .Zt H 1 V hNids21 V V (at?_nn q11) (hNids21▸Z03 hv9) V V (so (B24 1 _ V _ V)) V ?_;refine .wt V V (.ld v5 H 1 V hNids21 V V hv9 (so (B24 1 _ V _ V)) V (.mV V (.wt V V ?_)));obtain ⟨x12,q12,h⟩:=bs h;refine .Z0K H (2+(s3.1).toNat) (ZO 2 V hr5) V V (at?_map q12) V V (λ_ id ho=>.inl ⟨B24 (2+(s3.1).toNat) _ (ZO 2 V hr5) id ho,nofun,(λ_=>by kernel_rfl)⟩) V ?_;intro id6 hv10;refine .wt V V ?_;refine .Z1X (id:=id6) H (2+(s3.1).toNat) (ZO 2 V hr5) hv10 (by simp) (at?_map q12) V V V V (λ_=>.inl ⟨B24 (2+(s3.1).toNat) _ (ZO 2 V hr5) _ (by rw [(hv10:(v5:PV)=_)];rfl),nofun,(λ_=>by kernel_rfl)⟩) V ?_;refine .cV (Z1t (V:Zg ((ZB x8 x10).1) x12=_)) V (.kT V (.nil ?_));obtain rfl:=sj h;exact ⟨EI V,H.wk (by omega)⟩
             refine .ps 9 V (.kF V (.nil ?_));obtain rfl:=sj h;exact ⟨EI V,H.wk (by omega)⟩
            refine .na H λH=>?_;refine .wh h V ?_ ?_<;>intro h
            ·refine .Z0d 8 V (by kernel_rfl) H λb25 G H B25=>(.mB V (.mV V ?_));obtain ⟨x13,q13,h⟩:=bs h;obtain ⟨v6,hv11,hr6⟩:=Z0I (rt:=32) (sz:=2) (c:=Bound.cs) hMids21 q13;refine .Zt H 1 V hNids21 V V (at?_nn q13) (hNids21▸Z03 hv11) V V (so (B25 1 _ V _ V)) V ?_;refine .ld v6 H 1 V hNids21 V V hv11 (so (B25 1 _ V _ V)) V (.mV V (.Z1q (cs:=[(.v (.int .i8 (ZB x8 x10).1.Inf)),(vi (ZB x8 x10).1.N)]) H 0 V V V V V V V (so (B25 0 _ V _ V)) V ?_));obtain ⟨x14,q14,h⟩:=bs h;refine .Z0K H (2+(s3.1).toNat) (ZO 2 V hr6) V V (at?_map q14) V V (λ_ id ho=>.inl ⟨B25 (2+(s3.1).toNat) _ (ZO 2 V hr6) id ho,nofun,(λ_=>by kernel_rfl)⟩) V ?_;intro id7 hv12;refine .Z1s (id:=id7) (j:=0) (zs:=[(.int .i8 (ZB x8 x10).1.Inf),(.int .i64 (ZB x8 x10).1.N)]) (u:=x14) (u':=((ZB x8 x10).1)) H (2+(s3.1).toNat) (ZO 2 V hr6) hv12 (by simp) q14 V (by simp) V V V V V V (λ_=>.inl ⟨B25 (2+(s3.1).toNat) _ (ZO 2 V hr6) _ (by rw [(hv12:(v6:PV)=_)];rfl),(λ_=>by kernel_rfl),nofun⟩) λG H=>?_;have hMs2:ids21.length=(s4.2.set (s3.1).toNat (x13.set (s4.1).toNat ((ZB x8 x10).1))).length:=hMids21.trans (YQ ..).symm;replace H:Has G _ _ (.blk (b23+18) 32 [(.v (.int .i8 (ZB x8 x10).1.Inf)),(vi (ZB x8 x10).1.N)] :: .blk id1 43 ids21::(famL 32 2 Bound.cs ids21 (s4.2.set (s3.1).toNat (x13.set (s4.1).toNat ((ZB x8 x10).1)))++T1)):=H.famSet (k:=2) rfl hMids21 hv11
             refine .na H λH=>?_;obtain rfl:=sj h;exact ⟨ids21,hMs2,hNids21,V,EI V,(H.erase 0)⟩
            refine .skip ?_;obtain rfl:=sj h;exact ⟨ids21,hMids21,hNids21,V,EI V,(H.erase 0)⟩
           ·rintro x e G ⟨ids25,hMids25,hNids25,rfl,he,H⟩;obtain ⟨e,rfl⟩:=he.ex;obtain rfl:=sj h;exact ⟨ids25,hMids25,hNids25,V,EI V,H⟩
          ·rintro x e G ⟨ids26,hMids26,hNids26,rfl,he,H⟩;obtain ⟨e,rfl⟩:=he.ex;refine .ZS 2 V H λb26 G H=>(.iV V (.mV V (.na H λH=>?_)));obtain rfl:=sj h;exact ⟨V,ids26,hMids26,hNids26,EI V,H⟩
         refine .exit ?_;obtain rfl:=sj h;exact ⟨nofun,⟨ids21,hMids21,hNids21,V,EI V,H⟩⟩
        ·rintro x e G ⟨ids27,hMids27,hNids27,rfl,he,H⟩;obtain ⟨e,rfl⟩:=he.ex;refine .ZS 2 V H λb27 G H=>(.iV V (.mV V (.na H λH=>?_)));obtain rfl:=sj h;exact ⟨V,ids27,hMids27,hNids27,EI V,H⟩
       refine .exit ?_;obtain rfl:=sj h;exact ⟨nofun,⟨ids17,hMids17,hNids17,V,EI V,H⟩⟩
      ·rintro x e G ⟨ids28,hMids28,hNids28,rfl,he,H⟩;obtain ⟨e,rfl⟩:=he.ex;refine .then (.tR 3 V H λb28 G H=>(.mB V (.lenM H 0 V hNids28 V V nofun V (.mV V (.na H λH=>(.inBlock ?_))))));obtain ⟨y9,hj9,h⟩:=bs h;obtain ⟨n5,hj9⟩:=ZV.1 hj9;refine .mono (Runs.loopO hj9 (λs5 e G=>ZA e [(0,(.buf id1 d.length 1)),(61,(vi ((d.length:Nat):Int))),(62,(vi s5))]/\Hs G (.blk id1 43 ids28::(famL 32 2 Bound.cs ids28 y4++T1))) (λy9 x e G=>(∃ a7,y9=(.go a7)/\x = .exit 4/\ZA e []/\Hs G (.blk id1 43 ids28::(famL 32 2 Bound.cs ids28 y4++T1)))\/(∃ a8,y9=(.ret a8)/\x = .ret/\ZA e [(4,(vb false))]/\Hs G (.blk id1 43 ids28::(famL 32 2 Bound.cs ids28 y4++T1)))) ⟨EI V,H⟩ ?_) ?_
       ·intro s5 e G hI z h;obtain ⟨he,H⟩:=hI;obtain ⟨e,rfl⟩:=he.ex;unfold ZD.s4 at h;refine .tR 1 V H λb29 G H=>(.iV V (.na H λH=>(.then ?_)));refine .wh h V ?_ ?_<;>intro h
        ·refine .skip (.then (.inBlock (.tR 2 V H λb30 G H=>(.mV V (.aV V (.na H λH=>(.tR 9 V H λb31 G H=>(.mB V ?_))))))));refine .mV V ?_;obtain ⟨x15,q15,h⟩:=bs h;obtain ⟨v7,hv13,hr7⟩:=Z0I (rt:=32) (sz:=2) (c:=Bound.cs) hMids28 q15;refine .Zt H 0 V hNids28 V V (at?_nn q15) (hNids28▸Z03 hv13) V V nofun V ?_;refine .ld v7 H 0 V hNids28 V V hv13 nofun V (.mV V ?_);obtain ⟨x16,q16,h⟩:=bs h;refine .Z0K H (1+(s5).toNat) (ZO 1 V hr7) V V (at?_map q16) V V nofun V ?_;intro id8 hv14;refine .Z1X (id:=id8) H (1+(s5).toNat) (ZO 1 V hr7) hv14 (by simp) (at?_map q16) V V V V nofun V ?_;refine .bV [(.v (.int .i8 0)),(vi 0)] V (.cV (Z1t (V:Zg x16 (Bound.mk 0 0)=_)) V (.na H λH=>?_));refine .wh h V ?_ ?_<;>intro h
         ·refine .tR 1 V H λb32 G H=>(.aV V (.na H λH=>(.ret ?_)));obtain rfl:=sj h;exact ⟨nofun,(.inr ⟨_,V,V,EI V,H⟩)⟩
         refine .skip (.ZS 2 V H λb33 G H=>(.iV V (.mV V (.na H λH=>?_))));obtain rfl:=sj h;exact ⟨V,EI V,H⟩
        refine .exit ?_;obtain rfl:=sj h;exact ⟨nofun,(.inl ⟨_,V,V,U,H⟩)⟩
       ·rintro x e G (⟨a9,rfl,rfl,he,H⟩|⟨a10,rfl,rfl,he,H⟩)
        ·replace h:=jgo h;obtain ⟨e,rfl⟩:=he.ex;refine .tR 1 V H λb34 G H=>(.aV V (.na H λH=>(.ret ?_)));obtain rfl:=sj h;exact ⟨.inr V,_,Z0C H (.tmp (v:=(vb true)) V .nil),_,⟨ids28,hMids28,hNids28,V,V⟩,H⟩
        ·replace h:=jret h;obtain ⟨e,rfl⟩:=he.ex;obtain rfl:=sj h;exact ⟨.inr V,_,Z0C H (.tmp (v:=(vb false)) V .nil),_,⟨ids28,hMids28,hNids28,V,V⟩,H⟩
     ·rintro _ _ G ⟨ids14,hMids14,hNids14,rfl,rfl⟩ H;refine .tV V (.na H λH=>?_);refine .wh h V ?_ ?_<;>intro h
      ·refine .tR 3 V H λb35 G H=>(.a1 .nils V V (.aV V (.aV V (.na H λH=>(.ret ?_)))));obtain rfl:=sj h;exact ⟨nofun,(.inr ⟨_,ids14,hMids14,hNids14,V,V,EI V,H⟩)⟩
      refine .skip (.ZS 2 V H λb36 G H=>(.iV V (.mV V (.na H λH=>?_))));obtain rfl:=sj h;exact ⟨V,ids14,hMids14,hNids14,EI V,H⟩
    refine .exit ?_;obtain rfl:=sj h;exact ⟨nofun,(.inl ⟨_,ids11,hMids11,hNids11,V,V,EI V,H⟩)⟩
   ·rintro x e G (⟨a11,ids29,hMids29,hNids29,rfl,rfl,he,H⟩|⟨a12,ids30,hMids30,hNids30,rfl,rfl,he,H⟩)
    ·replace h:=jgo h;obtain ⟨e,rfl⟩:=he.ex;refine .tR 4 V H λb37 G H=>(.mB V (.aB V (.aV V (.aV V (.na H λH=>(.ret ?_))))));obtain rfl:=sj h;exact ⟨.inr V,_,Z0C H (.tmp (v:=(.buf id1 d.length 1)) V (.tmp (v:=(vb true)) V (.tmp (v:=(vi 0)) V .nil))),_,.inl ⟨V,_,_,hMids29,hNids29,V,V⟩,H⟩
    ·replace h:=jret h;obtain ⟨e,rfl⟩:=he.ex;replace H:Has G _ _ (T):=Has.noMat (A:=[]) (R:=T) hMids30 H;obtain rfl:=sj h;exact ⟨.inr V,_,Z0C H (.tmp (v:=.nils) V (.tmp (v:=(vb false)) V (.tmp (v:=(vi 0)) V .nil))),_,.inr ⟨V,V,V⟩,H⟩
  ·replace h:=jret h;obtain ⟨e,rfl⟩:=he.ex;replace H:Has G _ _ (T):=Has.noMat (A:=[]) (R:=T) hMids8 H;obtain rfl:=sj h;exact ⟨.inr V,_,Z0C H (.tmp (v:=.nils) V (.tmp (v:=(vb false)) V (.tmp (v:=(vi 0)) V .nil))),_,.inr ⟨V,V,V⟩,H⟩
theorem Zv {m:(List (List Bound))} {n:Int} {r:Bool} (h:Z4 m n=some r):Fn CZ 48 [(vl (cL Bound.cs) m),(vi n)] (vb r):=by
 refine Fn.go Try.func48 V λG H=>?_;unfold Z4 at h;refine .tR 1 V H λb1 G H=>(.aV V (.na H λH=>(.then (.tR 3 V H λb2 G H=>(.mV V (.nV V (.mV V (.na H λH=>?_))))))));refine .inBlock ?_;obtain ⟨y1,hj1,h⟩:=bs h;obtain ⟨n1,hj1⟩:=ZV.1 hj1;refine .mono (Runs.loopO hj1 (λs1 e G=>ZA e [(0,(vl (cL Bound.cs) m)),(1,(vi n)),(7,(vl (cL Bound.cs) m)),(8,(vi (m.length:Int))),(9,(vi s1))]/\Hs G []) (λy1 x e G=>(∃ a1,y1=(.go a1)/\x = .exit 0/\ZA e [(0,(vl (cL Bound.cs) m)),(1,(vi n))]/\Hs G [])\/(∃ r',y1=(.ret r')/\x = .ret/\Ends CZ Try.f48.results.toList (vb r') x e G)) ⟨EI V,H⟩ ?_) ?_
 ·intro s1 e G hI z h;obtain ⟨he,H⟩:=hI;obtain ⟨e,rfl⟩:=he.ex;unfold Z4.s0 at h;refine .tR 1 V H λb3 G H=>(.iV V (.na H λH=>(.then ?_)));refine .wh h V ?_ ?_<;>intro h
  ·refine .skip (.then (.inBlock (.tR 3 V H λb4 G H=>?_)));obtain ⟨x1,q1,h⟩:=bs h;refine .jV q1 V (.pV V (.aV V (.na H λH=>(.tR 4 V H λb5 G H=>(.mV V (.nV V (.mV V (.iV V ?_))))))));refine .na H λH=>?_;refine .wh h V ?_ ?_<;>intro h
   ·refine .tR 1 V H λb6 G H=>(.aV V (.na H λH=>(.ret ?_)));obtain rfl:=sj h;exact ⟨nofun,(.inr ⟨_,V,V,(Ends.H (xs:=[(vb false)]) (.inr V) H (.tmp (v:=(vb false)) V .nil) (.one (.c (.v _))))⟩)⟩
   refine .skip (.ZS 2 V H λb7 G H=>(.iV V (.mV V (.na H λH=>?_))));obtain rfl:=sj h;exact ⟨V,EI V,H⟩
  refine .exit ?_;obtain rfl:=sj h;exact ⟨nofun,(.inl ⟨_,V,V,EI V,H⟩)⟩
 ·rintro x e G (⟨a2,rfl,rfl,he,H⟩|⟨r',rfl,rfl,hE⟩)
  ·replace h:=jgo h;obtain ⟨e,rfl⟩:=he.ex;refine .tR 5 V H λb8 G H=>(.mV V (.nV V (.mV V (.iV V (.aV V (.na H λH=>(.ret ?_)))))));obtain rfl:=sj h;exact Ends.eR V
  ·replace h:=jret h;obtain rfl:=sj h;exact hE
theorem Z0Y {r:Bool} (h:ZK=r):Fn CZ 35 [] (vb r):=lift rfl (Z46 h) rfl rfl
end Go.Dn

namespace Go.Dn
open Go Go.Proofs
set_option maxRecDepth 100000
set_option maxHeartbeats 4000000
theorem Z3U {n:Int} {l:(List epactlaw24_Set)} {r:Bool} (h:Z0r n l=some r):Fn CZ 13 [(.v (.int .u8 n)),(vl epactlaw24_Set.cs l)] (vb r):=by
 refine Fn.go Try.func13 V λG H=>?_;unfold Z0r at h;refine .tR 1 V H λb1 G H=>(.aV V (.na H λH=>(.tR 6 V H λb2 G H=>(.mV V (.rem (m:=n) (m':=23) V V (by decide) V (.iV V (.mV V ?_)))))));obtain ⟨x1,q1,h⟩:=bs h;refine .cV (Z3W q1) V (.aV V (.na H λH=>(.then (.tR 3 V H λb3 G H=>(.mV V (.nV V (.iV V (.na H λH=>?_))))))));refine .wh h V ?_ ?_<;>intro h
 ·refine .tR 1 V H λb4 G H=>(.aV V (.na H λH=>(.ret ?_)));obtain rfl:=sj h;exact Ends.eR V
 refine .skip (.tR 7 V H λb5 G H=>(.mV V ?_));obtain ⟨x2,q2,h⟩:=bs h;refine .jV q2 V (.pV V ?_);obtain ⟨x3,q3,h⟩:=bs h;refine .jV q3 V (.qV [(.int .i8 x3.Inf),(.int .i64 x3.N)] V (.alc (cs:=[(.v (.int .i8 0)),(vi 0)]) H V V λG H=>(.sV [(.v (.int .i8 x3.Inf)),(vi x3.N)] H 0 V λG H=>(.na H λH=>(.tR 8 V H λb6 G H=>(.mV V (.bV [(.v (.int .i8 0)),(vi (-500))] V ?_)))))));obtain ⟨x4,q4,h⟩:=bs h;refine .Z2A (ys:=[(vl (cL Bound.cs) x1),(vi 0),(vi 1),(.agg (vs (Bound.cs (Bound.mk 0 (-500)))))]) H rfl (stp_SetO_fnZ q4) nofun rfl ?_;rintro _ _ G ⟨id1,ids1,hMids1,hNids1,rfl,rfl⟩ H;replace H:Has G _ _ (.blk (b5+5) 32 [(.v (.int .i8 x3.Inf)),(vi x3.N)] :: .blk id1 43 ids1::(famL 32 2 Bound.cs ids1 x4.1++[])):=Has.matLast (M:=.blk id1 43 ids1::famL 32 2 Bound.cs ids1 x4.1) [.blk (b5+5) 32 [(.v (.int .i8 x3.Inf)),(vi x3.N)]] H;refine .m1 (.tup [(.buf id1 x1.length 1),(vi x4.2)]) V V (.xV V (.xV V (.aB V (.aV V (.na H λH=>(.tR 9 V H λb7 G H=>(.mV V ?_)))))));obtain ⟨x5,q5,h⟩:=bs h;refine .Z2A (ys:=[(vl (cL Bound.cs) x1)]) H rfl (Z2V q5) nofun rfl ?_;rintro _ _ G (⟨hq1,id2,ids2,hMids2,hNids2,rfl,rfl⟩|⟨hq1,rfl,rfl⟩) H
 ·replace h:=cond_T hq1 h;replace H:Has G _ _ (.blk (b5+5) 32 [(.v (.int .i8 x3.Inf)),(vi x3.N)] :: .blk id1 43 ids1::(famL 32 2 Bound.cs ids1 x4.1++(.blk id2 43 ids2::(famL 32 2 Bound.cs ids2 x5.1++[])))):=Has.matIn (M:=.blk id2 43 ids2::famL 32 2 Bound.cs ids2 x5.1) (O:=(.blk (b5+5) 32 [(.v (.int .i8 x3.Inf)),(vi x3.N)] :: .blk id1 43 ids1::famL 32 2 Bound.cs ids1 x4.1)) (T:=[]) H;refine .m1 (.tup [(.buf id2 x1.length 1),(vb true),(vi x5.2.2)]) V V (.xV V (.xV V (.xV V (.aB V (.aV V (.aV V (.na H λH=>(.then ?_))))))));refine .tR 5 V H λb8 G H=>(.mB V (.mB V (.buildB (m:=2) (cs:=[(.buf id1 x1.length 1),(.buf id2 x1.length 1)]) H (by omega) (by omega) V V V V V V V V V λG H=>(.lenM H 0 V V V V nofun V (.mV V (.na H λH=>(.inBlock (.again ?_))))))));refine .tR 1 V H λb9 G H=>(.it 0 2 (.bool true) V V V V V (.na H λH=>(.then (.yes V (.skip (.then ?_))))));obtain ⟨y1,hj1,h⟩:=bs h;refine .mono (Q:=λx e G=>∃ (ids3:List PV),ids3.length=y1.length/\ids3.length=x1.length/\x = .normal/\ZA e [(5,(vl (cL Bound.cs) x1)),(6,(.ptr (b5+5) 2 0)),(8,(vi x4.2)),(10,(vb true)),(11,(vi x5.2.2)),(44,(.buf (b8+2) 2 1)),(45,(vi 2)),(46,(vi 0))]/\Hs G (.blk (b8+2) 39 [(.buf id1 x1.length 1),(.buf id2 x1.length 1)] :: .blk (b5+5) 32 [(.v (.int .i8 x3.Inf)),(vi x3.N)] :: .blk id1 43 ids3::(famL 32 2 Bound.cs ids3 y1++(.blk id2 43 ids2::(famL 32 2 Bound.cs ids2 x5.1++[]))))) ?_ ?_
  ·replace h:=hj1;refine .inBlock ?_;obtain ⟨y2,hj2,h⟩:=bs h;refine .mono (Q:=λx e G=>∃ (ids4:List PV),ids4.length=y2.length/\ids4.length=x1.length/\x = .normal/\ZA e [(5,(vl (cL Bound.cs) x1)),(6,(.ptr (b5+5) 2 0)),(8,(vi x4.2)),(10,(vb true)),(11,(vi x5.2.2)),(44,(.buf (b8+2) 2 1)),(45,(vi 2)),(46,(vi 0))]/\Hs G (.blk (b8+2) 39 [(.buf id1 x1.length 1),(.buf id2 x1.length 1)] :: .blk (b5+5) 32 [(.v (.int .i8 x3.Inf)),(vi x3.N)] :: .blk id1 43 ids4::(famL 32 2 Bound.cs ids4 y2++(.blk id2 43 ids2::(famL 32 2 Bound.cs ids2 x5.1++[]))))) ?_ ?_
   ·replace h:=hj2;refine .tR 3 V H λb10 G H=>(.Zt (m:=2) (iv:=0) H 0 V V V V (by decide) (by decide) V V nofun V (.lV H 0 V (.aB V (.na H λH=>(.tR 4 V H λb11 G H=>(.mB V (.mV V (.nV V ?_))))))));obtain ⟨x6,q6,h⟩:=bs h;refine .callTM (c:=Bound.cs) H 2 V V hMids1 hNids1 V V (Zv q6) V V V V nofun V (.na H λH=>?_);refine .wh h V ?_ ?_<;>intro h
    ·refine .ZS 6 V H λb12 G H=>(.mB V ?_);obtain ⟨x7,q7,h⟩:=bs h;obtain ⟨v1,hv1,hr1⟩:=Z0I (rt:=32) (sz:=2) (c:=Bound.cs) hMids1 q7;refine .Zt H 2 V hNids1 V V (at?_nn q7) (hNids1▸Z03 hv1) V V nofun V ?_;refine .ld v1 H 2 V hNids1 V V hv1 nofun V (.bV [(.v (.int .i8 0)),(vi 77777)] V ?_);obtain ⟨x8,q8,h⟩:=bs h;refine .Z0K H (3+((0:Int)).toNat) (ZO 3 V hr1) V V (at?_map q8) V V nofun V ?_;intro id3 hv2;refine .Z1s (id:=id3) (j:=0) (zs:=[(.int .i8 0),(.int .i64 77777)]) (u:=x8) (u':=(Bound.mk 0 77777)) H (3+((0:Int)).toNat) (ZO 3 V hr1) hv2 (by simp) q8 V (by simp) V V V V V V nofun λG H=>?_;have hMs1:ids1.length=(x4.1.set ((0:Int)).toNat (x7.set ((1:Int)).toNat (Bound.mk 0 77777))).length:=hMids1.trans (YQ ..).symm;replace H:Has G _ _ (.blk (b8+2) 39 [(.buf id1 x1.length 1),(.buf id2 x1.length 1)] :: .blk (b5+5) 32 [(.v (.int .i8 x3.Inf)),(vi x3.N)] :: .blk id1 43 ids1::(famL 32 2 Bound.cs ids1 (x4.1.set ((0:Int)).toNat (x7.set ((1:Int)).toNat (Bound.mk 0 77777)))++(.blk id2 43 ids2::(famL 32 2 Bound.cs ids2 x5.1++[])))):=H.famSet (k:=3) rfl hMids1 hv1;refine .na H λH=>?_;obtain rfl:=sj h;exact ⟨ids1,hMs1,hNids1,V,EI V,H⟩
    refine .skip ?_;obtain rfl:=sj h;exact ⟨ids1,hMids1,hNids1,V,EI V,H⟩
   ·rintro x e G ⟨ids5,hMids5,hNids5,rfl,he,H⟩;obtain ⟨e,rfl⟩:=he.ex;obtain rfl:=sj h;exact ⟨ids5,hMids5,hNids5,V,EI V,H⟩
  ·rintro x e G ⟨ids6,hMids6,hNids6,rfl,he,H⟩;obtain ⟨e,rfl⟩:=he.ex;refine .ZS 2 V H λb13 G H=>(.it 0 1 (.int .i64 1) V V V V V (.mV V (.na H λH=>(.again (.tR 1 V H λb14 G H=>(.it 1 2 (.bool true) V V V V V (.na H λH=>(.then ?_))))))));refine .yes V (.skip (.then ?_));obtain ⟨y3,hj3,h⟩:=bs h;refine .mono (Q:=λx e G=>∃ (ids7:List PV),ids7.length=y3.length/\ids7.length=x1.length/\x = .normal/\ZA e [(5,(vl (cL Bound.cs) x1)),(6,(.ptr (b5+5) 2 0)),(8,(vi x4.2)),(10,(vb true)),(11,(vi x5.2.2)),(44,(.buf (b8+2) 2 1)),(45,(vi 2)),(46,(vi 1))]/\Hs G (.blk (b8+2) 39 [(.buf id1 x1.length 1),(.buf id2 x1.length 1)] :: .blk (b5+5) 32 [(.v (.int .i8 x3.Inf)),(vi x3.N)] :: .blk id2 43 ids7::(famL 32 2 Bound.cs ids7 y3++(.blk id1 43 ids6::(famL 32 2 Bound.cs ids6 y1++[]))))) ?_ ?_
   ·replace h:=hj3;refine .inBlock ?_;obtain ⟨y4,hj4,h⟩:=bs h;refine .mono (Q:=λx e G=>∃ (ids8:List PV),ids8.length=y4.length/\ids8.length=x1.length/\x = .normal/\ZA e [(5,(vl (cL Bound.cs) x1)),(6,(.ptr (b5+5) 2 0)),(8,(vi x4.2)),(10,(vb true)),(11,(vi x5.2.2)),(44,(.buf (b8+2) 2 1)),(45,(vi 2)),(46,(vi 1))]/\Hs G (.blk (b8+2) 39 [(.buf id1 x1.length 1),(.buf id2 x1.length 1)] :: .blk (b5+5) 32 [(.v (.int .i8 x3.Inf)),(vi x3.N)] :: .blk id2 43 ids8::(famL 32 2 Bound.cs ids8 y4++(.blk id1 43 ids6::(famL 32 2 Bound.cs ids6 y1++[]))))) ?_ ?_
    ·replace h:=hj4;refine .tR 3 V H λb15 G H=>(.Zt (m:=2) (iv:=1) H 0 V V V V (by decide) (by decide) V V nofun V (.lV H 0 V (.aB V (.na H λH=>(.tR 4 V H λb16 G H=>(.mB V (.mV V (.nV V ?_))))))));replace H:Has G _ _ (.blk (b8+2) 39 [(.buf id1 x1.length 1),(.buf id2 x1.length 1)] :: .blk (b5+5) 32 [(.v (.int .i8 x3.Inf)),(vi x3.N)] :: .blk id2 43 ids2::(famL 32 2 Bound.cs ids2 x5.1++(.blk id1 43 ids6::(famL 32 2 Bound.cs ids6 y1++[])))):=Has.swapM (A:=[.blk (b8+2) 39 [(.buf id1 x1.length 1),(.buf id2 x1.length 1)],.blk (b5+5) 32 [(.v (.int .i8 x3.Inf)),(vi x3.N)]]) (T:=[]) H;obtain ⟨x9,q9,h⟩:=bs h;refine .callTM (c:=Bound.cs) H 2 V V hMids2 hNids2 V V (Zv q9) V V V V nofun V (.na H λH=>?_);refine .wh h V ?_ ?_<;>intro h
     ·refine .ZS 6 V H λb17 G H=>(.mB V ?_);obtain ⟨x10,q10,h⟩:=bs h;obtain ⟨v2,hv3,hr2⟩:=Z0I (rt:=32) (sz:=2) (c:=Bound.cs) hMids2 q10;refine .Zt H 2 V hNids2 V V (at?_nn q10) (hNids2▸Z03 hv3) V V nofun V ?_;refine .ld v2 H 2 V hNids2 V V hv3 nofun V (.bV [(.v (.int .i8 0)),(vi 77777)] V ?_);obtain ⟨x11,q11,h⟩:=bs h;refine .Z0K H (3+((0:Int)).toNat) (ZO 3 V hr2) V V (at?_map q11) V V nofun V ?_;intro id4 hv4;refine .Z1s (id:=id4) (j:=0) (zs:=[(.int .i8 0),(.int .i64 77777)]) (u:=x11) (u':=(Bound.mk 0 77777)) H (3+((0:Int)).toNat) (ZO 3 V hr2) hv4 (by simp) q11 V (by simp) V V V V V V nofun λG H=>?_;have hMs2:ids2.length=(x5.1.set ((0:Int)).toNat (x10.set ((1:Int)).toNat (Bound.mk 0 77777))).length:=hMids2.trans (YQ ..).symm;replace H:Has G _ _ (.blk (b8+2) 39 [(.buf id1 x1.length 1),(.buf id2 x1.length 1)] :: .blk (b5+5) 32 [(.v (.int .i8 x3.Inf)),(vi x3.N)] :: .blk id2 43 ids2::(famL 32 2 Bound.cs ids2 (x5.1.set ((0:Int)).toNat (x10.set ((1:Int)).toNat (Bound.mk 0 77777)))++(.blk id1 43 ids6::(famL 32 2 Bound.cs ids6 y1++[])))):=H.famSet (k:=3) rfl hMids2 hv3;refine .na H λH=>?_;obtain rfl:=sj h;exact ⟨ids2,hMs2,hNids2,V,EI V,H⟩
     refine .skip ?_;obtain rfl:=sj h;exact ⟨ids2,hMids2,hNids2,V,EI V,H⟩
    ·rintro x e G ⟨ids9,hMids9,hNids9,rfl,he,H⟩;obtain ⟨e,rfl⟩:=he.ex;obtain rfl:=sj h;exact ⟨ids9,hMids9,hNids9,V,EI V,H⟩
   ·rintro x e G ⟨ids10,hMids10,hNids10,rfl,he,H⟩;obtain ⟨e,rfl⟩:=he.ex;refine .ZS 2 V H λb18 G H=>(.it 1 1 (.int .i64 2) V V V V V (.mV V (.na H λH=>(.again (.tR 1 V H λb19 G H=>(.it 2 2 (.bool false) V V V V V (.na H λH=>(.then ?_))))))));refine .no V (.exit (.tR 9 V H λb20 G H=>(.mV V ?_)));obtain ⟨x12,q12,h⟩:=bs h;replace H:Has G _ _ (.blk (b8+2) 39 [(.buf id1 x1.length 1),(.buf id2 x1.length 1)] :: .blk (b5+5) 32 [(.v (.int .i8 x3.Inf)),(vi x3.N)] :: .blk id1 43 ids6::(famL 32 2 Bound.cs ids6 y1++[])):=Has.noMat (A:=[.blk (b8+2) 39 [(.buf id1 x1.length 1),(.buf id2 x1.length 1)],.blk (b5+5) 32 [(.v (.int .i8 x3.Inf)),(vi x3.N)]]) (R:=(.blk id1 43 ids6::(famL 32 2 Bound.cs ids6 y1++[]))) hMids10 H;replace H:Has G _ _ [.blk (b8+2) 39 [(.buf id1 x1.length 1),(.buf id2 x1.length 1)],.blk (b5+5) 32 [(.v (.int .i8 x3.Inf)),(vi x3.N)]]:=Has.noMat (A:=[.blk (b8+2) 39 [(.buf id1 x1.length 1),(.buf id2 x1.length 1)],.blk (b5+5) 32 [(.v (.int .i8 x3.Inf)),(vi x3.N)]]) (R:=[]) hMids6 H;refine .Z2A (ys:=[(vl (cL Bound.cs) x1)]) H rfl (Z2V q12) nofun rfl ?_;rintro _ _ G (⟨hq2,id5,ids11,hMids11,hNids11,rfl,rfl⟩|⟨hq2,rfl,rfl⟩) H
    ·replace h:=cond_T hq2 h;replace H:Has G _ _ (.blk (b8+2) 39 [(.buf id1 x1.length 1),(.buf id2 x1.length 1)] :: .blk (b5+5) 32 [(.v (.int .i8 x3.Inf)),(vi x3.N)] :: .blk id5 43 ids11::(famL 32 2 Bound.cs ids11 x12.1++[])):=Has.matIn (M:=.blk id5 43 ids11::famL 32 2 Bound.cs ids11 x12.1) (O:=[.blk (b8+2) 39 [(.buf id1 x1.length 1),(.buf id2 x1.length 1)],.blk (b5+5) 32 [(.v (.int .i8 x3.Inf)),(vi x3.N)]]) (T:=[]) H;refine .m1 (.tup [(.buf id5 x1.length 1),(vb true),(vi x12.2.2)]) V V (.xV V (.xV V (.xV V (.aB V (.aV V (.aV V (.na H λH=>(.then ?_))))))));refine .tR 8 V H λb21 G H=>(.mV V (.mV V (.mB V (.mV V (.nV V (.wt V V ?_))))));obtain ⟨x13,q13,h⟩:=bs h;refine .callTM (c:=Bound.cs) H 2 V V hMids11 hNids11 V V (Zv q13) V V V V nofun V (.tV V (.kT V (.na H λH=>?_)));refine .wh h V ?_ ?_<;>intro h
     ·refine .tR 1 V H λb22 G H=>(.aV V (.na H λH=>(.ret ?_)));obtain rfl:=sj h;exact Ends.eR V
     refine .skip (.then (.Z0d 41 V (by kernel_rfl) H λb23 G H B23=>(.mV V (.iV V (.mV V ?_)))));refine .md H 3 [(79,(vb ((x4.2==0)&&(x5.2.2==0)))),(5,(vl (cL Bound.cs) x1)),(6,(.ptr (b5+5) 2 0)),(10,(vb true)),(14,(.buf id5 x1.length 1)),(15,(vb true)),(16,(vi x12.2.2))] (.blk (b5+5) 32 [(.v (.int .i8 x3.Inf)),(vi x3.N)] :: .blk id5 43 ids11::(famL 32 2 Bound.cs ids11 x12.1++[])) V ?_ λe G H=>?_
     ·refine .split V V ?_ ?_<;>intro hc5
      ·refine .mV V (.iV V (.kT V (.nil ?_)));exact ⟨⟨Z0h hc5,V,V,V,V,V,V,U⟩,(H.erase 0).wk (by omega)⟩
      ·refine .ps 2 V (.kF V (.nil ?_));exact ⟨⟨Z0j hc5,V,V,V,V,V,V,U⟩,(H.erase 0).wk (by omega)⟩
     refine .mV V ?_;refine .md H 3 [(83,(vb (((x4.2==0)&&(x5.2.2==0))&&(x12.2.2==0)))),(5,(vl (cL Bound.cs) x1)),(6,(.ptr (b5+5) 2 0)),(10,(vb true)),(14,(.buf id5 x1.length 1)),(15,(vb true))] (.blk (b5+5) 32 [(.v (.int .i8 x3.Inf)),(vi x3.N)] :: .blk id5 43 ids11::(famL 32 2 Bound.cs ids11 x12.1++[])) V ?_ λe G H=>?_
     ·refine .split V V ?_ ?_<;>intro hc6
      ·refine .mV V (.iV V (.kT V (.nil ?_)));exact ⟨⟨Z0h hc6,V,V,V,V,V,U⟩,H.wk (by omega)⟩
      ·refine .ps 2 V (.kF V (.nil ?_));exact ⟨⟨Z0j hc6,V,V,V,V,V,U⟩,H.wk (by omega)⟩
     refine .mV V ?_;refine .md H 4 [(88,(vb ((((x4.2==0)&&(x5.2.2==0))&&(x12.2.2==0))&&(true==true)))),(5,(vl (cL Bound.cs) x1)),(6,(.ptr (b5+5) 2 0)),(14,(.buf id5 x1.length 1)),(15,(vb true))] (.blk (b5+5) 32 [(.v (.int .i8 x3.Inf)),(vi x3.N)] :: .blk id5 43 ids11::(famL 32 2 Bound.cs ids11 x12.1++[])) V ?_ λe G H=>?_
     ·refine .split V V ?_ ?_<;>intro hc7
      ·refine .mV V (.mV V (.wt V V (.eqB (b:=true) (b':=true) V V V V (.kT V (.nil ?_)))));exact ⟨⟨Z0h hc7,V,V,V,V,U⟩,H.wk (by omega)⟩
      ·refine .ps 3 V (.kF V (.nil ?_));exact ⟨⟨Z0j hc7,V,V,V,V,U⟩,H.wk (by omega)⟩
     refine .mV V ?_;obtain ⟨y5,hj5,h⟩:=bs h;refine .md H 8 [(97,(vb y5)),(14,(.buf id5 x1.length 1)),(15,(vb true))] (.blk id5 43 ids11::(famL 32 2 Bound.cs ids11 x12.1++[])) V ?_ λe G H=>?_
     ·refine .sp hj5 V ?_ ?_<;>intro h
      ·refine .mV V (.wt V V ?_);obtain ⟨x14,q14,h⟩:=bs h;refine .jV q14 V (.pV V (.wt V V ?_));obtain ⟨x15,q15,h⟩:=bs h;refine .jV q15 V (.qV [(.int .i8 x15.Inf),(.int .i64 x15.N)] V (.wt V V (.Z1q (cs:=[(.v (.int .i8 x3.Inf)),(vi x3.N)]) H 0 V V V V V V V (so (B23 1 _ V _ V)) V (.wt V V (.binA (u:=(.agg [(.v (.int .i8 x15.Inf)),(vi x15.N)])) (w:=(.agg [(.v (.int .i8 x3.Inf)),(vi x3.N)])) (r:=.bool ((x15.Inf==x3.Inf)&&((x15.N==x3.N)&&true))) V V (by kernel_rfl) (λ_=>Z1w V V V V) V (.kT V (.nil ?_)))))));obtain rfl:=sj h;exact ⟨EI V,(H.erase 0).wk (by omega)⟩
      refine .ps 7 V (.kF V (.nil ?_));obtain rfl:=sj h;exact ⟨EI V,(H.erase 0).wk (by omega)⟩
     refine .mV V ?_;obtain ⟨y6,hj6,h⟩:=bs h;refine .md H 12 [(110,(vb y6))] (.blk id5 43 ids11::(famL 32 2 Bound.cs ids11 x12.1++[])) V ?_ λe G H=>?_
     ·refine .sp hj6 V ?_ ?_<;>intro h
      ·refine .mV V (.tV V (.mV V (.mB V (.wt V V ?_))));obtain ⟨x16,q16,h⟩:=bs h;obtain ⟨v3,hv5,hr3⟩:=Z0I (rt:=32) (sz:=2) (c:=Bound.cs) hMids11 q16;refine .Zt H 0 V hNids11 V V (at?_nn q16) (hNids11▸Z03 hv5) V V (so (B23 2 _ V _ V)) V ?_;refine .wt V V (.ld v3 H 0 V hNids11 V V hv5 (so (B23 2 _ V _ V)) V (.wt V V ?_));obtain ⟨x17,q17,h⟩:=bs h;refine .Z0K H (1+((0:Int)).toNat) (ZO 1 V hr3) V V (at?_map q17) V V (λ_ id ho=>.inl ⟨B23 (3+((0:Int)).toNat) _ (ZO 3 V hr3) id ho,nofun,(λ_=>by kernel_rfl)⟩) V ?_;intro id6 hv6;refine .wt V V ?_;refine .Z1X (id:=id6) H (1+((0:Int)).toNat) (ZO 1 V hr3) hv6 (by simp) (at?_map q17) V V V V (λ_=>.inl ⟨B23 (3+((0:Int)).toNat) _ (ZO 3 V hr3) _ (by rw [(hv6:(v3:PV)=_)];rfl),nofun,(λ_=>by kernel_rfl)⟩) V ?_;refine .bV [(.v (.int .i8 0)),(vi 77777)] V (.wt V V (.binA (u:=(.agg [(.v (.int .i8 x17.Inf)),(vi x17.N)])) (w:=(.agg [(.v (.int .i8 0)),(vi 77777)])) (r:=.bool (!((x17.Inf==0)&&((x17.N==77777)&&true)))) V V (by kernel_rfl) (λ_=>Z1w V V V V) V (.kF V (.kT V (.nil ?_)))));obtain rfl:=sj h;exact ⟨EI V,H.wk (by omega)⟩
      refine .ps 11 V (.kF V (.nil ?_));obtain rfl:=sj h;exact ⟨EI V,H.wk (by omega)⟩
     refine .mV V ?_;refine .md H 2 [(113,(vb (y6&&ZK)))] (.blk id5 43 ids11::(famL 32 2 Bound.cs ids11 x12.1++[])) V ?_ λe G H=>?_
     ·refine .split V V ?_ ?_<;>intro hc10
      ·refine .cV (Z0Y V) V (.kT V (.nil ?_));exact ⟨⟨Z0h hc10,U⟩,H.wk (by omega)⟩
      ·refine .ps 1 V (.kF V (.nil ?_));exact ⟨⟨Z0j hc10,U⟩,H.wk (by omega)⟩
     refine .aV V (.na H λH=>(.ret ?_));obtain rfl:=sj h;exact Ends.eR V
    ·replace h:=cond_F hq2 h;replace H:Has G _ _ [.blk (b8+2) 39 [(.buf id1 x1.length 1),(.buf id2 x1.length 1)],.blk (b5+5) 32 [(.v (.int .i8 x3.Inf)),(vi x3.N)]]:=H;refine .m1 (.tup [.nils,(vb false),(vi x12.2.2)]) V V (.xV V (.xV V (.xV V (.a1 .nils V V (.aV V (.aV V (.na H λH=>(.then ?_))))))));refine .tR 8 V H λb24 G H=>(.mV V (.mV V (.ps 5 V (.kF V (.na H λH=>(.no V (.skip (.then ?_))))))));refine .Z0d 41 V (by kernel_rfl) H λb25 G H B25=>(.mV V (.iV V (.mV V ?_)));refine .md H 3 [(79,(vb ((x4.2==0)&&(x5.2.2==0)))),(5,(vl (cL Bound.cs) x1)),(6,(.ptr (b5+5) 2 0)),(10,(vb true)),(14,.nils),(15,(vb false)),(16,(vi x12.2.2))] [.blk (b5+5) 32 [(.v (.int .i8 x3.Inf)),(vi x3.N)]] V ?_ λe G H=>?_
     ·refine .split V V ?_ ?_<;>intro hc11
      ·refine .mV V (.iV V (.kT V (.nil ?_)));exact ⟨⟨Z0h hc11,V,V,V,V,V,V,U⟩,(H.erase 0).wk (by omega)⟩
      ·refine .ps 2 V (.kF V (.nil ?_));exact ⟨⟨Z0j hc11,V,V,V,V,V,V,U⟩,(H.erase 0).wk (by omega)⟩
     refine .mV V ?_;refine .md H 3 [(83,(vb (((x4.2==0)&&(x5.2.2==0))&&(x12.2.2==0)))),(5,(vl (cL Bound.cs) x1)),(6,(.ptr (b5+5) 2 0)),(10,(vb true)),(14,.nils),(15,(vb false))] [.blk (b5+5) 32 [(.v (.int .i8 x3.Inf)),(vi x3.N)]] V ?_ λe G H=>?_
     ·refine .split V V ?_ ?_<;>intro hc12
      ·refine .mV V (.iV V (.kT V (.nil ?_)));exact ⟨⟨Z0h hc12,V,V,V,V,V,U⟩,H.wk (by omega)⟩
      ·refine .ps 2 V (.kF V (.nil ?_));exact ⟨⟨Z0j hc12,V,V,V,V,V,U⟩,H.wk (by omega)⟩
     refine .mV V ?_;refine .md H 4 [(88,(vb ((((x4.2==0)&&(x5.2.2==0))&&(x12.2.2==0))&&(true==false)))),(5,(vl (cL Bound.cs) x1)),(6,(.ptr (b5+5) 2 0)),(14,.nils),(15,(vb false))] [.blk (b5+5) 32 [(.v (.int .i8 x3.Inf)),(vi x3.N)]] V ?_ λe G H=>?_
     ·refine .split V V ?_ ?_<;>intro hc13
      ·refine .mV V (.mV V (.wt V V (.eqB (b:=true) (b':=false) V V V V (.kT V (.nil ?_)))));exact ⟨⟨Z0h hc13,V,V,V,V,U⟩,H.wk (by omega)⟩
      ·refine .ps 3 V (.kF V (.nil ?_));exact ⟨⟨Z0j hc13,V,V,V,V,U⟩,H.wk (by omega)⟩
     refine .mV V ?_;obtain ⟨y7,hj7,h⟩:=bs h;refine .md H 8 [(97,(vb y7)),(14,.nils),(15,(vb false))] [] V ?_ λe G H=>?_
     ·refine .sp hj7 V ?_ ?_<;>intro h
      ·refine .mV V (.wt V V ?_);obtain ⟨x18,q18,h⟩:=bs h;refine .jV q18 V (.pV V (.wt V V ?_));obtain ⟨x19,q19,h⟩:=bs h;refine .jV q19 V (.qV [(.int .i8 x19.Inf),(.int .i64 x19.N)] V (.wt V V (.Z1q (cs:=[(.v (.int .i8 x3.Inf)),(vi x3.N)]) H 0 V V V V V V V (so (B25 1 _ V _ V)) V (.wt V V (.binA (u:=(.agg [(.v (.int .i8 x19.Inf)),(vi x19.N)])) (w:=(.agg [(.v (.int .i8 x3.Inf)),(vi x3.N)])) (r:=.bool ((x19.Inf==x3.Inf)&&((x19.N==x3.N)&&true))) V V (by kernel_rfl) (λ_=>Z1w V V V V) V (.kT V (.nil ?_)))))));obtain rfl:=sj h;exact ⟨EI V,(H.erase 0).wk (by omega)⟩
      refine .ps 7 V (.kF V (.nil ?_));obtain rfl:=sj h;exact ⟨EI V,(H.erase 0).wk (by omega)⟩
     refine .mV V ?_;refine .md H 12 [(110,(vb (y7&&true)))] [] V ?_ λe G H=>?_
     ·refine .split V V ?_ ?_<;>intro hc15
      ·refine .mV V (.tV V (.mV V (.ps 7 V (.kT V (.kT V (.nil ?_))))));exact ⟨⟨Z0h hc15,U⟩,H.wk (by omega)⟩
      ·refine .ps 11 V (.kF V (.nil ?_));exact ⟨⟨Z0j hc15,U⟩,H.wk (by omega)⟩
     refine .mV V ?_;refine .md H 2 [(113,(vb ((y7&&true)&&ZK)))] [] V ?_ λe G H=>?_
     ·refine .split V V ?_ ?_<;>intro hc16
      ·refine .cV (Z0Y V) V (.kT V (.nil ?_));exact ⟨⟨Z0h hc16,U⟩,H.wk (by omega)⟩
      ·refine .ps 1 V (.kF V (.nil ?_));exact ⟨⟨Z0j hc16,U⟩,H.wk (by omega)⟩
     refine .aV V (.na H λH=>(.ret ?_));obtain rfl:=sj h;exact Ends.eR V
 ·replace h:=cond_F hq1 h;replace H:Has G _ _ (.blk (b5+5) 32 [(.v (.int .i8 x3.Inf)),(vi x3.N)] :: .blk id1 43 ids1::(famL 32 2 Bound.cs ids1 x4.1++[])):=H;refine .m1 (.tup [.nils,(vb false),(vi x5.2.2)]) V V (.xV V (.xV V (.xV V (.a1 .nils V V (.aV V (.aV V (.na H λH=>(.then ?_))))))));refine .tR 5 V H λb26 G H=>(.mB V (.m1 .nils V V (.buildB (m:=2) (cs:=[(.buf id1 x1.length 1),.nils]) H (by omega) (by omega) V V V V V V V V V λG H=>(.lenM H 0 V V V V nofun V (.mV V (.na H λH=>(.inBlock (.again ?_))))))));refine .tR 1 V H λb27 G H=>(.it 0 2 (.bool true) V V V V V (.na H λH=>(.then (.yes V (.skip (.then ?_))))));obtain ⟨y8,hj8,h⟩:=bs h;refine .mono (Q:=λx e G=>∃ (ids12:List PV),ids12.length=y8.length/\ids12.length=x1.length/\x = .normal/\ZA e [(5,(vl (cL Bound.cs) x1)),(6,(.ptr (b5+5) 2 0)),(8,(vi x4.2)),(10,(vb false)),(11,(vi x5.2.2)),(44,(.buf (b26+2) 2 1)),(45,(vi 2)),(46,(vi 0))]/\Hs G (.blk (b26+2) 39 [(.buf id1 x1.length 1),.nils] :: .blk (b5+5) 32 [(.v (.int .i8 x3.Inf)),(vi x3.N)] :: .blk id1 43 ids12::(famL 32 2 Bound.cs ids12 y8++[]))) ?_ ?_
  ·replace h:=hj8;refine .inBlock ?_;obtain ⟨y9,hj9,h⟩:=bs h;refine .mono (Q:=λx e G=>∃ (ids13:List PV),ids13.length=y9.length/\ids13.length=x1.length/\x = .normal/\ZA e [(5,(vl (cL Bound.cs) x1)),(6,(.ptr (b5+5) 2 0)),(8,(vi x4.2)),(10,(vb false)),(11,(vi x5.2.2)),(44,(.buf (b26+2) 2 1)),(45,(vi 2)),(46,(vi 0))]/\Hs G (.blk (b26+2) 39 [(.buf id1 x1.length 1),.nils] :: .blk (b5+5) 32 [(.v (.int .i8 x3.Inf)),(vi x3.N)] :: .blk id1 43 ids13::(famL 32 2 Bound.cs ids13 y9++[]))) ?_ ?_
   ·replace h:=hj9;refine .tR 3 V H λb28 G H=>(.Zt (m:=2) (iv:=0) H 0 V V V V (by decide) (by decide) V V nofun V (.lV H 0 V (.aB V (.na H λH=>(.tR 4 V H λb29 G H=>(.mB V (.mV V (.nV V ?_))))))));obtain ⟨x20,q20,h⟩:=bs h;refine .callTM (c:=Bound.cs) H 2 V V hMids1 hNids1 V V (Zv q20) V V V V nofun V (.na H λH=>?_);refine .wh h V ?_ ?_<;>intro h
    ·refine .ZS 6 V H λb30 G H=>(.mB V ?_);obtain ⟨x21,q21,h⟩:=bs h;obtain ⟨v4,hv7,hr4⟩:=Z0I (rt:=32) (sz:=2) (c:=Bound.cs) hMids1 q21;refine .Zt H 2 V hNids1 V V (at?_nn q21) (hNids1▸Z03 hv7) V V nofun V ?_;refine .ld v4 H 2 V hNids1 V V hv7 nofun V (.bV [(.v (.int .i8 0)),(vi 77777)] V ?_);obtain ⟨x22,q22,h⟩:=bs h;refine .Z0K H (3+((0:Int)).toNat) (ZO 3 V hr4) V V (at?_map q22) V V nofun V ?_;intro id7 hv8;refine .Z1s (id:=id7) (j:=0) (zs:=[(.int .i8 0),(.int .i64 77777)]) (u:=x22) (u':=(Bound.mk 0 77777)) H (3+((0:Int)).toNat) (ZO 3 V hr4) hv8 (by simp) q22 V (by simp) V V V V V V nofun λG H=>?_;have hMs3:ids1.length=(x4.1.set ((0:Int)).toNat (x21.set ((1:Int)).toNat (Bound.mk 0 77777))).length:=hMids1.trans (YQ ..).symm;replace H:Has G _ _ (.blk (b26+2) 39 [(.buf id1 x1.length 1),.nils] :: .blk (b5+5) 32 [(.v (.int .i8 x3.Inf)),(vi x3.N)] :: .blk id1 43 ids1::(famL 32 2 Bound.cs ids1 (x4.1.set ((0:Int)).toNat (x21.set ((1:Int)).toNat (Bound.mk 0 77777)))++[])):=H.famSet (k:=3) rfl hMids1 hv7;refine .na H λH=>?_;obtain rfl:=sj h;exact ⟨ids1,hMs3,hNids1,V,EI V,H⟩
    refine .skip ?_;obtain rfl:=sj h;exact ⟨ids1,hMids1,hNids1,V,EI V,H⟩
   ·rintro x e G ⟨ids14,hMids14,hNids14,rfl,he,H⟩;obtain ⟨e,rfl⟩:=he.ex;obtain rfl:=sj h;exact ⟨ids14,hMids14,hNids14,V,EI V,H⟩
  ·rintro x e G ⟨ids15,hMids15,hNids15,rfl,he,H⟩;obtain ⟨e,rfl⟩:=he.ex;refine .ZS 2 V H λb31 G H=>(.it 0 1 (.int .i64 1) V V V V V (.mV V (.na H λH=>(.again (.tR 1 V H λb32 G H=>(.it 1 2 (.bool true) V V V V V (.na H λH=>(.then ?_))))))));refine .yes V (.skip (.then ?_));refine .jn h .normal (λy10=>[(5,(vl (cL Bound.cs) x1)),(6,(.ptr (b5+5) 2 0)),(8,(vi x4.2)),(10,(vb false)),(11,(vi x5.2.2)),(44,(.buf (b26+2) 2 1)),(45,(vi 2)),(46,(vi 1))]) (λy10=>(.blk (b26+2) 39 [(.buf id1 x1.length 1),.nils] :: .blk (b5+5) 32 [(.v (.int .i8 x3.Inf)),(vi x3.N)] :: .blk id1 43 ids15::(famL 32 2 Bound.cs ids15 y8++[]))) (λy10 h=>?_) λy10 e G H h=>?_
   ·refine .inBlock ?_;refine .jn h .normal (λy11=>[(5,(vl (cL Bound.cs) x1)),(6,(.ptr (b5+5) 2 0)),(8,(vi x4.2)),(10,(vb false)),(11,(vi x5.2.2)),(44,(.buf (b26+2) 2 1)),(45,(vi 2)),(46,(vi 1))]) (λy11=>(.blk (b26+2) 39 [(.buf id1 x1.length 1),.nils] :: .blk (b5+5) 32 [(.v (.int .i8 x3.Inf)),(vi x3.N)] :: .blk id1 43 ids15::(famL 32 2 Bound.cs ids15 y8++[]))) (λy11 h=>?_) λy11 e G H h=>?_
    ·refine .tR 3 V H λb33 G H=>(.Zt (m:=2) (iv:=1) H 0 V V V V (by decide) (by decide) V V nofun V (.lV H 0 V (.a1 .nils V V (.na H λH=>(.tR 4 V H λb34 G H=>(.m1 .nils V V (.mV V (.nV V ?_))))))));obtain ⟨x23,q23,h⟩:=bs h;refine .callT (xs:=[.nils,(vi (x1.length:Int))]) (ys:=[(vl (cL Bound.cs) []),(vi (x1.length:Int))]) H V (.cons (.c (.n)) (.cons (.c (.v _)) .nil)) (Zv q23) V V V V nofun V (.na H λH=>?_);refine .wh h V ?_ ?_<;>intro h
     ·refine .ZS 6 V H λb35 G H=>(.m1 .nils V V ?_);obtain ⟨x24,q24,h⟩:=bs h;exact (at_nil q24).elim
     refine .skip ?_;obtain rfl:=sj h;exact ⟨V,EI V,H⟩
    obtain rfl:=sj h;exact ⟨V,EI V,H⟩
   refine .ZS 2 V H λb36 G H=>(.it 1 1 (.int .i64 2) V V V V V (.mV V (.na H λH=>(.again (.tR 1 V H λb37 G H=>(.it 2 2 (.bool false) V V V V V (.na H λH=>(.then ?_))))))));refine .no V (.exit (.tR 9 V H λb38 G H=>(.mV V ?_)));obtain ⟨x25,q25,h⟩:=bs h;replace H:Has G _ _ [.blk (b26+2) 39 [(.buf id1 x1.length 1),.nils],.blk (b5+5) 32 [(.v (.int .i8 x3.Inf)),(vi x3.N)]]:=Has.noMat (A:=[.blk (b26+2) 39 [(.buf id1 x1.length 1),.nils],.blk (b5+5) 32 [(.v (.int .i8 x3.Inf)),(vi x3.N)]]) (R:=[]) hMids15 H;refine .Z2A (ys:=[(vl (cL Bound.cs) x1)]) H rfl (Z2V q25) nofun rfl ?_;rintro _ _ G (⟨hq3,id8,ids16,hMids16,hNids16,rfl,rfl⟩|⟨hq3,rfl,rfl⟩) H
   ·replace h:=cond_T hq3 h;replace H:Has G _ _ (.blk (b26+2) 39 [(.buf id1 x1.length 1),.nils] :: .blk (b5+5) 32 [(.v (.int .i8 x3.Inf)),(vi x3.N)] :: .blk id8 43 ids16::(famL 32 2 Bound.cs ids16 x25.1++[])):=Has.matIn (M:=.blk id8 43 ids16::famL 32 2 Bound.cs ids16 x25.1) (O:=[.blk (b26+2) 39 [(.buf id1 x1.length 1),.nils],.blk (b5+5) 32 [(.v (.int .i8 x3.Inf)),(vi x3.N)]]) (T:=[]) H;refine .m1 (.tup [(.buf id8 x1.length 1),(vb true),(vi x25.2.2)]) V V (.xV V (.xV V (.xV V (.aB V (.aV V (.aV V (.na H λH=>(.then ?_))))))));refine .tR 8 V H λb39 G H=>(.mV V (.mV V (.mB V (.mV V (.nV V (.wt V V ?_))))));obtain ⟨x26,q26,h⟩:=bs h;refine .callTM (c:=Bound.cs) H 2 V V hMids16 hNids16 V V (Zv q26) V V V V nofun V (.tV V (.kT V (.na H λH=>?_)));refine .wh h V ?_ ?_<;>intro h
    ·refine .tR 1 V H λb40 G H=>(.aV V (.na H λH=>(.ret ?_)));obtain rfl:=sj h;exact Ends.eR V
    refine .skip (.then (.Z0d 41 V (by kernel_rfl) H λb41 G H B41=>(.mV V (.iV V (.mV V ?_)))));refine .md H 3 [(79,(vb ((x4.2==0)&&(x5.2.2==0)))),(5,(vl (cL Bound.cs) x1)),(6,(.ptr (b5+5) 2 0)),(10,(vb false)),(14,(.buf id8 x1.length 1)),(15,(vb true)),(16,(vi x25.2.2))] (.blk (b5+5) 32 [(.v (.int .i8 x3.Inf)),(vi x3.N)] :: .blk id8 43 ids16::(famL 32 2 Bound.cs ids16 x25.1++[])) V ?_ λe G H=>?_
    ·refine .split V V ?_ ?_<;>intro hc20
     ·refine .mV V (.iV V (.kT V (.nil ?_)));exact ⟨⟨Z0h hc20,V,V,V,V,V,V,U⟩,(H.erase 0).wk (by omega)⟩
     ·refine .ps 2 V (.kF V (.nil ?_));exact ⟨⟨Z0j hc20,V,V,V,V,V,V,U⟩,(H.erase 0).wk (by omega)⟩
    refine .mV V ?_;refine .md H 3 [(83,(vb (((x4.2==0)&&(x5.2.2==0))&&(x25.2.2==0)))),(5,(vl (cL Bound.cs) x1)),(6,(.ptr (b5+5) 2 0)),(10,(vb false)),(14,(.buf id8 x1.length 1)),(15,(vb true))] (.blk (b5+5) 32 [(.v (.int .i8 x3.Inf)),(vi x3.N)] :: .blk id8 43 ids16::(famL 32 2 Bound.cs ids16 x25.1++[])) V ?_ λe G H=>?_
    ·refine .split V V ?_ ?_<;>intro hc21
     ·refine .mV V (.iV V (.kT V (.nil ?_)));exact ⟨⟨Z0h hc21,V,V,V,V,V,U⟩,H.wk (by omega)⟩
     ·refine .ps 2 V (.kF V (.nil ?_));exact ⟨⟨Z0j hc21,V,V,V,V,V,U⟩,H.wk (by omega)⟩
    refine .mV V ?_;refine .md H 4 [(88,(vb ((((x4.2==0)&&(x5.2.2==0))&&(x25.2.2==0))&&(false==true)))),(5,(vl (cL Bound.cs) x1)),(6,(.ptr (b5+5) 2 0)),(14,(.buf id8 x1.length 1)),(15,(vb true))] (.blk (b5+5) 32 [(.v (.int .i8 x3.Inf)),(vi x3.N)] :: .blk id8 43 ids16::(famL 32 2 Bound.cs ids16 x25.1++[])) V ?_ λe G H=>?_
    ·refine .split V V ?_ ?_<;>intro hc22
     ·refine .mV V (.mV V (.wt V V (.eqB (b:=false) (b':=true) V V V V (.kT V (.nil ?_)))));exact ⟨⟨Z0h hc22,V,V,V,V,U⟩,H.wk (by omega)⟩
     ·refine .ps 3 V (.kF V (.nil ?_));exact ⟨⟨Z0j hc22,V,V,V,V,U⟩,H.wk (by omega)⟩
    refine .mV V ?_;obtain ⟨y12,hj12,h⟩:=bs h;refine .md H 8 [(97,(vb y12)),(14,(.buf id8 x1.length 1)),(15,(vb true))] (.blk id8 43 ids16::(famL 32 2 Bound.cs ids16 x25.1++[])) V ?_ λe G H=>?_
    ·refine .sp hj12 V ?_ ?_<;>intro h
     ·refine .mV V (.wt V V ?_);obtain ⟨x27,q27,h⟩:=bs h;refine .jV q27 V (.pV V (.wt V V ?_));obtain ⟨x28,q28,h⟩:=bs h;refine .jV q28 V (.qV [(.int .i8 x28.Inf),(.int .i64 x28.N)] V (.wt V V (.Z1q (cs:=[(.v (.int .i8 x3.Inf)),(vi x3.N)]) H 0 V V V V V V V (so (B41 1 _ V _ V)) V (.wt V V (.binA (u:=(.agg [(.v (.int .i8 x28.Inf)),(vi x28.N)])) (w:=(.agg [(.v (.int .i8 x3.Inf)),(vi x3.N)])) (r:=.bool ((x28.Inf==x3.Inf)&&((x28.N==x3.N)&&true))) V V (by kernel_rfl) (λ_=>Z1w V V V V) V (.kT V (.nil ?_)))))));obtain rfl:=sj h;exact ⟨EI V,(H.erase 0).wk (by omega)⟩
     refine .ps 7 V (.kF V (.nil ?_));obtain rfl:=sj h;exact ⟨EI V,(H.erase 0).wk (by omega)⟩
    refine .mV V ?_;obtain ⟨y13,hj13,h⟩:=bs h;refine .md H 12 [(110,(vb y13))] (.blk id8 43 ids16::(famL 32 2 Bound.cs ids16 x25.1++[])) V ?_ λe G H=>?_
    ·refine .sp hj13 V ?_ ?_<;>intro h
     ·refine .mV V (.tV V (.mV V (.mB V (.wt V V ?_))));obtain ⟨x29,q29,h⟩:=bs h;obtain ⟨v5,hv9,hr5⟩:=Z0I (rt:=32) (sz:=2) (c:=Bound.cs) hMids16 q29;refine .Zt H 0 V hNids16 V V (at?_nn q29) (hNids16▸Z03 hv9) V V (so (B41 2 _ V _ V)) V ?_;refine .wt V V (.ld v5 H 0 V hNids16 V V hv9 (so (B41 2 _ V _ V)) V (.wt V V ?_));obtain ⟨x30,q30,h⟩:=bs h;refine .Z0K H (1+((0:Int)).toNat) (ZO 1 V hr5) V V (at?_map q30) V V (λ_ id ho=>.inl ⟨B41 (3+((0:Int)).toNat) _ (ZO 3 V hr5) id ho,nofun,(λ_=>by kernel_rfl)⟩) V ?_;intro id9 hv10;refine .wt V V ?_;refine .Z1X (id:=id9) H (1+((0:Int)).toNat) (ZO 1 V hr5) hv10 (by simp) (at?_map q30) V V V V (λ_=>.inl ⟨B41 (3+((0:Int)).toNat) _ (ZO 3 V hr5) _ (by rw [(hv10:(v5:PV)=_)];rfl),nofun,(λ_=>by kernel_rfl)⟩) V ?_;refine .bV [(.v (.int .i8 0)),(vi 77777)] V (.wt V V (.binA (u:=(.agg [(.v (.int .i8 x30.Inf)),(vi x30.N)])) (w:=(.agg [(.v (.int .i8 0)),(vi 77777)])) (r:=.bool (!((x30.Inf==0)&&((x30.N==77777)&&true)))) V V (by kernel_rfl) (λ_=>Z1w V V V V) V (.kF V (.kT V (.nil ?_)))));obtain rfl:=sj h;exact ⟨EI V,H.wk (by omega)⟩
     refine .ps 11 V (.kF V (.nil ?_));obtain rfl:=sj h;exact ⟨EI V,H.wk (by omega)⟩
    refine .mV V ?_;refine .md H 2 [(113,(vb (y13&&ZK)))] (.blk id8 43 ids16::(famL 32 2 Bound.cs ids16 x25.1++[])) V ?_ λe G H=>?_
    ·refine .split V V ?_ ?_<;>intro hc25
     ·refine .cV (Z0Y V) V (.kT V (.nil ?_));exact ⟨⟨Z0h hc25,U⟩,H.wk (by omega)⟩
     ·refine .ps 1 V (.kF V (.nil ?_));exact ⟨⟨Z0j hc25,U⟩,H.wk (by omega)⟩
    refine .aV V (.na H λH=>(.ret ?_));obtain rfl:=sj h;exact Ends.eR V
   ·replace h:=cond_F hq3 h;replace H:Has G _ _ [.blk (b26+2) 39 [(.buf id1 x1.length 1),.nils],.blk (b5+5) 32 [(.v (.int .i8 x3.Inf)),(vi x3.N)]]:=H;refine .m1 (.tup [.nils,(vb false),(vi x25.2.2)]) V V (.xV V (.xV V (.xV V (.a1 .nils V V (.aV V (.aV V (.na H λH=>(.then ?_))))))));refine .tR 8 V H λb42 G H=>(.mV V (.mV V (.ps 5 V (.kF V (.na H λH=>(.no V (.skip (.then ?_))))))));refine .Z0d 41 V (by kernel_rfl) H λb43 G H B43=>(.mV V (.iV V (.mV V ?_)));refine .md H 3 [(79,(vb ((x4.2==0)&&(x5.2.2==0)))),(5,(vl (cL Bound.cs) x1)),(6,(.ptr (b5+5) 2 0)),(10,(vb false)),(14,.nils),(15,(vb false)),(16,(vi x25.2.2))] [.blk (b5+5) 32 [(.v (.int .i8 x3.Inf)),(vi x3.N)]] V ?_ λe G H=>?_
    ·refine .split V V ?_ ?_<;>intro hc26
     ·refine .mV V (.iV V (.kT V (.nil ?_)));exact ⟨⟨Z0h hc26,V,V,V,V,V,V,U⟩,(H.erase 0).wk (by omega)⟩
     ·refine .ps 2 V (.kF V (.nil ?_));exact ⟨⟨Z0j hc26,V,V,V,V,V,V,U⟩,(H.erase 0).wk (by omega)⟩
    refine .mV V ?_;refine .md H 3 [(83,(vb (((x4.2==0)&&(x5.2.2==0))&&(x25.2.2==0)))),(5,(vl (cL Bound.cs) x1)),(6,(.ptr (b5+5) 2 0)),(10,(vb false)),(14,.nils),(15,(vb false))] [.blk (b5+5) 32 [(.v (.int .i8 x3.Inf)),(vi x3.N)]] V ?_ λe G H=>?_
    ·refine .split V V ?_ ?_<;>intro hc27
     ·refine .mV V (.iV V (.kT V (.nil ?_)));exact ⟨⟨Z0h hc27,V,V,V,V,V,U⟩,H.wk (by omega)⟩
     ·refine .ps 2 V (.kF V (.nil ?_));exact ⟨⟨Z0j hc27,V,V,V,V,V,U⟩,H.wk (by omega)⟩
    refine .mV V ?_;refine .md H 4 [(88,(vb ((((x4.2==0)&&(x5.2.2==0))&&(x25.2.2==0))&&(false==false)))),(5,(vl (cL Bound.cs) x1)),(6,(.ptr (b5+5) 2 0)),(14,.nils),(15,(vb false))] [.blk (b5+5) 32 [(.v (.int .i8 x3.Inf)),(vi x3.N)]] V ?_ λe G H=>?_
    ·refine .split V V ?_ ?_<;>intro hc28
     ·refine .mV V (.mV V (.wt V V (.eqB (b:=false) (b':=false) V V V V (.kT V (.nil ?_)))));exact ⟨⟨Z0h hc28,V,V,V,V,U⟩,H.wk (by omega)⟩
     ·refine .ps 3 V (.kF V (.nil ?_));exact ⟨⟨Z0j hc28,V,V,V,V,U⟩,H.wk (by omega)⟩
    refine .mV V ?_;obtain ⟨y14,hj14,h⟩:=bs h;refine .md H 8 [(97,(vb y14)),(14,.nils),(15,(vb false))] [] V ?_ λe G H=>?_
    ·refine .sp hj14 V ?_ ?_<;>intro h
     ·refine .mV V (.wt V V ?_);obtain ⟨x31,q31,h⟩:=bs h;refine .jV q31 V (.pV V (.wt V V ?_));obtain ⟨x32,q32,h⟩:=bs h;refine .jV q32 V (.qV [(.int .i8 x32.Inf),(.int .i64 x32.N)] V (.wt V V (.Z1q (cs:=[(.v (.int .i8 x3.Inf)),(vi x3.N)]) H 0 V V V V V V V (so (B43 1 _ V _ V)) V (.wt V V (.binA (u:=(.agg [(.v (.int .i8 x32.Inf)),(vi x32.N)])) (w:=(.agg [(.v (.int .i8 x3.Inf)),(vi x3.N)])) (r:=.bool ((x32.Inf==x3.Inf)&&((x32.N==x3.N)&&true))) V V (by kernel_rfl) (λ_=>Z1w V V V V) V (.kT V (.nil ?_)))))));obtain rfl:=sj h;exact ⟨EI V,(H.erase 0).wk (by omega)⟩
     refine .ps 7 V (.kF V (.nil ?_));obtain rfl:=sj h;exact ⟨EI V,(H.erase 0).wk (by omega)⟩
    refine .mV V ?_;refine .md H 12 [(110,(vb (y14&&true)))] [] V ?_ λe G H=>?_
    ·refine .split V V ?_ ?_<;>intro hc30
     ·refine .mV V (.tV V (.mV V (.ps 7 V (.kT V (.kT V (.nil ?_))))));exact ⟨⟨Z0h hc30,U⟩,H.wk (by omega)⟩
     ·refine .ps 11 V (.kF V (.nil ?_));exact ⟨⟨Z0j hc30,U⟩,H.wk (by omega)⟩
    refine .mV V ?_;refine .md H 2 [(113,(vb ((y14&&true)&&ZK)))] [] V ?_ λe G H=>?_
    ·refine .split V V ?_ ?_<;>intro hc31
     ·refine .cV (Z0Y V) V (.kT V (.nil ?_));exact ⟨⟨Z0h hc31,U⟩,H.wk (by omega)⟩
     ·refine .ps 1 V (.kF V (.nil ?_));exact ⟨⟨Z0j hc31,U⟩,H.wk (by omega)⟩
    refine .aV V (.na H λH=>(.ret ?_));obtain rfl:=sj h;exact Ends.eR V
end Go.Dn

namespace Go.Dn
open Go
theorem Z2x {S R:Type} {step:S->Option (S⊕R)} (I:S->Prop) (m:S->Nat) (post:R->Prop)
  (h:∀ s,I s->(∃ s',step s=some (.inl s')/\I s'/\m s'<m s)\/(∃ r,step s=some (.inr r)/\post r)):∀ s,I s->∃ r,loopO step s=some r/\post r:=by
 have key:∀ n s,m s=n->I s->∃ r,loopO step s=some r/\post r:=by
  intro n
  induction n using Nat.strongRecOn with
  | _ n ih=>
   intro s hm hI;rcases h s hI with ⟨s',h1,h2,h3⟩|⟨r,h1,h2⟩
   ·obtain ⟨r,q1,q2⟩:=ih (m s') (by omega) s' rfl h2
    exact ⟨r,by rw [loopO_eq,h1];exact q1,q2⟩
   ·exact ⟨r,by rw [loopO_eq,h1],h2⟩
 exact λs hI=>key _ s rfl hI
theorem Z15 {S R:Type} {step:S->Option (S⊕R)} (I:S->R->Prop) (m:S->Nat)
  (h:∀ s r,I s r->(∃ s',step s=some (.inl s')/\I s' r/\m s'<m s)\/step s=some (.inr r)) {s:S} {r:R} (hI:I s r):loopO step s=some r:=by
 obtain ⟨r',h1,h2⟩:=Z2x (I:=λs=>I s r) m (λr'=>r'=r) (λs hs=>by
  rcases h s r hs with ⟨s',h1,h2,h3⟩|h1
  ·exact .inl ⟨s',h1,h2,h3⟩
  ·exact .inr ⟨r,h1,rfl⟩) s hI
 rw [h1,h2]
theorem wrap_i64 (a:Int):IntKind.i64.wrap a=(a+9223372036854775808) % 18446744073709551616-9223372036854775808:=by
 simp [IntKind.wrap,IntKind.bits,IntKind.signed]
 split<;>omega
theorem Z4k (a:Int):IntKind.u64.wrap a=a % 18446744073709551616:=by
 simp [IntKind.wrap,IntKind.bits,IntKind.signed]
theorem okI_u8 {x:Int}:okI .u8 x↔0<=x/\x<=255:=Iff.rfl
theorem Z0L {x:Int} (h : -9223372036854775808<=x/\x<=9223372036854775807):w64 x=x:=by
 unfold w64;rw [wrap_i64];omega
theorem room_eq:room=140737488355328:=rfl
theorem at?_lt {α:Type} {l:List α} {i:Int} (h0:0<=i) (h:i<l.length):at? l i=some (l[i.toNat]'(by omega)):=by
 unfold at?;rw [if_pos h0,Y7]
theorem at?_nat {α:Type} {l:List α} {k:Nat} (h:k<l.length):at? l (k:Int)=some l[k]:=by
 rw [at?_lt (by omega) (by omega)];rfl
theorem app?_ok {α:Type} {b:Nat} {l m:List α} (h:(l.length+m.length)*b<=room):app? b l m=some (l++m):=if_pos h
theorem nz?_ok {b:Int} (h:b≠0):nz? b=some ():=if_neg h
theorem beq_t {a b:Int} (h:a=b):(a==b)=true:=by simp [h]
theorem beq_f {a b:Int} (h:a≠b):(a==b)=false:=by simp [h]
theorem bne_t {a b:Int} (h:a≠b):(a != b)=true:=by simp [h]
theorem bne_f {a b:Int} (h:a=b):(a != b)=false:=by simp [h]
theorem Z1y {p:Prop} [Decidable p] (h:p):decide p=true:=by simp [h]
theorem Z0x {p:Prop} [Decidable p] (h:¬ p):decide p=false:=by simp [h]
theorem first_bad {α:Type} {l:List α} {good:Nat->α->Prop} (h:¬ ∀ k x,l[k]? = some x->good k x):∃ (k:Nat) (x:α),l[k]? = some x/\¬ good k x/\∀ j y,j<k->l[j]? = some y->good j y:=by
 have hex:∃ k:Nat,∃ x,l[k]? = some x/\¬ good k x:=by
  apply Classical.byContradiction;intro hn;exact h λk x hk=>Classical.byContradiction λhg=>hn ⟨k,x,hk,hg⟩
 obtain ⟨k,hk⟩:=hex
 induction k using Nat.strongRecOn with
 | _ k ih=>
  by_cases h:∃ j,j<k/\∃ x,l[j]? = some x/\¬ good j x
  ·obtain ⟨j,hj,hx⟩:=h;exact ih j hj hx
  ·obtain ⟨x,hx,hb⟩:=hk;exact ⟨k,x,hx,hb,λj y hj hy=>Classical.byContradiction λhg=>h ⟨j,hj,y,hy,hg⟩⟩
theorem all_loop {α R:Type} {l:List α} {step:Int->Option (Int⊕R)} (good:Nat->α->Prop) {no yes:R}
  (hstep:∀ (k:Nat) (x:α),l[k]? = some x->(∀ j y,j<k->l[j]? = some y->good j y)->(step (k:Int)=some (.inl ((k:Int)+1))/\good k x)\/(step (k:Int)=some (.inr no)/\¬ good k x))
  (hend:step (l.length:Int)=some (.inr yes)):(loopO step 0=some yes/\∀ k x,l[k]? = some x->good k x)\/(loopO step 0=some no/\¬ ∀ k x,l[k]? = some x->good k x):=by
 by_cases hall:∀ k x,l[k]? = some x->good k x
 ·refine .inl ⟨?_,hall⟩;refine Z15 (I:=λ(s:Int) r=>r=yes/\∃ k:Nat,s=k/\k<=l.length) (λs=>(l.length-s.toNat)) ?_ ⟨rfl,0,rfl,Ym _⟩;rintro s r ⟨rfl,k,rfl,hk⟩
  by_cases hlt:k<l.length
  ·rcases hstep k l[k] (Y7 hlt) (λj y _ hy=>hall j y hy) with ⟨h1,_⟩|⟨_,h2⟩
   ·exact .inl ⟨_,h1,⟨rfl,k+1,by push_cast;rfl,hlt⟩,by simp;omega⟩
   ·exact absurd (hall k _ (Y7 hlt)) h2
  ·have:k=l.length:=by omega
   subst this;exact .inr hend
 ·refine .inr ⟨?_,hall⟩;obtain ⟨k0,x0,hx0,hb0,hgood⟩:=first_bad hall;have hlt0:=(List.getElem?_eq_some_iff.1 hx0).1;refine Z15 (I:=λ(s:Int) r=>r=no/\∃ k:Nat,s=k/\k<=k0) (λs=>(l.length-s.toNat)) ?_ ⟨rfl,0,rfl,Ym _⟩;rintro s r ⟨rfl,k,rfl,hk⟩
  by_cases hlt:k<k0
  ·have hkl:k<l.length:=by omega
   rcases hstep k l[k] (Y7 hkl) (λj y hj hy=>hgood j y (by omega) hy) with ⟨h1,_⟩|⟨_,h2⟩
   ·exact .inl ⟨_,h1,⟨rfl,k+1,by push_cast;rfl,hlt⟩,by simp;omega⟩
   ·exact absurd (hgood k _ hlt (Y7 hkl)) h2
  ·have:k=k0:=by omega
   subst this;rcases hstep k x0 hx0 hgood with ⟨_,h2⟩|⟨h1,_⟩
   ·exact absurd h2 hb0
   ·exact .inr h1
end Go.Dn

namespace Go.Dn
open Go
def In64 (a:Int):Prop:=-9223372036854775808<=a/\a<=9223372036854775807
def InU64 (a:Int):Prop:=0<=a/\a<=18446744073709551615
def fitS (a:Int):Int×Int:=if -9223372036854775808<=a/\a<=9223372036854775807 then (a,0) else (0,10)
theorem fitS_of {a:Int} (h:In64 a):fitS a=(a,0):=if_pos h
theorem and32 (x:Int) (h:InU64 x):(((BitVec.ofInt 64 x &&& BitVec.ofInt 64 4294967295).toNat:Nat):Int)=x % 4294967296:=by
 obtain ⟨n,rfl⟩:=Int.eq_ofNat_of_zero_le h.1
 have hn:n<2 ^ 64:=by have:=h.2;omega
 have h1:(BitVec.ofInt 64 (n:Int)).toNat=n:=by simp [BitVec.toNat_ofInt];omega
 have h2:(BitVec.ofInt 64 4294967295).toNat=2 ^ 32-1:=by decide
 rw [BitVec.toNat_and,h1,h2,Nat.and_two_pow_sub_one_eq_mod]
 omega
theorem mul64_fact {x y:Int} (hx:InU64 x) (hy:InU64 y) :
  (x / 4294967296*(y / 4294967296)+(x / 4294967296*(y % 4294967296)+x % 4294967296*(y % 4294967296) / 4294967296) / 4294967296 +
   ((x / 4294967296*(y % 4294967296)+x % 4294967296*(y % 4294967296) / 4294967296) % 4294967296+x % 4294967296*(y / 4294967296)) / 4294967296)=x*y / 18446744073709551616 /\
  0<=x % 4294967296*(y % 4294967296)/\x % 4294967296*(y % 4294967296)<=18446744065119617025 /\
  0<=x / 4294967296*(y % 4294967296)/\x / 4294967296*(y % 4294967296)<=18446744065119617025 /\
  0<=x % 4294967296*(y / 4294967296)/\x % 4294967296*(y / 4294967296)<=18446744065119617025 /\
  0<=x / 4294967296*(y / 4294967296)/\x / 4294967296*(y / 4294967296)<=18446744065119617025:=by
 have b:∀ {u v:Int},0<=u->u<=4294967295->0<=v->v<=4294967295->0<=u*v/\u*v<=18446744065119617025:=by
  intro u v h1 h2 h3 h4;exact ⟨Int.mul_nonneg h1 h3,Int.le_trans (Int.mul_le_mul h2 h4 h3 (by omega)) (by decide)⟩
 obtain ⟨hx1,hx2⟩:=hx
 obtain ⟨hy1,hy2⟩:=hy
 obtain ⟨a1,a2⟩:=b (u:=x % 4294967296) (v:=y % 4294967296) (by omega) (by omega) (by omega) (by omega)
 obtain ⟨b1,b2⟩:=b (u:=x / 4294967296) (v:=y % 4294967296) (by omega) (by omega) (by omega) (by omega)
 obtain ⟨c1,c2⟩:=b (u:=x % 4294967296) (v:=y / 4294967296) (by omega) (by omega) (by omega) (by omega)
 obtain ⟨d1,d2⟩:=b (u:=x / 4294967296) (v:=y / 4294967296) (by omega) (by omega) (by omega) (by omega)
 refine ⟨?_,a1,a2,b1,b2,c1,c2,d1,d2⟩
 have e:x*y=x / 4294967296*(y / 4294967296)*18446744073709551616+(x / 4294967296*(y % 4294967296)+x % 4294967296*(y / 4294967296))*4294967296+x % 4294967296*(y % 4294967296):=by
  have ex:x=x / 4294967296*4294967296+x % 4294967296:=by omega
  have ey:y=y / 4294967296*4294967296+y % 4294967296:=by omega
  clear a1 a2 b1 b2 c1 c2 d1 d2 b hx1 hx2 hy1 hy2
  generalize x / 4294967296=x1 at *
  generalize x % 4294967296=x0 at *
  generalize y / 4294967296=y1 at *
  generalize y % 4294967296=y0 at *
  subst ex ey;simp only [Int.add_mul,Int.mul_add];have h1:x1*4294967296*(y1*4294967296)=x1*y1*18446744073709551616:=by
   rw [Y0F,Int.mul_comm 4294967296,Y0F y1,<- Y0F]
   rfl
  have h2:x1*4294967296*y0=x1*y0*4294967296:=by rw [Y0F,Int.mul_comm 4294967296,<- Y0F]
  have h3:x0*(y1*4294967296)=x0*y1*4294967296:=by rw [<- Y0F]
  rw [h1,h2,h3];omega
 rw [e]
 generalize x / 4294967296*(y / 4294967296)=d at *
 generalize x / 4294967296*(y % 4294967296)=b' at *
 generalize x % 4294967296*(y / 4294967296)=c at *
 generalize x % 4294967296*(y % 4294967296)=a at *
 omega
theorem safe_Add_eq {a b:Int} (ha:In64 a) (hb:In64 b):Z0O a b=fitS (a+b):=by
 unfold In64 at ha hb
 unfold Z0O fitS w64
 rw [wrap_i64]
 cases h:((decide ((a+b+9223372036854775808) % 18446744073709551616-9223372036854775808>a) != decide (b>0))&&b != 0)
 ·rw [cond_false];simp only [Bool.and_eq_false_iff,bne_eq_false_iff_eq,decide_eq_decide] at h
  split<;>simp only [Y2,and_true]<;>omega
 ·rw [cond_true];simp only [Y8,bne_iff_ne,ne_eq,decide_eq_decide] at h
  split<;>simp only [Y2]<;>omega
theorem mul64_eq {x y:Int} (hx:InU64 x) (hy:InU64 y):Z08 x y=(x*y / 18446744073709551616,x*y % 18446744073709551616):=by
 unfold Z08
 have hb:∀ z:Int,z.fdiv (2 ^ 32)=z / 4294967296:=λz=>Int.fdiv_eq_ediv_of_nonneg z (by decide)
 have hm:(IntKind.u64.bits)=64:=rfl
 obtain ⟨h1,h2,h3,h4,h5,h6,h7,h8,h9⟩:=mul64_fact hx hy
 have hw:∀ z:Int,0<=z->z<=18446744073709551615->IntKind.u64.wrap z=z:=λz q1 q2=>by rw [Z4k];omega
 simp only [hb,iAnd]
 rw [hm,and32 x hx,and32 y hy]
 have x0:0<=x % 4294967296/\x % 4294967296<4294967296:=by omega
 have y0:0<=y % 4294967296/\y % 4294967296<4294967296:=by omega
 rw [hw (x % 4294967296) (by omega) (by omega),hw (y % 4294967296) (by omega) (by omega),hw _ h2 (by omega),hw _ h4 (by omega),hw _ h6 (by omega),hw _ h8 (by omega)]
 rw [hw (x / 4294967296*(y % 4294967296)+x % 4294967296*(y % 4294967296) / 4294967296) (by omega) (by omega)]
 rw [and32 _ ⟨by omega,by omega⟩]
 have t0:0<=(x / 4294967296*(y % 4294967296)+x % 4294967296*(y % 4294967296) / 4294967296) % 4294967296/\(x / 4294967296*(y % 4294967296)+x % 4294967296*(y % 4294967296) / 4294967296) % 4294967296<4294967296:=by omega
 rw [hw ((x / 4294967296*(y % 4294967296)+x % 4294967296*(y % 4294967296) / 4294967296) % 4294967296) (by omega) (by omega)]
 rw [hw ((x / 4294967296*(y % 4294967296)+x % 4294967296*(y % 4294967296) / 4294967296) % 4294967296+x % 4294967296*(y / 4294967296)) (by omega) (by omega)]
 rw [hw (x / 4294967296*(y / 4294967296)+(x / 4294967296*(y % 4294967296)+x % 4294967296*(y % 4294967296) / 4294967296) / 4294967296) (by omega) (by omega)]
 rw [hw _ (by omega) (by omega),h1,Z4k]
def floorS (a b:Int):Int×Int×Int:=if b=0 then (0,0,11) else if b = -1/\a = -9223372036854775808 then (0,0,10) else (a.fdiv b,a.fmod b,0)
end Go.Dn

namespace Go.Dn
open Go
def bd:Option Int->Bound
 | none=>⟨1,0⟩
 | some k=>⟨0,k⟩
def ole (a b:Option Int):Prop:=match b with
 | none=>True
 | some k=>match a with
  | none=>False
  | some l=>l<=k
def oadd (a b:Option Int):Option Int:=match a,b with
 | some x,some y=>some (x+y)
 | _,_=>none
def omin (a b:Option Int):Option Int:=match a,b with
 | none,b=>b
 | a,none=>a
 | some x,some y=>some (if x<y then x else y)
def olt (a b:Option Int):Bool:=match a,b with
 | none,_=>false
 | some _,none=>true
 | some x,some y=>decide (x<y)
def inB (B:Int) (a:Option Int):Prop:=match a with
 | none=>True
 | some x=>-B<=x/\x<=B
theorem Z1T (a:Option Int):ole a a:=by cases a<;>simp [ole]
theorem ole_none (a:Option Int):ole a none:=trivial
theorem Z1r {a b c:Option Int} (h1:ole a b) (h2:ole b c):ole a c:=by
 cases a<;>cases b<;>cases c<;>simp [ole] at *<;>omega
theorem Z42 {a b c d:Option Int} (h1:ole a c) (h2:ole b d):ole (oadd a b) (oadd c d):=by
 cases a<;>cases b<;>cases c<;>cases d<;>simp [ole,oadd] at *<;>omega
theorem ole_min {a b c:Option Int} (h1:ole c a) (h2:ole c b):ole c (omin a b):=by
 cases a<;>cases b<;>cases c<;>simp [ole,omin] at *<;>(try split)<;>omega
theorem omin_l (a b:Option Int):ole (omin a b) a:=by
 cases a<;>cases b<;>simp [ole,omin]<;>(try split)<;>omega
theorem omin_r (a b:Option Int):ole (omin a b) b:=by
 cases a<;>cases b<;>simp [ole,omin]<;>(try split)<;>omega
theorem omin_or (a b:Option Int):omin a b=a\/omin a b=b:=by
 cases a<;>cases b<;>simp [omin]<;>omega
theorem Z5J (a b:Option Int):omin a b=if olt a b=true then a else b:=by
 cases a<;>cases b<;>simp [omin,olt]
 split<;>rfl
theorem omin_self {a b:Option Int} (h:ole a b):omin a b=a:=by
 cases a<;>cases b<;>simp [omin,ole] at *<;>omega
theorem oadd_zero (a:Option Int):oadd a (some 0)=a:=by cases a<;>simp [oadd]
theorem zero_oadd (a:Option Int):oadd (some 0) a=a:=by cases a<;>simp [oadd]
theorem Z3P (a b c:Option Int):oadd (oadd a b) c=oadd a (oadd b c):=by
 cases a<;>cases b<;>cases c<;>simp [oadd,Int.add_assoc]
theorem inB_add {B:Int} {a b:Option Int} (h1:inB B a) (h2:inB B b):inB (2*B) (oadd a b):=by
 cases a<;>cases b<;>simp [inB,oadd] at *<;>omega
theorem Z3r {B C:Int} {a:Option Int} (h:inB B a) (hc:B<=C):inB C a:=by
 cases a<;>simp [inB] at *<;>omega
theorem inB_min {B:Int} {a b:Option Int} (h1:inB B a) (h2:inB B b):inB B (omin a b):=by
 rcases omin_or a b with h|h<;>rw [h]<;>assumption
theorem less_bd (a b:Option Int):Zg (bd a) (bd b)=olt a b:=by
 cases a with
 | none=>cases b<;>simp [bd,olt,Zg,ZW]
 | some x=>
  cases b with
  | none=>simp [bd,olt,Zg,ZW]
  | some y=>rfl
theorem sum_bd {a b:Option Int} {B:Int} (hB:B<=2305843009213693952) (h1:inB B a) (h2:inB B b):ZB (bd a) (bd b)=(bd (oadd a b),0):=by
 cases a with
 | none=>cases b<;>simp [bd,oadd,ZB,ZW]
 | some x=>
  cases b with
  | none=>simp [bd,oadd,ZB,ZW]
  | some y=>
   simp only [inB] at h1 h2;have e:Z0O x y=(x+y,0):=by
    rw [safe_Add_eq (by unfold In64;omega) (by unfold In64;omega),fitS_of (by unfold In64;omega)]
   simp [bd,oadd,ZB,ZW,e]
theorem less_zero (a:Option Int):Zg (bd a) (Bound.mk 0 0)=olt a (some 0):=less_bd a (some 0)
theorem may_bd {a:Option Int} (h:inB 1125899906842624 a):Z0o (bd a)=true:=by
 cases a with
 | none=>rfl
 | some x=>
  simp only [inB] at h;unfold Z0o bd;simp only [];rw [Z1y (p:=x>=_) (by omega),Z1y (p:=x<=_) (by omega)]
  rfl
def rowM (n:Nat) (M:Nat->Nat->Option Int) (i:Nat):List Bound:=(List.range n).map λj=>bd (M i j)
def Mat (n:Nat) (M:Nat->Nat->Option Int):List (List Bound):=(List.range n).map λi=>rowM n M i
def updM (M:Nat->Nat->Option Int) (i j:Nat) (v:Option Int):Nat->Nat->Option Int:=λa b=>if a=i/\b=j then v else M a b
section
variable {n:Nat} {M A:Nat->Nat->Option Int}
theorem Z1F:(Mat n M).length=n:=by simp [Mat]
theorem Z33 {i:Nat}:(rowM n M i).length=n:=by simp [rowM]
theorem Z2K {i:Nat} (h:i<n):at? (Mat n M) (i:Int)=some (rowM n M i):=by
 rw [at?_nat (by rw [Z1F];exact h)];simp [Mat]
theorem Z1x {i j:Nat} (h:j<n):at? (rowM n M i) (j:Int)=some (bd (M i j)):=by
 rw [at?_nat (by rw [Z33];exact h)];simp [rowM]
theorem Z2O (h:∀ i j,i<n->j<n->M i j=A i j):Mat n M=Mat n A:=by
 unfold Mat rowM
 apply List.map_congr_left
 intro i hi
 apply List.map_congr_left
 intro j hj
 rw [h i j (by simpa using hi) (by simpa using hj)]
theorem Mat_set {i j:Nat} (v:Option Int):(Mat n M).set i ((rowM n M i).set j (bd v))=Mat n (updM M i j v):=by
 apply List.ext_getElem
 ·simp [Mat]
 ·intro a h1 h2;have ha:a<n:=by simpa [Mat] using h2
  rw [List.getElem_set]
  by_cases hai:i=a
  ·subst hai;rw [if_pos rfl];apply List.ext_getElem
   ·simp [Mat,rowM]
   ·intro b g1 g2;rw [List.getElem_set]
    by_cases hbj:j=b
    ·subst hbj;simp [Mat,rowM,updM]
    ·rw [if_neg hbj];simp [Mat,rowM,updM,Ne.symm hbj]
  ·rw [if_neg hai];simp [Mat,rowM,updM,Ne.symm hai]
theorem Mat_set' {i j:Nat} (v:Option Int):(Mat n M).set ((i:Int)).toNat ((rowM n M i).set ((j:Int)).toNat (bd v))=Mat n (updM M i j v):=Mat_set v
end
theorem repeat_eq {n:Nat} (h1:1<=n) (h2:n<=24) (a:Bound):Z9 [a] (n:Int)=some (List.replicate n a):=by
 have hmul:ZE (IntKind.u64.wrap (([a] : List Bound).length:Int)) (IntKind.u64.wrap (n:Int))=(0,(n:Int)):=by
  have e1:IntKind.u64.wrap (([a] : List Bound).length:Int)=1:=by rw [Z4k];rfl
  have e2:IntKind.u64.wrap (n:Int)=n:=by rw [Z4k];omega
  rw [e1,e2];unfold ZE;rw [mul64_eq (by unfold InU64;omega) (by unfold InU64;omega)]
  simp only [Y2];omega
 unfold Z9
 rw [Z0x (by omega),cond_false,hmul]
 simp only []
 rw [Z0x (by omega),Z0x (by omega),Bool.or_self,cond_false,Z0L (by omega)]
 have hnew:new? 16 (n:Int) (Bound.mk 0 0)=some (List.replicate n ⟨0,0⟩):=by
  unfold new?;rw [if_pos ⟨by omega,by rw [room_eq];omega⟩,YL]
 rw [hnew,Y1]
 have hcp:cpy (List.replicate n (⟨0,0⟩ : Bound)) [a]=a::List.replicate (n-1) ⟨0,0⟩:=by
  unfold cpy;rw [Y06,List.length_singleton,Nat.min_eq_left h1,List.drop_replicate]
  rfl
 have hmin:(min ([a] : List Bound).length (List.replicate n (⟨0,0⟩ : Bound)).length:Nat)=1:=by
  rw [Y06,List.length_singleton,Nat.min_eq_left h1]
 rw [hcp,hmin]
 have key:=Z15 (step:=Z9.s0 [a] (n:Int)) (I:=λs r=>r=List.replicate n a/\∃ p:Nat,s.1=(p:Int)/\1<=p/\p<=n/\s.2.length=n/\s.2.take p=List.replicate p a) (λs=>n-s.1.toNat) ?_ (s:=(((1:Nat):Int),a::List.replicate (n-1) ⟨0,0⟩)) (r:=List.replicate n a) ⟨rfl,1,rfl,Y9 _,h1,by simp;omega,rfl⟩
 ·rw [key];rfl
 ·rintro ⟨s1,xs⟩ r ⟨rfl,p,hp,hp1,hpn,hlen,htake⟩;simp only at hp hlen htake;subst hp;unfold Z9.s0;rw [hmul];simp only [hlen]
  by_cases hlt:p<n
  ·rw [Z1y (by omega),cond_true,Z0L (x:=(n:Int)) (by omega),YL,YL]
   have w1:winA (p:Int) n=some ():=if_pos ⟨by omega,by omega⟩
   have w2:winB (p:Int) n=some ():=if_pos ⟨by omega,by omega⟩
   rw [w1,w2,Y1,Y1];refine .inl ⟨_,rfl,⟨trivial,p+min p (n-p),?_,by omega,by omega,?_,?_⟩,?_⟩
   ·rw [Z0L (by omega)];push_cast;rfl
   ·simp only [dbl,YM,YN,Yn,hlen];omega
   ·have hd:dbl xs p=List.replicate p a++List.replicate (min p (n-p)) a++xs.drop (p+min p (n-p)):=by
     unfold dbl;rw [htake,hlen,List.take_replicate,Nat.min_comm (n-p) p]
    simp only [hd];rw [List.replicate_append_replicate,Yz (by simp),Yj (by simp)]
   ·simp only [YL];rw [Z0L (by omega)]
    omega
  ·have hpe:p=n:=by omega
   subst hpe;rw [Z0x (by omega),cond_false]
   refine .inr ?_;rw [Yj (by omega)] at htake
   rw [htake]
end Go.Dn

namespace Go.Dn
open Go
def newM:Nat->Nat->Option Int:=λa b=>if a=b then some 0 else none
def BdM (n:Nat) (M:Nat->Nat->Option Int) (B:Int):Prop:=∀ i j,i<n->j<n->inB B (M i j)
theorem stp_New_eq {n:Nat} (h1:1<=n) (h2:n<=24):Z0n (n:Int)=some (Mat n newM,0):=by
 unfold Z0n
 rw [Z0x (by omega),Z0x (by omega),Bool.or_self,cond_false]
 have hnew:new? 24 (n:Int) ([] : List Bound)=some (List.replicate n []):=by
  unfold new?;rw [if_pos ⟨by omega,by rw [room_eq];omega⟩,YL]
 rw [hnew,Y1]
 have key:=Z15 (step:=Z0n.s0 (n:Int)) (I:=λs r=>r=Mat n newM/\∃ p:Nat,s.1=(p:Int)/\p<=n/\s.2.length=n/\∀ a,a<p->s.2[a]? = some (rowM n newM a)) (λs=>n-s.1.toNat) ?_ (s:=(0,List.replicate n [])) (r:=Mat n newM) ⟨rfl,0,rfl,Ym _,by simp,λa ha=>absurd ha (Nat.not_lt_zero _)⟩
 ·rw [key];rfl
 ·rintro ⟨s1,L⟩ r ⟨rfl,p,hp,hpn,hlen,hL⟩;simp only at hp hlen hL;subst hp;unfold Z0n.s0;simp only []
  by_cases hlt:p<n
  ·rw [Z1y (by omega),cond_true,repeat_eq h1 h2,Y1,at?_nat (by omega),Y1,YL,at?_nat (by rw [YQ];omega),Y1,List.getElem_set_self]
   rw [at?_nat (by simpa using hlt),Y1]
   refine .inl ⟨_,rfl,⟨trivial,p+1,?_,by omega,?_,?_⟩,?_⟩
   ·simp only [];rw [Z0L (by omega)];push_cast;rfl
   ·simp [hlen]
   ·intro a ha;simp only [Y09]
    by_cases hap:p=a
    ·subst hap;rw [if_pos rfl,if_pos (by simp;omega)]
     congr 1
     apply List.ext_getElem
     ·simp [rowM]
     ·intro b g1 g2;rw [List.getElem_set]
      by_cases hb:p=b
      ·subst hb;simp [rowM,newM,bd]
      ·rw [if_neg hb];simp [rowM,newM,bd,hb]
    ·rw [if_neg hap,if_neg hap];exact hL a (by omega)
   ·simp only [];rw [Z0L (by omega)];omega
  ·have hpe:p=n:=by omega
   subst hpe;rw [Z0x (by omega),cond_false]
   refine .inr ?_;have e:L=Mat p newM:=by
    apply List.ext_getElem?;intro a
    by_cases ha:a<p
    ·rw [hL a ha];simp [Mat,ha]
    ·rw [Yl (by omega),Yl (by rw [Z1F];omega)]
   rw [e]
theorem findB_none {s:List Bound} {f:Bound->Option Bool} (hs:(s.length:Int)<4611686018427387904) (h:∀ x∈s,f x=some false):ZM s f=some false:=by
 unfold ZM Z8
 have key:=Z15 (step:=Z8.s0 s f) (I:=λ(i:Int) r=>r = .go ()/\∃ k:Nat,i=k/\k<=s.length) (λi=>s.length-i.toNat) ?_ (s:=0) (r:=.go ()) ⟨rfl,0,rfl,Ym _⟩
 ·rw [key];rfl
 ·rintro i r ⟨rfl,k,rfl,hk⟩;unfold Z8.s0
  by_cases hlt:k<s.length
  ·rw [Z1y (by omega),cond_true,at?_nat hlt,Y1,h _ (Y04 hlt)]
   refine .inl ⟨_,rfl,⟨rfl,k+1,by rw [Z0L (by omega)];push_cast;rfl,hlt⟩,by rw [Z0L (by omega)];omega⟩
  ·rw [Z0x (by omega),cond_false];exact .inr rfl
theorem findR_none {s:List (List Bound)} {f:List Bound->Option Bool} (hs:(s.length:Int)<4611686018427387904) (h:∀ x∈s,f x=some false):ZH s f=some false:=by
 unfold ZH Z6
 have key:=Z15 (step:=Z6.s0 s f) (I:=λ(i:Int) r=>r = .go ()/\∃ k:Nat,i=k/\k<=s.length) (λi=>s.length-i.toNat) ?_ (s:=0) (r:=.go ()) ⟨rfl,0,rfl,Ym _⟩
 ·rw [key];rfl
 ·rintro i r ⟨rfl,k,rfl,hk⟩;unfold Z6.s0
  by_cases hlt:k<s.length
  ·rw [Z1y (by omega),cond_true,at?_nat hlt,Y1,h _ (Y04 hlt)]
   refine .inl ⟨_,rfl,⟨rfl,k+1,by rw [Z0L (by omega)];push_cast;rfl,hlt⟩,by rw [Z0L (by omega)];omega⟩
  ·rw [Z0x (by omega),cond_false];exact .inr rfl
theorem Z4A {n:Nat} {M:Nat->Nat->Option Int} (h2:n<=24) (hB:BdM n M 1125899906842624):Z0N (Mat n M)=some true:=by
 unfold Z0N
 rw [Z1F,Z1y (by omega),cond_true,findR_none (by rw [Z1F];omega)]
 ·rfl
 ·intro row hrow;simp only [Mat,List.mem_map,Y0L] at hrow;obtain ⟨i,hi,rfl⟩:=hrow;unfold Z1M;rw [Z33,bne_f rfl,cond_false,findB_none (by rw [Z33];omega)]
  ·rfl
  ·intro b hb;simp only [rowM,List.mem_map,Y0L] at hb;obtain ⟨j,hj,rfl⟩:=hb;unfold Z24;rw [may_bd (hB i j hi hj)];rfl
theorem Z5w {n:Nat} {M:Nat->Nat->Option Int} (h1:1<=n) (h2:n<=24):Z1H (Mat n M)=some (Mat n M):=by
 unfold Z1H
 have ne:∀ {α:Type} {l:List α},l.length=n->l.isEmpty=false:=by
  intro α l hl;cases l with
  | nil=>simp at hl;omega
  | cons a b=>rfl
 have hr:=room_eq
 rw [ne Z1F,Z1F,Z1y (by omega)]
 have:((Mat n M).all λq=>!q.isEmpty&&decide (q.length*16<=room))=true:=by
  rw [YC];intro q hq;simp only [Mat,List.mem_map,Y0L] at hq;obtain ⟨i,hi,rfl⟩:=hq;rw [ne Z33,Z33,Z1y (by omega)];rfl
 rw [this];rfl
def setM (M:Nat->Nat->Option Int) (i j:Nat) (v:Option Int):Nat->Nat->Option Int:=updM M i j (omin v (M i j))
theorem Z5l {n i j:Nat} {M:Nat->Nat->Option Int} {v:Option Int} (h2:n<=24) (hB:BdM n M 1125899906842624) (hi:i<n) (hj:j<n) (hv:inB 1125899906842624 v):Z2F (Mat n M) (i:Int) (j:Int) (bd v)=some (Mat n (setM M i j v),0):=by
 unfold Z2F
 rw [Z4A h2 hB,Y1,Z1F,may_bd hv,Z0x (p:=(i:Int)<0) (by omega),Z0x (p:=(j:Int)<0) (by omega),Z0x (p:=(i:Int)>=_) (by omega),Z0x (p:=(j:Int)>=_) (by omega)]
 simp only [Bool.not_true,Bool.or_false,cond_false]
 rw [Z5w (by omega) h2,Y1,Z2K hi,Y1,Z1x hj,Y1,less_bd]
 unfold setM
 rw [Z5J]
 cases h:olt v (M i j) with
 | true=>
  simp only [cond_true,Y1,Z1x hj,if_true];rw [Mat_set']
 | false=>
  simp only [cond_false,Y1];have:(if false=true then v else M i j)=M i j:=by simp
  rw [this]
  congr 2
  refine Z2O λa b _ _=>?_;unfold updM
  split
  ·rename_i hh;rw [hh.1,hh.2]
  ·rfl
theorem setM_bd {n i j:Nat} {M:Nat->Nat->Option Int} {v:Option Int} {B:Int} (hB:BdM n M B) (hi:i<n) (hj:j<n) (hv:inB B v):BdM n (setM M i j v) B:=by
 intro a b ha hb
 unfold setM updM
 split
 ·exact inB_min hv (hB i j hi hj)
 ·exact hB a b ha hb
def goodSet (n:Nat) (x:epactlaw24_Set):Prop:=∃ (i j:Nat) (v:Option Int),i<n/\j<n/\inB 1000 v/\x=⟨i,j,bd v⟩
theorem built_loop {n:Nat} (h2:n<=24) {l:List epactlaw24_Set} (hl:(l.length:Int)<4611686018427387904) (hg:∀ x∈l,goodSet n x) {M:Nat->Nat->Option Int} (hB:BdM n M 1000):∃ A,loopO (ZJ.s0 l) (Mat n M,0,0)=some (Mat n A,0)/\BdM n A 1000:=by
 have key:=Z2x (step:=ZJ.s0 l) (I:=λs=>∃ (k:Nat) (A:Nat->Nat->Option Int),s=(Mat n A,0,(k:Int))/\k<=l.length/\BdM n A 1000) (λs=>l.length-s.2.2.toNat) (λr=>∃ A,r=(Mat n A,0)/\BdM n A 1000) ?_ (Mat n M,0,0) ⟨0,M,rfl,Ym _,hB⟩
 ·obtain ⟨r,e,A,rfl,hA⟩:=key;exact ⟨A,e,hA⟩
 ·rintro _ ⟨k,A,rfl,hk,hA⟩;unfold ZJ.s0;simp only []
  by_cases hlt:k<l.length
  ·obtain ⟨i,j,v,hi,hj,hv,hx⟩:=hg _ (Y04 hlt);rw [Z1y (by omega),cond_true,at?_nat hlt,Y1,hx]
   simp only [beq_t,cond_true];rw [Z5l h2 (λa b ha hb=>Z3r (hA a b ha hb) (by omega)) hi hj (Z3r hv (by omega))]
   refine .inl ⟨_,rfl,⟨k+1,setM A i j v,?_,hlt,setM_bd hA hi hj hv⟩,?_⟩
   ·simp only [Y1];rw [Z0L (by omega)];push_cast;rfl
   ·simp only [Y1];rw [Z0L (by omega)];omega
  ·rw [Z0x (by omega),cond_false]
   exact .inr ⟨_,rfl,A,rfl,hA⟩
theorem and255 (x:Int):0<=iAnd .i64 x 255/\iAnd .i64 x 255<=255:=by
 have h2:(BitVec.ofInt 64 255).toNat=2 ^ 8-1:=by decide
 have h:(BitVec.ofInt 64 x &&& BitVec.ofInt 64 255).toNat<=255:=by
  rw [BitVec.toNat_and,h2,Nat.and_two_pow_sub_one_eq_mod];omega
 have e:iAnd .i64 x 255=((BitVec.ofInt 64 x &&& BitVec.ofInt 64 255).toNat:Int):=by
  show IntKind.i64.wrap _=_;rw [wrap_i64];have hb:(IntKind.i64.bits)=64:=rfl;rw [hb];omega
 rw [e]
 omega
theorem tmod_nat {x:Int} {n:Nat} (h:0<=x) (hn:1<=n):∃ i:Nat,i<n/\x.tmod (n:Int)=i:=by
 refine ⟨(x % n).toNat,?_,?_⟩
 ·have h1:=Int.emod_lt_of_pos x (show (0:Int)<n by omega)
  have h2:=Int.emod_nonneg x (show (n:Int)≠0 by omega)
  omega
 ·rw [Y0N h];have h2:=Int.emod_nonneg x (show (n:Int)≠0 by omega)
  omega
theorem tmod_bd (x:Int) : -1000<=x.tmod 1001/\x.tmod 1001<=1000:=by
 have h1:=Int.tmod_lt_of_pos x (show (0:Int)<1001 by omega)
 have h2:=Int.lt_tmod_of_pos x (show (0:Int)<1001 by omega)
 omega
theorem built_sets {n:Nat} (h1:1<=n) {x1:List epactlaw24_Set} (hl:x1.length<=60):∃ l,loopO (ZX.s0 x1) ((n:Int),0,[])=some ((n:Int),l)/\l.length<=60/\∀ x∈l,goodSet n x:=by
 have hr:=room_eq
 have key:=Z2x (step:=ZX.s0 x1) (I:=λs=>∃ (k:Nat) (l:List epactlaw24_Set),s=((n:Int),(k:Int),l)/\k<=x1.length/\l.length<=k/\∀ x∈l,goodSet n x) (λs=>x1.length-s.2.1.toNat) (λr=>∃ l,r=((n:Int),l)/\l.length<=x1.length/\∀ x∈l,goodSet n x) ?_ ((n:Int),0,[]) ⟨0,[],rfl,Ym _,Y9 _,λx hx=>by cases hx⟩
 ·obtain ⟨r,e,l,rfl,hA,hB⟩:=key;exact ⟨l,e,by omega,hB⟩
 ·rintro _ ⟨k,l,rfl,hk,hlk,hg⟩;unfold ZX.s0;simp only []
  by_cases hlt:k<x1.length
  ·rw [Z1y (by omega),cond_true,at?_nat hlt,Y1]
   generalize x1[k]=x;obtain ⟨i,hi,ei⟩:=tmod_nat (and255 x.I).1 h1;obtain ⟨j,hj,ej⟩:=tmod_nat (and255 x.J).1 h1;rw [nz?_ok (by omega),Y1,Y1,ei,ej]
   have hv:∃ v,inB 1000 v/\(bif (x.Most.Inf==0) then some (0,x.Most.N.tmod 1001) else some (1,0))=some ((bd v).Inf,(bd v).N):=by
    cases x.Most.Inf==0 with
    | true=>exact ⟨some (x.Most.N.tmod 1001),tmod_bd _,rfl⟩
    | false=>exact ⟨none,trivial,rfl⟩
   obtain ⟨v,hv,ev⟩:=hv;rw [ev,Y1];have hw:w64 ((k:Int)+1)=((k+1:Nat):Int):=by rw [Z0L (by omega)];push_cast;rfl
   rw [hw]
   by_cases hij:(i:Int)=j
   ·rw [bne_f hij,cond_false];exact .inl ⟨_,rfl,⟨k+1,l,rfl,hlt,by omega,hg⟩,by simp only [YL];omega⟩
   ·rw [bne_t hij,cond_true,app?_ok (by simp;omega)]
    refine .inl ⟨_,rfl,⟨k+1,_,rfl,hlt,by simp;omega,?_⟩,by simp only [YL];omega⟩
    intro y hy;rcases List.mem_append.1 hy with hy|hy
    ·exact hg y hy
    ·rw [YT] at hy;exact ⟨i,j,v,hi,hj,hv,hy⟩
  ·rw [Z0x (by omega),cond_false]
   exact .inr ⟨_,rfl,l,rfl,by omega,hg⟩
theorem newM_bd (n:Nat):BdM n newM 1000:=by
 intro i j _ _
 unfold newM
 split
 ·exact ⟨by omega,by omega⟩
 ·trivial
theorem built_eq {m:Int} (hm:0<=m/\m<=255) (l:List epactlaw24_Set):∃ (n:Nat) (M:Nat->Nat->Option Int),ZX m l=some (Mat n M)/\(n:Int)=1+m % 24/\1<=n/\n<=24/\BdM n M 1000:=by
 have hn:∃ n:Nat,(n:Int)=1+m % 24:=⟨(1+m % 24).toNat,by omega⟩
 obtain ⟨n,hn⟩:=hn
 unfold ZX
 have hmin:iMin (l.length:Int) 60=((min l.length 60:Nat):Int):=by
  unfold iMin;split<;>omega
 have hcut:cut? l 0 (iMin (l.length:Int) 60)=some (l.take 60):=by
  unfold cut?;rw [hmin,if_pos ⟨by omega,by omega,by omega⟩]
  simp only [YL,Int.toNat_zero,List.drop_zero]
  congr 1
  rcases Nat.le_total l.length 60 with h|h
  ·rw [Nat.min_eq_left h,List.take_length,Yj h]
  ·rw [Nat.min_eq_right h]
 rw [hcut,Y1,Y0N hm.1]
 have hw1:w64 (m % 24)=m % 24:=Z0L (by omega)
 have hw2:w64 (1+m % 24)=(n:Int):=by rw [Z0L (by omega),hn]
 rw [hw1,hw2]
 obtain ⟨l2,e2,h2,g2⟩:=built_sets (n:=n) (by omega) (x1:=l.take 60) (by simp;omega)
 rw [e2,Y1]
 unfold ZJ
 rw [stp_New_eq (by omega) (by omega),Y1]
 obtain ⟨A,eA,bA⟩:=built_loop (n:=n) (by omega) (l:=l2) (by omega) g2 (newM_bd n)
 simp only []
 rw [eA]
 exact ⟨n,A,rfl,hn,by omega,by omega,bA⟩
end Go.Dn

namespace Go.Dn
open Go
abbrev MF:=Nat->Nat->Option Int
def leM (n:Nat) (A M:MF):Prop:=∀ i j,i<n->j<n->ole (A i j) (M i j)
def TriM (n k:Nat) (A:MF):Prop:=∀ m,m<k->∀ i j,i<n->j<n->ole (A i j) (oadd (A i m) (A m j))
def DiagM (n:Nat) (A:MF):Prop:=∀ i,i<n->A i i=some 0
def fw (M:MF) (k:Nat):MF:=λi j=>omin (oadd (M i k) (M k j)) (M i j)
theorem fw_row {M:MF} {k j:Nat} (h:M k k=some 0):fw M k k j=M k j:=by
 unfold fw;rw [h,zero_oadd];exact omin_self (Z1T _)
theorem fw_col {M:MF} {k i:Nat} (h:M k k=some 0):fw M k i k=M i k:=by
 unfold fw;rw [h,oadd_zero];exact omin_self (Z1T _)
theorem fw_le (M:MF) (k i j:Nat):ole (fw M k i j) (M i j):=omin_r _ _
theorem fw_tri {n k:Nat} {M:MF} (hk:k<n) (hd:M k k=some 0) (ht:TriM n k M):TriM n (k+1) (fw M k):=by
 intro m hm i j hi hj
 by_cases hmk:m=k
 ·subst hmk;rw [fw_row hd,fw_col hd];exact omin_l _ _
 ·have hm':m<k:=by omega
  have T:=ht m hm';have t1:fw M k i m=oadd (M i k) (M k m)\/fw M k i m=M i m:=omin_or _ _;have t2:fw M k m j=oadd (M m k) (M k j)\/fw M k m j=M m j:=omin_or _ _;have hz:ole (some 0) (oadd (M k m) (M m k)):=by have:=T k k hk hk;rwa [hd] at this
  rcases t1 with e1|e1<;>rcases t2 with e2|e2<;>rw [e1,e2]
  ·refine Z1r (omin_l _ _) ?_;rw [Z3P,<- Z3P (M k m)];refine Z42 (Z1T _) ?_;have:=Z42 hz (Z1T (M k j))
   rwa [zero_oadd] at this
  ·refine Z1r (omin_l _ _) ?_;rw [Z3P];exact Z42 (Z1T _) (T k j hk hj)
  ·refine Z1r (omin_l _ _) ?_;rw [<- Z3P];exact Z42 (T i k hi hk) (Z1T _)
  ·exact Z1r (omin_r _ _) (T i j hi hj)
theorem fw_gr {n k:Nat} {M Y:MF} (hk:k<n) (hY:TriM n n Y) (h:leM n Y M):leM n Y (fw M k):=by
 intro i j hi hj
 exact ole_min (Z1r (hY k hk i j hi hj) (Z42 (h i k hi hk) (h k j hk hj))) (h i j hi hj)
theorem fw_bd {n k:Nat} {M:MF} {B:Int} (hk:k<n) (h0:0<=B) (h:BdM n M B):BdM n (fw M k) (2*B):=by
 intro i j hi hj
 exact inB_min (inB_add (h i k hi hk) (h k j hk hj)) (Z3r (h i j hi hj) (by omega))
def mid (M:MF) (k i j:Nat):MF:=λa b=>if a<i\/(a=i/\b<j) then fw M k a b else M a b
theorem mid_upd {M:MF} {k i j:Nat}:∀ a b,updM (mid M k i j) i j (fw M k i j) a b=mid M k i (j+1) a b:=by
 intro a b
 unfold updM mid
 by_cases h:a=i/\b=j
 ·rw [if_pos h,if_pos (by omega),h.1,h.2]
 ·rw [if_neg h]
  by_cases h2:a<i\/(a=i/\b<j)
  ·rw [if_pos h2,if_pos (by omega)]
  ·rw [if_neg h2,if_neg (by omega)]
variable {n:Nat} {d:List (List Bound)}
theorem close_s3 {M:MF} {k i:Nat} {B:Int} {s2 s3:Int×List (List Bound)} (hn:n<=24) (hdl:d.length=n) (h2:s2.1=(k:Int)) (h3:s3.1=(i:Int)) (hk:k<n) (hi:i<n) (hd:M k k=some 0) (hB:BdM n M B) (hB1:B<=2305843009213693952) :
  loopO (ZC.s3 d s2 s3) (0,Mat n (mid M k i 0))=some (Mat n (mid M k (i+1) 0)):=by
 refine Z15 (I:=λs r=>r=Mat n (mid M k (i+1) 0)/\∃ j:Nat,s=((j:Int),Mat n (mid M k i j))/\j<=n) (λs=>n-s.1.toNat) ?_ ⟨rfl,0,rfl,Ym _⟩
 rintro _ r ⟨rfl,j,rfl,hj⟩
 unfold ZC.s3
 simp only [h2,h3,hdl]
 by_cases hlt:j<n
 ·have e1:mid M k i j i k=M i k:=by
   unfold mid;split
   ·exact fw_col hd
   ·rfl
  have e2:mid M k i j k j=M k j:=by
   unfold mid;split
   ·exact fw_row hd
   ·rfl
  have e3:mid M k i j i j=M i j:=by unfold mid;rw [if_neg (by omega)]
  have hw:w64 ((j:Int)+1)=((j+1:Nat):Int):=by rw [Z0L (by omega)];push_cast;rfl
  rw [Z1y (by omega),cond_true,Z2K hi,Y1,Z1x hk,Y1,Z2K hk,Y1,Z1x hlt,Y1,e1,e2,sum_bd hB1 (hB i k hi hk) (hB k j hk hlt)]
  simp only [beq_t,cond_true,Y1,Z2K hi,Z1x hlt,less_bd,e3,hw];refine .inl ?_;have hstep:∀ X,X=Mat n (mid M k i (j+1))->(∃ s',some (Sum.inl (((j+1:Nat):Int),X))=some (Sum.inl s':(Int×List (List Bound))⊕List (List Bound))/\(True/\∃ j:Nat,s'=((j:Int),Mat n (mid M k i j))/\j<=n)/\n-s'.1.toNat<n-((j:Int)).toNat):=by
   rintro X rfl;exact ⟨_,rfl,⟨trivial,j+1,rfl,hlt⟩,by simp only [YL];omega⟩
  cases h:olt (oadd (M i k) (M k j)) (M i j) with
  | true=>
   simp only [cond_true,Y1];refine hstep _ ?_;rw [Mat_set'];refine Z2O λa b _ _=>?_;rw [<- mid_upd];have:oadd (M i k) (M k j)=fw M k i j:=by unfold fw;rw [Z5J,if_pos h]
   rw [this]
  | false=>
   simp only [cond_false,Y1];refine hstep _ ?_;refine Z2O λa b _ _=>?_;rw [<- mid_upd];unfold updM
   split
   ·rename_i hh;rw [hh.1,hh.2,e3];unfold fw;rw [Z5J,h];rfl
   ·rfl
 ·have:j=n:=by omega
  subst this;rw [Z0x (by omega),cond_false]
  refine .inr ?_
  congr 2
  refine Z2O λa b ha hb=>?_;unfold mid
  by_cases h:a<i+1
  ·rw [if_pos (by omega),if_pos (by omega)]
  ·rw [if_neg (by omega),if_neg (by omega)]
theorem close_s2 {M:MF} {k:Nat} {B:Int} {s2:Int×List (List Bound)} (hn:n<=24) (hdl:d.length=n) (h2:s2.1=(k:Int)) (hk:k<n) (hd:M k k=some 0) (hB:BdM n M B) (hB1:B<=2305843009213693952) :
  loopO (ZC.s2 d s2) (0,Mat n M)=some (Mat n (fw M k)):=by
 have e0:Mat n M=Mat n (mid M k 0 0):=Z2O λa b _ _=>by unfold mid;rw [if_neg (by omega)]
 have e1:Mat n (fw M k)=Mat n (mid M k n 0):=Z2O λa b ha _=>by unfold mid;rw [if_pos (by omega)]
 rw [e0,e1]
 refine Z15 (I:=λs r=>r=Mat n (mid M k n 0)/\∃ i:Nat,s=((i:Int),Mat n (mid M k i 0))/\i<=n) (λs=>n-s.1.toNat) ?_ ⟨rfl,0,rfl,Ym _⟩
 rintro _ r ⟨rfl,i,rfl,hi⟩
 unfold ZC.s2
 simp only [hdl]
 by_cases hlt:i<n
 ·rw [Z1y (by omega),cond_true,close_s3 hn hdl h2 rfl hk hlt hd hB hB1,Y1]
  have hw:w64 ((i:Int)+1)=((i+1:Nat):Int):=by rw [Z0L (by omega)];push_cast;rfl
  rw [hw];exact .inl ⟨_,rfl,⟨trivial,i+1,rfl,hlt⟩,by simp only [YL];omega⟩
 ·have:i=n:=by omega
  subst this;rw [Z0x (by omega),cond_false]
  exact .inr rfl
theorem close_s4 {M:MF} (hn:n<=24) (hdl:d.length=n) :
  (loopO (ZC.s4 d (Mat n M)) 0=some (.go ())/\∀ i,i<n->olt (M i i) (some 0)=false)\/(loopO (ZC.s4 d (Mat n M)) 0=some (.ret ())/\∃ i,i<n/\olt (M i i) (some 0)=true):=by
 have key:=all_loop (l:=List.range n) (step:=ZC.s4 d (Mat n M)) (good:=λk x=>olt (M x x) (some 0)=false) (yes:=.go ()) (no:=.ret ()) ?_ ?_
 ·rcases key with ⟨h1,h2⟩|⟨h1,h2⟩
  ·exact .inl ⟨h1,λi hi=>h2 i i (by simp [hi])⟩
  ·refine .inr ⟨h1,?_⟩;refine Classical.byContradiction λhc=>h2 λk x hx=>?_;have hx':x<n:=by have:=YB hx;simpa using this
   cases h:olt (M x x) (some 0) with
   | false=>rfl
   | true=>exact absurd ⟨x,hx',h⟩ hc
 ·intro k x hx _;obtain ⟨hk,rfl⟩ : k<n/\x=k:=by
   rw [List.getElem?_eq_some_iff] at hx;obtain ⟨h,e⟩:=hx;simp at h e;exact ⟨h,e.symm⟩
  unfold ZC.s4;rw [hdl,Z1y (by omega),cond_true,Z2K hk,Y1,Z1x hk,Y1,less_zero]
  cases h:olt (M x x) (some 0) with
  | true=>exact .inr ⟨rfl,by simp⟩
  | false=>
   rw [cond_false,Z0L (by omega)]
   exact .inl ⟨rfl,rfl⟩
 ·unfold ZC.s4;rw [hdl,List.length_range,Z0x (by omega),cond_false]
theorem lt_neg {a:Option Int} (h:olt a (some 0)=true):¬ ole (some 0) a:=by
 cases a<;>simp [olt,ole] at *<;>omega
theorem lt_not {a:Option Int} (h:olt a (some 0)=false) (h2:ole a (some 0)):a=some 0:=by
 cases a<;>simp [olt,ole] at *<;>omega
structure InvC (n:Nat) (B:Int) (M:MF) (k:Nat) (C:MF):Prop where
 diag:DiagM n C
 tri:TriM n k C
 le:leM n C M
 gr:∀ Y,TriM n n Y->DiagM n Y->leM n Y M->leM n Y C
 bd:BdM n C (B*2 ^ k)
def NoSol (n:Nat) (M:MF):Prop:=∀ Y,TriM n n Y->DiagM n Y->¬ leM n Y M
theorem pow_le24 {k:Nat} (h:k<=24):(2:Int) ^ k<=16777216/\1<=(2:Int) ^ k:=by
 have h1:(2:Nat) ^ k<=2 ^ 24:=Nat.pow_le_pow_right (by omega) h
 have h2:1<=(2:Nat) ^ k:=Nat.one_le_two_pow
 have h3:((2 ^ k:Nat):Int)=(2:Int) ^ k:=by push_cast;rfl
 omega
end Go.Dn

namespace Go.Dn
open Go
def vec (n:Nat) (E:Nat->Int):List Int:=(List.range n).map E
def tm (E:Nat->Int):MF:=λi j=>some (E j-E i)
section
variable {n:Nat} {E:Nat->Int}
end
variable {n:Nat}
theorem square_eq {C:MF} (hn:n<=24):Z4 (Mat n C) (n:Int)=some true:=by
 unfold Z4
 have key:=Z15 (step:=Z4.s0 (Mat n C) (n:Int)) (I:=λ(i:Int) r=>r = .go ()/\∃ k:Nat,i=k/\k<=n) (λi=>n-i.toNat) ?_ (s:=0) (r:=.go ()) ⟨rfl,0,rfl,Ym _⟩
 ·rw [key];simp only [Y1,Jx.elim,Z1F,beq_t]
 ·rintro i r ⟨rfl,k,rfl,hk⟩;unfold Z4.s0;rw [Z1F]
  by_cases hlt:k<n
  ·rw [Z1y (by omega),cond_true,Z2K hlt,Y1,Z33,bne_f rfl,cond_false]
   exact .inl ⟨_,rfl,⟨rfl,k+1,by rw [Z0L (by omega)];push_cast;rfl,hlt⟩,by rw [Z0L (by omega)];omega⟩
  ·rw [Z0x (by omega),cond_false];exact .inr rfl
def Early (n:Nat) (C:MF) (E:Nat->Int) (i k:Nat):Prop:=(∀ j,j<k->ole (some (E i)) (C j i))/\(E i=0\/∃ j,j<n/\C j i=some (E i))
noncomputable def sameTail (x1:List (List Bound)) (x2:List (List Bound)×Bool×Int) (t:List Int):Option Bool :=
 (ZY x1 t).bind λx8=>
 (bif ((x2.2.2 != 0)||(!x2.2.1)) then
  some ((((x2.2.2==0)&&(!x8))&&((x2.1.length:Int)==0))&&ZK)
 else
  (ZY x2.1 t).bind λx10=>
  (bif (x10 != x8) then
   some false
  else
   (Z4 x2.1 (x1.length:Int)).bind λx11=>
   (bif (!x11) then
    some false
   else
    (new? 8 (x1.length:Int) 0).bind λx12=>
    (loopO (Zb.s1 x1 x2) (0,x12)).bind λ(y2:(List Int))=>
    (ZY x1 y2).bind λx19=>
    (
     (bif x19 then
      (ZY x2.1 y2).bind λx20=>
      some x20
     else
      some false)).bind λ(y6:Bool)=>
    some (y6&&ZK))))
end Go.Dn

namespace Go.Dn
open Go
variable {n:Nat}
def lowered (C:MF) (i j:Nat) (w:Int):MF:=λa b=>omin (oadd (C a i) (oadd (some w) (C j b))) (C a b)
end Go.Dn

namespace Go.Dn
open Go
variable {n:Nat} {d:List (List Bound)}
theorem closeO_s3:ZD.s3=ZC.s3:=by
 funext d s2 s3 s4
 unfold ZD.s3 ZC.s3
 rfl
theorem closeO_s2:ZD.s2=ZC.s2:=by
 funext d s2 s3
 unfold ZD.s2 ZC.s2
 rw [closeO_s3]
theorem closeO_s4:ZD.s4=ZC.s4:=by
 funext d y4 s5
 unfold ZD.s4 ZC.s4
 rfl
theorem closeO_s0 {M:MF} {B:Int} (hB0:0<=B) (hn:n<=24) (hdl:d.length=n) (hB:BdM n M B) :
  (∃ C,loopO (ZD.s0 d) (0,Mat n M)=some (.go (Mat n C))/\InvC n B M 0 C)\/((∃ X,loopO (ZD.s0 d) (0,Mat n M)=some (.ret X))/\NoSol n M):=by
 have key:=Z2x (step:=ZD.s0 d) (I:=λs=>∃ (i:Nat) (C:MF),s=((i:Int),Mat n C)/\i<=n/\(∀ a,a<i->C a a=some 0)/\leM n C M/\(∀ Y,DiagM n Y->leM n Y M->leM n Y C)/\BdM n C B/\∀ a,i<=a->C a a=M a a) (λs=>n-s.1.toNat)
  (λr=>(∃ C,r = .go (Mat n C)/\InvC n B M 0 C)\/((∃ X,r = .ret X)/\NoSol n M)) ?_ (0,Mat n M) ⟨0,M,rfl,Ym _,λa ha=>absurd ha (Nat.not_lt_zero _),λi j _ _=>Z1T _,λY _ h=>h,hB,λ_ _=>rfl⟩
 ·obtain ⟨r,e,⟨C,rfl,h⟩|⟨⟨X,rfl⟩,h⟩⟩:=key
  ·exact .inl ⟨C,e,h⟩
  ·exact .inr ⟨⟨X,e⟩,h⟩
 ·rintro _ ⟨i,C,rfl,hi,hdg,hle,hgr,hbd,hrest⟩;unfold ZD.s0;simp only [hdl]
  by_cases hlt:i<n
  ·rw [Z1y (by omega),cond_true]
   simp only [Z2K hlt,Z1x hlt,Y1,less_zero];cases h:olt (C i i) (some 0) with
   | true=>
    rw [cond_true];refine .inr ⟨_,rfl,.inr ⟨⟨_,rfl⟩,λY hY hD hYM=>lt_neg h ?_⟩⟩;have:=hgr Y hD hYM i i hlt hlt
    rwa [hD i hlt] at this
   | false=>
    rw [cond_false];refine .inl ⟨_,rfl,⟨i+1,updM C i i (some 0),?_,hlt,?_,?_,?_,?_,?_⟩,?_⟩
    ·rw [Z0L (by omega)]
     congr 1
     exact Mat_set' (some 0)
    ·intro a ha;unfold updM
     split
     ·rfl
     ·exact hdg a (by omega)
    ·intro a b ha hb;unfold updM
     split
     ·rename_i hh;rw [hh.1,hh.2,<- hrest i (Y9 _)];cases hc:C i i with
      | none=>trivial
      | some v=>rw [hc] at h;simp [olt] at h;simpa [ole] using h
     ·exact hle a b ha hb
    ·intro Y hD hYM a b ha hb;unfold updM
     split
     ·rename_i hh;rw [hh.1,hh.2,hD i hlt];exact Z1T _
     ·exact hgr Y hD hYM a b ha hb
    ·intro a b ha hb;unfold updM
     split
     ·exact ⟨by omega,by omega⟩
     ·exact hbd a b ha hb
    ·intro a ha;unfold updM;rw [if_neg (by omega)]
     exact hrest a (by omega)
    ·simp only [];rw [Z0L (by omega)];omega
  ·have:i=n:=by omega
   subst this;rw [Z0x (by omega),cond_false]
   exact .inr ⟨_,rfl,.inl ⟨C,rfl,hdg,λm hm=>absurd hm (Nat.not_lt_zero _),hle,λY _ hD=>hgr Y hD,by simpa using hbd⟩⟩
theorem closeO_s1 {M C0:MF} {B:Int} (hB0:0<=B) (hB1:∀ k,k<n->B*2 ^ k<=2305843009213693952) (hn:n<=24) (hdl:d.length=n) (h0:InvC n B M 0 C0) :
  (∃ C,loopO (ZD.s1 d) (0,Mat n C0)=some (.go (Mat n C))/\InvC n B M n C)\/((∃ X,loopO (ZD.s1 d) (0,Mat n C0)=some (.ret X))/\NoSol n M):=by
 have key:=Z2x (step:=ZD.s1 d) (I:=λs=>∃ (k:Nat) (C:MF),s=((k:Int),Mat n C)/\k<=n/\InvC n B M k C) (λs=>n-s.1.toNat)
  (λr=>(∃ C,r = .go (Mat n C)/\InvC n B M n C)\/((∃ X,r = .ret X)/\NoSol n M)) ?_ (0,Mat n C0) ⟨0,C0,rfl,Ym _,h0⟩
 ·obtain ⟨r,e,⟨C,rfl,h⟩|⟨⟨X,rfl⟩,h⟩⟩:=key
  ·exact .inl ⟨C,e,h⟩
  ·exact .inr ⟨⟨X,e⟩,h⟩
 ·rintro _ ⟨k,C,rfl,hk,hI⟩;unfold ZD.s1;simp only [hdl]
  by_cases hlt:k<n
  ·have hp:=pow_le24 (k:=k) (by omega)
   have hpB:0<=B*2 ^ k/\B*2 ^ k<=2305843009213693952:=⟨Int.mul_nonneg hB0 (by omega),hB1 k hlt⟩
   rw [Z1y (by omega),cond_true,closeO_s2,close_s2 hn hdl rfl hlt (hI.diag k hlt) hI.bd hpB.2,Y1,closeO_s4]
   have hbd':BdM n (fw C k) (B*2 ^ (k+1)):=by
    have:=fw_bd hlt hpB.1 hI.bd;have e:B*2 ^ (k+1)=2*(B*2 ^ k):=by rw [Int.pow_succ,<- Y0F,Int.mul_comm]
    rw [e];exact this
   have hgr':∀ Y,TriM n n Y->DiagM n Y->leM n Y M->leM n Y (fw C k):=λY hT hD hM=>fw_gr hlt hT (hI.gr Y hT hD hM);rcases close_s4 (d:=d) (M:=fw C k) hn hdl with ⟨e4,h4⟩|⟨e4,i,hi,h4⟩
   ·rw [e4];refine .inl ⟨_,rfl,⟨k+1,fw C k,?_,hlt,?_,fw_tri hlt (hI.diag k hlt) hI.tri,?_,hgr',hbd'⟩,?_⟩
    ·rw [Z0L (by omega)];push_cast;rfl
    ·intro i hi;refine lt_not (h4 i hi) ?_;have:=fw_le C k i i
     rwa [hI.diag i hi] at this
    ·exact λa b ha hb=>Z1r (fw_le C k a b) (hI.le a b ha hb)
    ·simp only [];rw [Z0L (by omega)];omega
   ·rw [e4];refine .inr ⟨_,rfl,.inr ⟨⟨_,rfl⟩,λY hT hD hM=>lt_neg h4 ?_⟩⟩;have:=hgr' Y hT hD hM i i hi hi
    rwa [hD i hi] at this
  ·have:k=n:=by omega
   subst this;rw [Z0x (by omega),cond_false]
   exact .inr ⟨_,rfl,.inl ⟨C,rfl,hI⟩⟩
theorem closeO_eq {M:MF} {B:Int} (hB0:0<=B) (hB2:B<=1125899906842624) (hB1:∀ k,k<n->B*2 ^ k<=2305843009213693952) (h1:1<=n) (hn:n<=24) (hB:BdM n M B) :
  (∃ C,ZD (Mat n M)=some (Mat n C,true,0)/\InvC n B M n C)\/(ZD (Mat n M)=some ([],false,0)/\NoSol n M):=by
 unfold ZD
 rw [Z4A hn (λa b ha hb=>Z3r (hB a b ha hb) hB2),Y1,Bool.not_true,cond_false,Z5w h1 hn,Y1]
 rcases closeO_s0 (d:=Mat n M) hB0 hn Z1F hB with ⟨C,e,h⟩|⟨⟨X,e⟩,h⟩
 ·rw [e];simp only [Y1,Jx.elim];rcases closeO_s1 (d:=Mat n M) hB0 hB1 hn Z1F h with ⟨C',e',h'⟩|⟨⟨X,e'⟩,h'⟩
  ·rw [e'];exact .inl ⟨C',rfl,h'⟩
  ·rw [e'];exact .inr ⟨rfl,h'⟩
 ·rw [e];exact .inr ⟨rfl,h⟩
theorem pigeon24:∀ (l:List Int) (c:Nat->Int),(∀ a b,c a=c b->a=b)->∃ k,k<=l.length/\c k∉l
 | [],c,_=>⟨0,Y9 _,by simp⟩
 | x::l,c,hc=>by
  by_cases h:∃ k0,c k0=x
  ·obtain ⟨k0,rfl⟩:=h;obtain ⟨k,h1,h2⟩:=pigeon24 l (λk=>if k<k0 then c k else c (k+1)) (λa b hab=>by
    split at hab<;>split at hab<;>have:=hc _ _ hab<;>omega)
   split at h2
   ·rename_i hk;refine ⟨k,by simp;omega,?_⟩
    rw [List.mem_cons];rintro (h|h)
    ·have:=hc _ _ h;omega
    ·exact h2 h
   ·rename_i hk;refine ⟨k+1,by simp;omega,?_⟩
    rw [List.mem_cons];rintro (h|h)
    ·have:=hc _ _ h;omega
    ·exact h2 h
  ·obtain ⟨k,h1,h2⟩:=pigeon24 l c hc;refine ⟨k,by simp;omega,?_⟩
   rw [List.mem_cons];rintro (h'|h')
   ·exact h ⟨k,h'⟩
   ·exact h2 h'
open Classical in
theorem inv_far {M C:MF} (hn:n<=24) (hB:BdM n M 1000) (h:InvC n 1000 M n C) {i j:Nat} (hi:i<n) (hj:j<n) {v:Int} (hv:C i j=some v):v<=25000:=by
 refine Classical.byContradiction λhc=>?_
 obtain ⟨k,hk,hnk⟩:=pigeon24 ((List.range n).map λj=>match C i j with|some d=>(d-1) / 1000|none=>-1) (λk=>(k:Int)) (λa b hab=>by omega)
 rw [YG,List.length_range] at hk
 have key:∀ b e,b<n->C i b=some e->e<=1000*k\/e>1000*k+1000:=λb e hb he=>by
  refine Classical.byContradiction λhh=>hnk ?_;refine List.mem_map.2 ⟨b,by simpa using hb,?_⟩
  rw [he];show (e-1) / 1000=(k:Int);omega
 have hY:=h.gr (λa b=>if (∃ e,C i a=some e/\e<=1000*k)/\¬ (∃ e,C i b=some e/\e<=1000*k) then none else C a b) ?_ ?_ ?_ i j hi hj
 ·have hY:ole (if (∃ e,C i i=some e/\e<=1000*k)/\¬ (∃ e,C i j=some e/\e<=1000*k) then none else C i j) (C i j):=hY;have hp:(∃ e,C i i=some e/\e<=1000*(k:Int))/\¬ (∃ e,C i j=some e/\e<=1000*(k:Int)):=⟨⟨0,h.diag i hi,by omega⟩,λ⟨e,h1,h2⟩=>by rw [hv] at h1;cases h1;omega⟩
  rw [if_pos hp,hv] at hY;exact hY
 ·have up:∀ a b,ole (C a b) (if (∃ e,C i a=some e/\e<=1000*k)/\¬ (∃ e,C i b=some e/\e<=1000*k) then none else C a b):=λa b=>by
   split
   ·exact ole_none _
   ·exact Z1T _
  intro m hm a b ha hb
  by_cases hab:(∃ e,C i a=some e/\e<=1000*k)/\¬ (∃ e,C i b=some e/\e<=1000*k)
  ·have e0:∀ x:Option Int,oadd x none=none:=λx=>by cases x<;>rfl
   have e1:∀ x:Option Int,oadd none x=none:=λx=>by cases x<;>rfl
   by_cases hma:∃ e,C i m=some e/\e<=1000*k
   ·show ole _ (oadd _ (if (∃ e,C i m=some e/\e<=1000*k)/\¬ (∃ e,C i b=some e/\e<=1000*k) then none else C m b));rw [if_pos ⟨hma,hab.2⟩,e0];exact ole_none _
   ·show ole _ (oadd (if (∃ e,C i a=some e/\e<=1000*k)/\¬ (∃ e,C i m=some e/\e<=1000*k) then none else C a m) _);rw [if_pos ⟨hab.1,hma⟩,e1];exact ole_none _
  ·show ole (if (∃ e,C i a=some e/\e<=1000*k)/\¬ (∃ e,C i b=some e/\e<=1000*k) then none else C a b) _;rw [if_neg hab];exact Z1r (h.tri m hm a b ha hb) (Z42 (up a m) (up m b))
 ·intro a ha;show (if (∃ e,C i a=some e/\e<=1000*k)/\¬ (∃ e,C i a=some e/\e<=1000*k) then none else C a a)=some 0;rw [if_neg (λhh=>hh.2 hh.1)];exact h.diag a ha
 ·intro a b ha hb;show ole (if (∃ e,C i a=some e/\e<=1000*k)/\¬ (∃ e,C i b=some e/\e<=1000*k) then none else C a b) (M a b)
  by_cases hab:(∃ e,C i a=some e/\e<=1000*k)/\¬ (∃ e,C i b=some e/\e<=1000*k)
  ·rw [if_pos hab];obtain ⟨⟨x,hx,hxk⟩,hnb⟩:=hab
   cases hm:M a b with
   | none=>trivial
   | some m=>
    exfalso
    have hm1:=hB a b ha hb;rw [hm] at hm1;have hm2 : -1000<=m/\m<=1000:=hm1;have t1:=h.tri a ha i b hi hb;have t2:=h.le a b ha hb
    rw [hm] at t2;cases hcab:C a b with
    | none=>rw [hcab] at t2;exact t2
    | some y=>
     rw [hcab] at t2;have t2:y<=m:=t2
     rw [hx,hcab] at t1;cases hcib:C i b with
     | none=>rw [hcib] at t1;exact t1
     | some z=>
      rw [hcib] at t1;have t1:z<=x+y:=t1;rcases key b z hb hcib with q|q
      ·exact hnb ⟨z,hcib,q⟩
      ·omega
  ·rw [if_neg hab];exact h.le a b ha hb
theorem setO_of {d:List (List Bound)} {i j:Int} {m:Bound} {r:List (List Bound)} (h:Z2F d i j m=some (r,0)):Z38 d i j m=some (r,0):=by
 unfold Z2F at h
 unfold Z38
 cases hr:Z0N d with
 | none=>rw [hr] at h;cases h
 | some x=>
  rw [hr] at h;simp only [Y1] at h ⊢;cases hc:((((((!x)||(decide (i<0)))||(decide (j<0)))||(decide (i>=(d.length:Int))))||(decide (j>=(d.length:Int))))||(!(Z0o m))) with
  | true=>rw [hc,cond_true] at h;simp at h
  | false=>rw [hc] at h;exact h
theorem stpOwn_true (m:Int) (l:List epactlaw24_Set) (hm:okI .u8 m) (hl:okL 32 epactlaw24_Set.ok l):Z0r m l=some true:=by
 rw [okI_u8] at hm
 have hm2:IntKind.u8.wrap (1+m.tmod 23)=1+m % 23:=by
  rw [Y0N hm.1];have:∀ a:Int,IntKind.u8.wrap a=a % 256:=λa=>by simp [IntKind.wrap,IntKind.bits,IntKind.signed]
  rw [this];omega
 have hawake:ZK=true:=rfl
 unfold Z0r
 rw [hm2]
 obtain ⟨n,M,e,hn,h1,h2,hB⟩:=built_eq (m:=1+m % 23) (by omega) l
 have hn2:2<=n:=by omega
 have hBB:BdM n M 1125899906842624:=λa b ha hb=>Z3r (hB a b ha hb) (by omega)
 have h0n:0<n:=by omega
 have h1n:1<n:=by omega
 have a0:at? (Mat n M) (0:Int)=some (rowM n M 0):=Z2K (i:=0) h0n
 have r1:∀ (X:MF) (i:Nat),at? (rowM n X i) (1:Int)=some (bd (X i 1)):=λX i=>Z1x (j:=1) h1n
 have aX:∀ X:MF,at? (Mat n X) (0:Int)=some (rowM n X 0):=λX=>Z2K (i:=0) h0n
 have hset:Z38 (Mat n M) 0 1 (Bound.mk 0 (-500))=some (Mat n (setM M 0 1 (some (-500))),0):=by
  exact setO_of (Z5l (n:=n) (M:=M) (i:=0) (j:=1) (v:=some (-500)) h2 hBB h0n h1n ⟨by omega,by omega⟩)
 have hpow:∀ k,k<n->(1000:Int)*2 ^ k<=2305843009213693952:=λk hk=>by
  have:=(pow_le24 (k:=k) (by omega)).1
  omega
 have hsq:∀ X:MF,Z4 (Mat n X) (n:Int)=some true:=λX=>square_eq h2
 have hsq0:Z4 [] (n:Int)=some false:=by
  unfold Z4;rw [loopO_eq];unfold Z4.s0;simp only [Y00];rw [Z0x (by omega),cond_false]
  simp only [Y1,Jx.elim];rw [beq_f (show ¬ ((0:Nat):Int)=(n:Int) by omega)]
 rw [e,Y1,Z1F,Z0x (by omega),cond_false,a0,Y1,r1,Y1,hset,Y1]
 have hsame:∀ b:Bound,((b.Inf==b.Inf)&&((b.N==b.N)&&true))=true:=λb=>by simp
 rcases closeO_eq (n:=n) (M:=M) (B:=1000) (by omega) (by omega) hpow h1 h2 hB with ⟨C,ec,h⟩|⟨ec,h⟩
 ·rw [ec];have hfar:(!(((bd (C 0 1)).Inf==0)&&(((bd (C 0 1)).N==77777)&&true)))=true:=by
   cases hc:C 0 1 with
   | none=>rfl
   | some v=>
    have:=inv_far h2 hB h h0n h1n hc;show (!((true)&&((v==77777)&&true)))=true;rw [beq_f (show ¬ v=77777 by omega)]
    rfl
  simp only [Y1,cond_true,hsq,aX,r1,Bool.not_true,cond_false,beq_self_eq_true,Yx,Bool.true_and,Bool.and_true]
  first
   | (rw [hawake];simp [hfar] at *;done)
   | skip
  have hfar2:=hfar;simp only [Bool.and_true] at hfar2;rw [hfar2]
  rfl
 ·rw [ec];simp only [Y1,cond_true,cond_false,hsq,hsq0,aX,r1,Bool.not_true,Bool.not_false,beq_self_eq_true,Yx,Bool.true_and,Bool.and_true]
  rfl
end Go.Dn
