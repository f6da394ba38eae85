/- Part 3 of what the row stands on. -/
import Derived.Test.YtochhophekfmbaaM2
set_option linter.unusedVariables false
set_option linter.unusedSimpArgs false
namespace Go.Dn
open Go Go.Proofs
set_option maxRecDepth 100000
set_option maxHeartbeats 4000000
abbrev vl {α:Type} (c:α→List FV) (x:List α):PV:=.v (.sl (x.map c))
abbrev vi (x:Int):PV:=.v (.int .i64 x)
abbrev vu (x:Int):PV:=.v (.int .u64 x)
abbrev vb (x:Bool):PV:=.v (.bool x)
section
theorem Ops.wt {X:Ctx} {n:Nat} {dr:Bool} {ops:Array Oper} {base i:Nat} {l:List Oper} {e:Env} {σ:Heap} {K:Env→Heap→Prop} {op:Op} {t:TypeId} {p:String} {af:Array Edge} {j:Nat} {g:Tmp} {w:Bool} {dst:Option Tmp} (hg:(ops[j]?).bind (·.dst) = some g) (he:e g = .v (.bool w)) (hk:Ops X n dr ops base i (⟨dst,op,t,p,af,none⟩ :: l) e σ K):Ops X n dr ops base i (⟨dst,op,t,p,af,some (j,w)⟩ :: l) e σ K:=.wanted hg he hk
variable {X:Ctx} {n:Nat} {dr:Bool} {ops:Array Oper} {base i:Nat} {l:List Oper} {e:Env} {σ:Heap} {K:Env→Heap→Prop} {d:Nat} {t t1 t2:TypeId} {p:String} {af:Array Edge} {x y:Operand} {lo hi:Nat} {L:List Res}
theorem Ops.mv (v:PV) (hx:Z0 X e x = some v) (hd:Nat.blt d n = true) (hk:Ops X n dr ops base (i + 1) l (set e d v) σ K):Ops X n dr ops base i (⟨some d,.move x,t,p,af,none⟩ :: l) e σ K:=.move hx hd hk
theorem Ops.av (v:PV) (hx:Z0 X e x = some v) (hd:Nat.blt d n = true) (hk:Ops X n dr ops base (i + 1) l (set e d v) σ K):Ops X n dr ops base i (⟨some d,.assign x,t,p,af,none⟩ :: l) e σ K:=.assign hx hd hk
theorem Ops.it {op:BinOp} {k:IntKind} (m m':Int) (r:FV) (hx:Z0 X e x = some (.v (.int k m))) (hy:Z0 X e y = some (.v (.int k m'))) (hop:(op != .shl && op != .shr) = true) (hr:Z3s op k m m' = some r) (hd:Nat.blt d n = true) (hk:Ops X n dr ops base (i + 1) l (set e d (.v r)) σ K):Ops X n dr ops base i (⟨some d,.binOp op t1 x y t2,t,p,af,none⟩ :: l) e σ K:=.int hx hy hop hr hd hk
theorem Ops.xt (v:PV) {vs:List PV} {j:Nat} (hx:Z0 X e x = some (.tup vs)) (hj:vs[j]? = some v) (hd:Nat.blt d n = true) (hk:Ops X n dr ops base (i + 1) l (set e d v) σ K):Ops X n dr ops base i (⟨some d,.extract x j,t,p,af,none⟩ :: l) e σ K:=.extract hx hj hd hk
theorem Ops.ld (v:PV) {id ver off:Nat} {te:TypeId} {cells:List PV} (H:Has σ lo hi L) (k:Nat) (hk:L[k]? = some (.blk id te cells)) (hv:cells.length = ver) (hx:Z0 X e x = some (.ptr id ver off)) (hg:tagg X.P t1 = some false) (hc:cells[off]? = some v) (ha:dr = true→Seen ops base i id false) (hd:Nat.blt d n = true) (hk':Ops X n dr ops base (i + 1) l (set e d v) σ K):Ops X n dr ops base i (⟨some d,.load t1 x,t,p,af,none⟩ :: l) e σ K:=.loadH H k hk hv hx hg hc ha hd hk'
end
theorem sk {α:Type} {a b:α} (h:some a = some b):b = a:=(Option.some.inj h).symm
theorem V {α:Sort _} {a:α}:a = a:=rfl
theorem U:True:=trivial
theorem Has.wk {σ:Heap} {lo hi:Nat} {L:List Res} (H:Has σ lo hi L) {lo':Nat} (h:lo≤lo'):Has σ lo' hi L:=H.weak h (Y9 _)
theorem sj {α:Type} {a b:α} (h:some a = some b):a = b:=Option.some.inj h
theorem Zl {n:Int} {r:Bound} (h:Z1 n = r):Fn CX 62 [(vi n)] (.agg (vs (Bound.cs r))):=by
 refine Fn.go Try.func62 V fun σ H => ?_;unfold Z1 at h;refine .tR 1 V H fun b1 σ H => (.Z1q (cs:=[(.v (.int .i8 0)),(vi 0)]) H (by omega) (by omega) V V fun σ H => (.nila H fun H => (.tR 3 V H fun b2 σ H => (.mV V (.bV [(.v (.int .i8 0)),(vi n)] V (.sV [(.v (.int .i8 0)),(vi n)] H 0 V fun σ H => (.nila H fun H => (.ret ?_))))))));subst h;exact (Ends.H (xs:=[(.agg [(.v (.int .i8 0)),(vi n)])]) (.inr V) H (.agg (cs:=[(.v (.int .i8 0)),(vi n)]) 0 V V V V V V V .nil) (.one (.p V)))
theorem Z4k {x':Int} {y:Int} {r:Int × Int} (h:Zv x' y = r):Fn CX 49 [(vu x'),(vu y)] (.tup [(vu r.1),(vu r.2)]):=by
 refine Fn.go Try.func49 V fun σ H => ?_;unfold Zv at h;refine .tR 2 V H fun b1 σ H => (.aV V (.aV V (.nila H fun H => (.tR 3 V H fun b2 σ H => (.mV V (.iV V (.aV V (.nila H fun H => ?_))))))));refine .tR 3 V H fun b3 σ H => (.mV V (.shr (m:=x') (m':=32) V V (by decide) V (.aV V (.nila H fun H => (.tR 3 V H fun b4 σ H => (.mV V (.iV V (.aV V ?_))))))));refine .nila H fun H => (.tR 3 V H fun b5 σ H => (.mV V (.shr (m:=y) (m':=32) V V (by decide) V (.aV V (.nila H fun H => (.tR 4 V H fun b6 σ H => (.mV V (.mV V ?_))))))));refine .iV V (.aV V (.nila H fun H => (.tR 7 V H fun b7 σ H => (.mV V (.mV V (.iV V (.mV V (.shr (m:=(IntKind.u64.wrap ((iAnd .u64 x' 4294967295) * (iAnd .u64 y 4294967295)))) (m':=32) V V (by decide) V ?_))))))));refine .iV V (.aV V (.nila H fun H => (.tR 3 V H fun b8 σ H => (.mV V (.iV V (.aV V (.nila H fun H => (.tR 3 V H fun b9 σ H => ?_))))))));refine .mV V (.shr (m:=(IntKind.u64.wrap ((IntKind.u64.wrap ((x'.fdiv (2 ^ 32)) * (iAnd .u64 y 4294967295))) + ((IntKind.u64.wrap ((iAnd .u64 x' 4294967295) * (iAnd .u64 y 4294967295))).fdiv (2 ^ 32))))) (m':=32) V V (by decide) V (.aV V (.nila H fun H => (.tR 6 V H fun b10 σ H => (.mV V (.mV V (.mV V (.iV V ?_))))))));refine .iV V (.aV V (.nila H fun H => (.tR 9 V H fun b11 σ H => (.mV V (.mV V (.iV V (.mV V (.iV V ?_))))))));refine .mV V (.shr (m:=(IntKind.u64.wrap ((iAnd .u64 (IntKind.u64.wrap ((IntKind.u64.wrap ((x'.fdiv (2 ^ 32)) * (iAnd .u64 y 4294967295))) + ((IntKind.u64.wrap ((iAnd .u64 x' 4294967295) * (iAnd .u64 y 4294967295))).fdiv (2 ^ 32)))) 4294967295) + (IntKind.u64.wrap ((iAnd .u64 x' 4294967295) * (y.fdiv (2 ^ 32))))))) (m':=32) V V (by decide) V (.iV V (.aV V (.nila H fun H => (.tR 4 V H fun b12 σ H => (.mV V (.mV V (.iV V ?_))))))))
 refine .aV V (.nila H fun H => (.ret ?_));subst h;exact Ends.eR V
theorem Z5d {x':Int} {y:Int} {r:Int × Int} (h:ZJ x' y = r):Fn CX 75 [(vu x'),(vu y)] (.tup [(vu r.1),(vu r.2)]):=by
 refine Fn.go Try.func75 V fun σ H => ?_;unfold ZJ at h;refine .tR 2 V H fun b1 σ H => (.aV V (.aV V (.nila H fun H => (.then (.no V (.skip (.tR 8 V H fun b2 σ H => (.mV V ?_))))))));refine .mV V (.cV (Z4k V) V (.m1 (.tup [(vu (Zv x' y).1),(vu (Zv x' y).2)]) V V (.xV V (.xV V (.aV V (.aV V (.nila H fun H => (.tR 4 V H fun b3 σ H => ?_))))))));refine .mV V (.mV V (.aV V (.aV V (.nila H fun H => (.ret ?_)))));subst h;exact Ends.eR V
theorem Z2H {x':(List Bound)} {count:Int} {r:(List Bound)} (h:ZD x' count = some r):FnO CX 63 [(vl Bound.cs x'),(vi count)] (fun q A => ∃ (w1:PV),w1 = q∧A = [.sl w1 32 2 (r.map Bound.cs) true]):=by
 refine FnO.of Try.func63 V V V V V V ?_;intro σ T H;unfold ZD at h;refine .tR 1 V H fun b1 σ H => (.a1 .nils V V (.nila H fun H => (.then (.tR 2 V H fun b2 σ H => (.mV V (.iV V (.nila H fun H => ?_)))))));refine .wh h V ?_ ?_ <;> intro h
 ·cases h
 refine .skip (.tR 11 V H fun b3 σ H => (.mV V (.nV V (.conv (m:=(x'.length:Int)) V V V V (.mV V (.conv (m:=count) V V V V (.cV (Z5d V) V (.m1 (.tup [(vu (ZJ (IntKind.u64.wrap (x'.length:Int)) (IntKind.u64.wrap count)).1),(vu (ZJ (IntKind.u64.wrap (x'.length:Int)) (IntKind.u64.wrap count)).2)]) V V ?_))))))));refine .xV V (.xV V (.aV V (.aV V (.nila H fun H => (.then (.tR 6 V H fun b4 σ H => (.mV V (.iV V ?_))))))));refine .mV V ?_;refine .md H 3 [(26,(vb ((decide (((ZJ (IntKind.u64.wrap (x'.length:Int)) (IntKind.u64.wrap count)).1) > 0)) || (decide (((ZJ (IntKind.u64.wrap (x'.length:Int)) (IntKind.u64.wrap count)).2) > 9223372036854775807))))),(0,(vl Bound.cs x')),(6,(vu (ZJ (IntKind.u64.wrap (x'.length:Int)) (IntKind.u64.wrap count)).2))] (T) rfl ?_ fun e σ H => ?_
 ·refine .split V V ?_ ?_ <;> intro hc2
  ·refine .ps 2 V (.kT V (.nil ?_));exact ⟨⟨or_T hc2,V,V,U⟩,H.wk (by omega)⟩
  ·refine .mV V (.iV V (.kF V (.nil ?_)));exact ⟨⟨or_F hc2,V,V,U⟩,H.wk (by omega)⟩
 refine .nila H fun H => ?_;refine .wh h V ?_ ?_ <;> intro h
 ·cases h
 refine .skip (.tR 4 V H fun b5 σ H => (.mV V (.conv (m:=(ZJ (IntKind.u64.wrap (x'.length:Int)) (IntKind.u64.wrap count)).2) V V V V ?_)));obtain ⟨x1,q1,h⟩:=bs h;refine .makeS (zs:=[(.int .i8 0),(.int .i64 0)]) (cc:=Bound.cs) H (by omega) (by omega) V V q1 V V V V V V V fun σ H => (.aB V (.nila H fun H => (.tR 4 V H fun b6 σ H => (.mB V (.mV V (.copyS (c:=Bound.cs) (w:=(vl Bound.cs x')) (xs:=x1) (ys:=x') H 0 V V V V (.m (fun _ => V)) V V nofun V fun σ H => (.aV V (.nila H fun H => ?_))))))));refine .then (.inBlock ?_);refine .lp h (fun s1 => [(7,(.buf (b5 + 2) ((w64 ((ZJ (IntKind.u64.wrap (x'.length:Int)) (IntKind.u64.wrap count)).2))).toNat 2)),(8,(vi s1.1))]) (fun s1 => (.sl (.buf (b5 + 2) ((w64 ((ZJ (IntKind.u64.wrap (x'.length:Int)) (IntKind.u64.wrap count)).2))).toNat 2) 32 2 (s1.2.map Bound.cs) true :: T)) (.exit 0) (fun y1 => [(7,(.buf (b5 + 2) ((w64 ((ZJ (IntKind.u64.wrap (x'.length:Int)) (IntKind.u64.wrap count)).2))).toNat 2))]) (fun y1 => (.sl (.buf (b5 + 2) ((w64 ((ZJ (IntKind.u64.wrap (x'.length:Int)) (IntKind.u64.wrap count)).2))).toNat 2) 32 2 (y1.map Bound.cs) true :: T)) (EI V) H (fun s1 e σ H z h => ?_) fun y1 e σ H h => ?_
 ·unfold ZD.s0 at h;refine .then (.tR 4 V H fun b7 σ H => (.mV V (.mB V (.lenSt (c:=Bound.cs) (xs:=s1.2) H 0 V V V nofun V (.iV V (.nila H fun H => ?_))))));refine .wh h V ?_ ?_ <;> intro h
  ·refine .skip (.inBlock (.Z1l 10 V (by kernel_rfl) H fun b8 σ H B8 => (.mV V (.mB V (.mV V ?_)))));obtain ⟨u1,q2,h⟩:=bs h;refine .viewA V V (cutA q2).1 (cutA q2).2 V V V V (.mB V (.mV V ?_));obtain ⟨u2,q3,h⟩:=bs h;refine .viewB V V (cutB q3).1 (cutB q3).2 V V V V (.copyW (c:=Bound.cs) (xs:=s1.2) (a:=(s1.1).toNat) (m:=((w64 ((ZJ (IntKind.u64.wrap (x'.length:Int)) (IntKind.u64.wrap count)).2))).toNat) H 0 V V V (win_le q3) V V (fun _ => .inl ⟨B8 0 _ V _ V,(fun _ => by kernel_rfl),nofun⟩) V fun σ H => (.iV V (.aV V (.nila H fun H => ?_))));obtain rfl:=sj h;exact ⟨V,EI V,H⟩
  refine .exit ?_;obtain rfl:=sj h;exact ⟨nofun,⟨V,EI V,H⟩⟩
 refine .tR 2 V H fun b9 σ H => (.mB V (.aB V (.nila H fun H => (.ret ?_))));obtain rfl:=sj h;exact ⟨.inr V,_,Z1p H (.tmp (v:=(.buf (b5 + 2) ((w64 ((ZJ (IntKind.u64.wrap (x'.length:Int)) (IntKind.u64.wrap count)).2))).toNat 2)) V .nil),_,⟨(.buf (b5 + 2) ((w64 ((ZJ (IntKind.u64.wrap (x'.length:Int)) (IntKind.u64.wrap count)).2))).toNat 2),V,V⟩,H⟩
theorem Z4p {n:Int} {r:(List (List Bound)) × Int} (h:Z0B n = some r):Fn CX 36 [(vi n)] (.tup [(vl (cL Bound.cs) r.1),(vi r.2)]):=by
 refine Fn.go Try.func36 V fun σ H => ?_;unfold Z0B at h;refine .tR 2 V H fun b1 σ H => (.a1 .nils V V (.aV V (.nila H fun H => (.then (.tR 6 V H fun b2 σ H => (.mV V (.iV V (.mV V ?_))))))));refine .md H 3 [(11,(vb ((decide (n < 0)) || (decide (n > 24))))),(0,(vi n))] [] rfl ?_ fun e σ H => ?_
 ·refine .split V V ?_ ?_ <;> intro hc1
  ·refine .ps 2 V (.kT V (.nil ?_));exact ⟨⟨or_T hc1,V,U⟩,H.wk (by omega)⟩
  ·refine .mV V (.iV V (.kF V (.nil ?_)));exact ⟨⟨or_F hc1,V,U⟩,H.wk (by omega)⟩
 refine .nila H fun H => ?_;refine .wh h V ?_ ?_ <;> intro h
 ·refine .tR 2 V H fun b3 σ H => (.a1 .nils V V (.aV V (.nila H fun H => (.ret ?_))));obtain rfl:=sj h;exact (Ends.H (xs:=[.nils,(vi 2)]) (.inr V) H (.tmp (v:=.nils) V (.tmp (v:=(vi 2)) V .nil)) (.two (.cons (.c .n) (.cons (.c (.v _)) .nil))))
 refine .skip (.tR 3 V H fun b4 σ H => (.mV V ?_));obtain ⟨x1,q1,h⟩:=bs h;obtain ⟨hn1,hr1,hx1⟩:=new?_some q1;refine .makeM H (by omega) (by omega) V V hn1 hr1 V V V V V V fun σ H => ?_;have hMs1:(List.replicate (n).toNat PV.nils).length = x1.length:=by rw [hx1,Y06,Y06]
 have hNs1:(List.replicate (n).toNat PV.nils).length = (n).toNat:=Y06;replace H:=Has.nilFam (c:=Bound.cs) (rt:=32) (sz:=2) (T:=[]) [.blk (b4 + 1) 43 (List.replicate (n).toNat PV.nils)] H (n).toNat;rw [← hx1] at H;replace H:Has σ _ _ (.blk (b4 + 1) 43 (List.replicate (n).toNat PV.nils) :: (famL 32 2 Bound.cs (List.replicate (n).toNat PV.nils) x1 ++ [])):=H;refine .aB V (.nila H fun H => (.then (.tR 2 V H fun b5 σ H => (.mV V (.mV V (.nila H fun H => (.inBlock ?_)))))));obtain ⟨y1,hj1,h⟩:=bs h;obtain ⟨n1,hj1⟩:=ZS.1 hj1;refine .mono (Runs.loopO hj1 (fun s1 e σ => ∃ (ids3:List PV),ids3.length = s1.2.length∧ids3.length = (n).toNat∧ZE e [(0,(vi n)),(4,(.buf (b4 + 1) ((n).toNat) 1)),(14,(vi n)),(15,(vi s1.1))]∧Hs σ (.blk (b4 + 1) 43 ids3 :: (famL 32 2 Bound.cs ids3 s1.2 ++ []))) (fun y1 x e σ => ∃ (ids4:List PV),ids4.length = y1.length∧ids4.length = (n).toNat∧x = .exit 0∧ZE e [(4,(.buf (b4 + 1) ((n).toNat) 1))]∧Hs σ (.blk (b4 + 1) 43 ids4 :: (famL 32 2 Bound.cs ids4 y1 ++ []))) ⟨(List.replicate (n).toNat PV.nils),hMs1,hNs1,EI V,H⟩ ?_) ?_
 ·intro s1 e σ hI z h;obtain ⟨ids3,hMids3,hNids3,he,H⟩:=hI;obtain ⟨e,rfl⟩:=he.ex;unfold Z0B.s0 at h;refine .tR 1 V H fun b6 σ H => (.iV V (.nila H fun H => (.then ?_)));refine .wh h V ?_ ?_ <;> intro h
  ·refine .skip (.then (.inBlock (.tR 2 V H fun b7 σ H => (.mV V (.aV V (.nila H fun H => (.tR 8 V H fun b8 σ H => (.mB V ?_))))))));refine .mV V (.bV [(.v (.int .i8 1)),(vi 0)] V (.Z2O (sz:=2) ([(Bound.mk 1 0)].map Bound.cs) H (by omega) (by omega) V V V V V V V V V fun σ H => (.mV V ?_)));obtain ⟨x2,q2,h⟩:=bs h;refine .callFOX (xs:=[(.buf (b8 + 3) 1 2),(vi n)]) (ys:=[(vl Bound.cs [(Bound.mk 1 0)]),(vi n)]) H rfl (.cons (.c (.s 0 rfl)) (.cons (.c (.v _)) .nil)) (Z2H q2) rfl rfl rfl rfl nofun rfl ?_;rintro _ _ σ ⟨w1,rfl,rfl⟩ H;obtain ⟨x3,q3,h⟩:=bs h;obtain ⟨v1,hv1,hr2⟩:=Z2q (rt:=32) (sz:=2) (c:=Bound.cs) hMids3 q3;refine .Z29 H 2 V hNids3 V V (at?_nn q3) (hNids3 ▸ Z1Z hv1) V V nofun V ?_;have hw1:=Z1Z hv1;refine .storeH (v:=w1) (ys:=[w1]) (cells':=(ids3.set (s1.1).toNat w1)) H 2 V hNids3 V V (H.slCells (k:=0) V) V V (Nat.ble_eq_true_of_le hw1) (Z6c hw1) nofun fun σ H => ?_;have hMs2:(ids3.set (s1.1).toNat w1).length = (s1.2.set (s1.1).toNat x2).length:=by rw [Yf,Yf];exact hMids3
   have hNs2:(ids3.set (s1.1).toNat w1).length = (n).toNat:=by rw [Yf];exact hNids3
   replace H:Has σ _ _ (.sl (.buf (b8 + 3) 1 2) 32 2 ([(Bound.mk 1 0)].map Bound.cs) false :: .blk (b4 + 1) 43 (ids3.set (s1.1).toNat w1) :: (famL 32 2 Bound.cs (ids3.set (s1.1).toNat w1) (s1.2.set (s1.1).toNat x2) ++ [])):=H.rowPut (k:=2) rfl hMids3 hw1;refine .nila H fun H => (.Za 8 V H fun b9 σ H => (.mB V (.mV V ?_)));obtain ⟨x4,q4,h⟩:=bs h;obtain ⟨v2,hv2,hr3⟩:=Z2q (rt:=32) (sz:=2) (c:=Bound.cs) hMs2 q4;refine .Z29 H 1 V hNs2 V V (at?_nn q4) (hNs2 ▸ Z1Z hv2) V V nofun V ?_;refine .ld v2 H 1 V hNs2 V V hv2 nofun V (.mV V (.bV [(.v (.int .i8 0)),(vi 0)] V ?_));obtain ⟨x5,q5,h⟩:=bs h;refine .Z1n H (2 + (s1.1).toNat) (Z0Z 2 V hr3) V V (at?_map q5) V V nofun V ?_;intro id1 hv3;refine .Z3g (id:=id1) (j:=0) (zs:=[(.int .i8 0),(.int .i64 0)]) (u:=x5) (u':=(Bound.mk 0 0)) H (2 + (s1.1).toNat) (Z0Z 2 V hr3) hv3 (by simp) q5 V (by simp) V V V V V V nofun fun σ H => ?_;have hMs3:(ids3.set (s1.1).toNat w1).length = ((s1.2.set (s1.1).toNat x2).set (s1.1).toNat (x4.set (s1.1).toNat (Bound.mk 0 0))).length:=hMs2.trans (Yf ..).symm;replace H:Has σ _ _ (.sl (.buf (b8 + 3) 1 2) 32 2 ([(Bound.mk 1 0)].map Bound.cs) false :: .blk (b4 + 1) 43 (ids3.set (s1.1).toNat w1) :: (famL 32 2 Bound.cs (ids3.set (s1.1).toNat w1) ((s1.2.set (s1.1).toNat x2).set (s1.1).toNat (x4.set (s1.1).toNat (Bound.mk 0 0))) ++ [])):=H.famSet (k:=2) rfl hMs2 hv2;refine .nila H fun H => (.Za 2 V H fun b10 σ H => (.iV V (.mV V (.nila H fun H => ?_))))
   obtain rfl:=sj h;exact ⟨V,(ids3.set (s1.1).toNat w1),hMs3,hNs2,EI V,(H.erase 0)⟩
  refine .exit ?_;obtain rfl:=sj h;exact ⟨nofun,⟨ids3,hMids3,hNids3,V,EI V,H⟩⟩
 ·rintro x e σ ⟨ids5,hMids5,hNids5,rfl,he,H⟩;obtain ⟨e,rfl⟩:=he.ex;refine .tR 3 V H fun b11 σ H => (.mB V (.aB V (.aV V (.nila H fun H => (.ret ?_)))));obtain rfl:=sj h;exact (Ends.M (c:=Bound.cs) (T:=[]) (.inr V) H 0 V V hMids5 hNids5 (Z1p H (.tmp (v:=(.buf (b4 + 1) ((n).toNat) 1)) V (.tmp (v:=(vi 0)) V .nil))) V V)
theorem Z1a {s:(List (List Bound))} {f:(List Bound)→Option Bool} {C:List Res} {cv0:PV} (hs0:cv0.one = true) (hp0:cv0.pure = true→C = []) (hf0:∀ z0 y,f z0 = some y→CloH CX cv0 [(vl Bound.cs z0)] (vb y) C) {r:Int} (h:Z3 s f = some r):FnH CX 76 [(vl (cL Bound.cs) s),cv0] (vi r) C:=by
 refine FnH.of Try.func76 V V V V (all_t V (all_t (Z4D hs0) all_nil)) V (fun h => hp0 (Z5F h 1 V)) ?_;intro σ L hC H;unfold Z3 at h;refine .tR 1 V H fun b1 σ H => (.aV V (.nila H fun H => (.then (.tR 3 V H fun b2 σ H => (.mV V (.nV V (.mV V (.nila H fun H => ?_))))))));refine .inBlock ?_;obtain ⟨y1,hj1,h⟩:=bs h;obtain ⟨n1,hj1⟩:=ZS.1 hj1;refine .mono (Runs.loopO hj1 (fun s1 e σ => ZE e [(0,(vl (cL Bound.cs) s)),(1,cv0),(7,(vi (s.length:Int))),(8,(vi s1))]∧Hs σ (L)) (fun y1 x e σ => (∃ a1,y1 = (.go a1)∧x = .exit 0∧ZE e []∧Hs σ (L))∨(∃ r',y1 = (.ret r')∧x = .ret∧EndsH CX Try.f76.results.toList (vi r') L x e σ)) ⟨EI V,H⟩ ?_) ?_
 ·intro s1 e σ hI z h;obtain ⟨he,H⟩:=hI;obtain ⟨e,rfl⟩:=he.ex;unfold Z3.s0 at h;refine .tR 1 V H fun b3 σ H => (.iV V (.nila H fun H => (.then ?_)));refine .wh h V ?_ ?_ <;> intro h
  ·refine .skip (.then (.inBlock (.tR 2 V H fun b4 σ H => (.mV V (.aV V (.nila H fun H => (.tR 6 V H fun b5 σ H => (.m1 cv0 V V ?_))))))));refine .mV V (.mV V ?_);obtain ⟨x1,q1,h⟩:=bs h;refine .jV q1 V (.pV V ?_);obtain ⟨x2,q2,h⟩:=bs h;refine .callV (cv:=cv0) (ys:=[(vl Bound.cs x1)]) (r:=(vb x2)) H V V (hf0 x1 _ q2) hC nofun V fun σ H => (.nila H fun H => ?_);refine .wh h V ?_ ?_ <;> intro h
   ·refine .tR 2 V H fun b6 σ H => (.mV V (.aV V (.nila H fun H => (.ret ?_))));obtain rfl:=sj h;exact ⟨nofun,(.inr ⟨_,V,V,(EndsH.H (xs:=[(vi s1)]) (.inr V) H (.tmp (v:=(vi s1)) V .nil) (.one (.c (.v _))) 0 V)⟩)⟩
   refine .skip (.Za 2 V H fun b7 σ H => (.iV V (.mV V (.nila H fun H => ?_))));obtain rfl:=sj h;exact ⟨V,EI V,H⟩
  refine .exit ?_;obtain rfl:=sj h;exact ⟨nofun,(.inl ⟨_,V,V,U,H⟩)⟩
 ·rintro x e σ (⟨a2,rfl,rfl,he,H⟩ | ⟨r',rfl,rfl,hE⟩)
  ·replace h:=jgo h;obtain ⟨e,rfl⟩:=he.ex;refine .tR 1 V H fun b8 σ H => (.aV V (.nila H fun H => (.ret ?_)));obtain rfl:=sj h;exact (EndsH.H (xs:=[(vi (-1))]) (.inr V) H (.tmp (v:=(vi (-1))) V .nil) (.one (.c (.v _))) 0 V)
  ·replace h:=jret h;obtain rfl:=sj h;exact hE
theorem Z1H {s:(List (List Bound))} {f:(List Bound)→Option Bool} {C:List Res} {cv0:PV} (hs0:cv0.one = true) (hp0:cv0.pure = true→C = []) (hf0:∀ z0 y,f z0 = some y→CloH CX cv0 [(vl Bound.cs z0)] (vb y) C) {r:Bool} (h:ZA s f = some r):FnH CX 66 [(vl (cL Bound.cs) s),cv0] (vb r) C:=by
 refine FnH.of Try.func66 V V V V (all_t V (all_t (Z4D hs0) all_nil)) V (fun h => hp0 (Z5F h 1 V)) ?_;intro σ L hC H;unfold ZA at h;refine .tR 1 V H fun b1 σ H => (.aV V (.nila H fun H => (.tR 5 V H fun b2 σ H => (.mV V (.m1 cv0 V V ?_)))));obtain ⟨x1,q1,h⟩:=bs h;refine .callH (ys:=[(vl (cL Bound.cs) s),cv0]) (r:=(vi x1)) H V (Z1a (C:=C) hs0 hp0 hf0 q1) hC nofun V fun σ H => (.iV V (.aV V (.nila H fun H => (.ret ?_))));obtain rfl:=sj h;exact (EndsH.H (xs:=[(vb (decide (x1 ≥ 0)))]) (.inr V) H (.tmp (v:=(vb (decide (x1 ≥ 0)))) V .nil) (.one (.c (.v _))) 0 V)
theorem Z1s {s:(List Bound)} {f:Bound→Option Bool} {C:List Res} {cv0:PV} (hs0:cv0.one = true) (hp0:cv0.pure = true→C = []) (hf0:∀ z0 y,f z0 = some y→CloH CX cv0 [(.agg (vs (Bound.cs z0)))] (vb y) C) {r:Int} (h:Z5 s f = some r):FnH CX 77 [(vl Bound.cs s),cv0] (vi r) C:=by
 refine FnH.of Try.func77 V V V V (all_t V (all_t (Z4D hs0) all_nil)) V (fun h => hp0 (Z5F h 1 V)) ?_;intro σ L hC H;unfold Z5 at h;refine .tR 1 V H fun b1 σ H => (.aV V (.nila H fun H => (.then (.tR 3 V H fun b2 σ H => (.mV V (.nV V (.mV V (.nila H fun H => ?_))))))));refine .inBlock ?_;obtain ⟨y1,hj1,h⟩:=bs h;obtain ⟨n1,hj1⟩:=ZS.1 hj1;refine .mono (Runs.loopO hj1 (fun s1 e σ => ZE e [(0,(vl Bound.cs s)),(1,cv0),(7,(vi (s.length:Int))),(8,(vi s1))]∧Hs σ (L)) (fun y1 x e σ => (∃ a1,y1 = (.go a1)∧x = .exit 0∧ZE e []∧Hs σ (L))∨(∃ r',y1 = (.ret r')∧x = .ret∧EndsH CX Try.f77.results.toList (vi r') L x e σ)) ⟨EI V,H⟩ ?_) ?_
 ·intro s1 e σ hI z h;obtain ⟨he,H⟩:=hI;obtain ⟨e,rfl⟩:=he.ex;unfold Z5.s0 at h;refine .tR 1 V H fun b3 σ H => (.iV V (.nila H fun H => (.then ?_)));refine .wh h V ?_ ?_ <;> intro h
  ·refine .skip (.then (.inBlock (.tR 2 V H fun b4 σ H => (.mV V (.aV V (.nila H fun H => (.tR 6 V H fun b5 σ H => (.m1 cv0 V V ?_))))))));refine .mV V (.mV V ?_);obtain ⟨x1,q1,h⟩:=bs h;refine .jV q1 V (.qV [(.int .i8 x1.Inf),(.int .i64 x1.N)] V ?_);obtain ⟨x2,q2,h⟩:=bs h;refine .callV (cv:=cv0) (ys:=[(.agg (vs (Bound.cs x1)))]) (r:=(vb x2)) H V V (hf0 x1 _ q2) hC nofun V fun σ H => (.nila H fun H => ?_);refine .wh h V ?_ ?_ <;> intro h
   ·refine .tR 2 V H fun b6 σ H => (.mV V (.aV V (.nila H fun H => (.ret ?_))));obtain rfl:=sj h;exact ⟨nofun,(.inr ⟨_,V,V,(EndsH.H (xs:=[(vi s1)]) (.inr V) H (.tmp (v:=(vi s1)) V .nil) (.one (.c (.v _))) 0 V)⟩)⟩
   refine .skip (.Za 2 V H fun b7 σ H => (.iV V (.mV V (.nila H fun H => ?_))));obtain rfl:=sj h;exact ⟨V,EI V,H⟩
  refine .exit ?_;obtain rfl:=sj h;exact ⟨nofun,(.inl ⟨_,V,V,U,H⟩)⟩
 ·rintro x e σ (⟨a2,rfl,rfl,he,H⟩ | ⟨r',rfl,rfl,hE⟩)
  ·replace h:=jgo h;obtain ⟨e,rfl⟩:=he.ex;refine .tR 1 V H fun b8 σ H => (.aV V (.nila H fun H => (.ret ?_)));obtain rfl:=sj h;exact (EndsH.H (xs:=[(vi (-1))]) (.inr V) H (.tmp (v:=(vi (-1))) V .nil) (.one (.c (.v _))) 0 V)
  ·replace h:=jret h;obtain rfl:=sj h;exact hE
theorem Z1Q {s:(List Bound)} {f:Bound→Option Bool} {C:List Res} {cv0:PV} (hs0:cv0.one = true) (hp0:cv0.pure = true→C = []) (hf0:∀ z0 y,f z0 = some y→CloH CX cv0 [(.agg (vs (Bound.cs z0)))] (vb y) C) {r:Bool} (h:ZF s f = some r):FnH CX 68 [(vl Bound.cs s),cv0] (vb r) C:=by
 refine FnH.of Try.func68 V V V V (all_t V (all_t (Z4D hs0) all_nil)) V (fun h => hp0 (Z5F h 1 V)) ?_;intro σ L hC H;unfold ZF at h;refine .tR 1 V H fun b1 σ H => (.aV V (.nila H fun H => (.tR 5 V H fun b2 σ H => (.mV V (.m1 cv0 V V ?_)))));obtain ⟨x1,q1,h⟩:=bs h;refine .callH (ys:=[(vl Bound.cs s),cv0]) (r:=(vi x1)) H V (Z1s (C:=C) hs0 hp0 hf0 q1) hC nofun V fun σ H => (.iV V (.aV V (.nila H fun H => (.ret ?_))));obtain rfl:=sj h;exact (EndsH.H (xs:=[(vb (decide (x1 ≥ 0)))]) (.inr V) H (.tmp (v:=(vb (decide (x1 ≥ 0)))) V .nil) (.one (.c (.v _))) 0 V)
theorem Z1R {a:Bound} {r:Bool} (h:ZZ a = r):Fn CX 31 [(.agg (vs (Bound.cs a)))] (vb r):=by
 refine Fn.go Try.func31 V fun σ H => ?_;unfold ZZ at h;refine .tR 2 V H fun b1 σ H => (.boxH (cs:=[(.v (.int .i8 a.Inf)),(vi a.N)]) H (by omega) (by omega) V V V fun σ H => (.aV V (.nila H fun H => (.tR 19 V H fun b2 σ H => (.fV H 0 V (.lV H 0 V (.iV V (.mV V ?_))))))));refine .md H 14 [(20,(vb ((a.Inf == 0) || (((a.Inf == 1) || (a.Inf == (-1))) && (a.N == 0)))))] [] rfl ?_ fun e σ H => ?_
 ·refine .split V V ?_ ?_ <;> intro hc1
  ·refine .ps 13 V (.kT V (.nil ?_));exact ⟨⟨or_T hc1,U⟩,(H.erase 0).wk (by omega)⟩
  ·refine .fV H 0 V (.lV H 0 V (.iV V (.mV V ?_)));refine .md H 4 [(14,(vb ((a.Inf == 1) || (a.Inf == (-1))))),(1,(.ptr (b1 + 0) 2 0)),(6,(vb false))] [.blk (b1 + 0) 32 [(.v (.int .i8 a.Inf)),(vi a.N)]] rfl ?_ fun e σ H => ?_
   ·refine .split V V ?_ ?_ <;> intro hc2
    ·refine .ps 3 V (.kT V (.nil ?_));exact ⟨⟨or_T hc2,V,V,U⟩,H.wk (by omega)⟩
    ·refine .fV H 0 V (.lV H 0 V (.iV V (.kF V (.nil ?_))));exact ⟨⟨or_F hc2,V,V,U⟩,H.wk (by omega)⟩
   refine .mV V ?_;refine .md H 4 [(19,(vb (((a.Inf == 1) || (a.Inf == (-1))) && (a.N == 0)))),(6,(vb false))] [] rfl ?_ fun e σ H => ?_
   ·refine .split V V ?_ ?_ <;> intro hc3
    ·refine .fV H 0 V (.lV H 0 V (.iV V (.kT V (.nil ?_))));exact ⟨⟨Z13 hc3,V,U⟩,(H.erase 0).wk (by omega)⟩
    ·refine .ps 3 V (.kF V (.nil ?_));exact ⟨⟨Z11 hc3,V,U⟩,(H.erase 0).wk (by omega)⟩
   refine .kF V (.nil ?_);exact ⟨⟨or_F hc1,U⟩,H.wk (by omega)⟩
 refine .aV V (.nila H fun H => (.ret ?_));subst h;exact Ends.eR V
theorem Z6N {b:Bound} {r:Bool} (h:Z01 b = r):Fn CX 65 [(.agg (vs (Bound.cs b)))] (vb r):=by
 refine Fn.go Try.func65 V fun σ H => ?_;unfold Z01 at h;refine .tR 2 V H fun b1 σ H => (.boxH (cs:=[(.v (.int .i8 b.Inf)),(vi b.N)]) H (by omega) (by omega) V V V fun σ H => (.aV V (.nila H fun H => (.tR 18 V H fun b2 σ H => (.LV [(.v (.int .i8 b.Inf)),(vi b.N)] H 0 V (.cV (Z1R (V:ZZ b = _)) V (.mV V ?_)))))));refine .md H 4 [(9,(vb ((ZZ b) && (decide (b.Inf ≥ 0))))),(1,(.ptr (b1 + 0) 2 0))] [.blk (b1 + 0) 32 [(.v (.int .i8 b.Inf)),(vi b.N)]] V ?_ fun e σ H => ?_
 ·refine .split V V ?_ ?_ <;> intro hc1
  ·refine .fV H 0 V (.lV H 0 V (.iV V (.kT V (.nil ?_))));exact ⟨⟨Z13 hc1,V,U⟩,H.wk (by omega)⟩
  ·refine .ps 3 V (.kF V (.nil ?_));exact ⟨⟨Z11 hc1,V,U⟩,H.wk (by omega)⟩
 refine .mV V ?_;refine .md H 4 [(14,(vb (((ZZ b) && (decide (b.Inf ≥ 0))) && (decide (b.N ≥ (-1125899906842624)))))),(1,(.ptr (b1 + 0) 2 0))] [.blk (b1 + 0) 32 [(.v (.int .i8 b.Inf)),(vi b.N)]] V ?_ fun e σ H => ?_
 ·refine .split V V ?_ ?_ <;> intro hc2
  ·refine .fV H 0 V (.lV H 0 V (.iV V (.kT V (.nil ?_))));exact ⟨⟨Z13 hc2,V,U⟩,H.wk (by omega)⟩
  ·refine .ps 3 V (.kF V (.nil ?_));exact ⟨⟨Z11 hc2,V,U⟩,H.wk (by omega)⟩
 refine .mV V ?_;refine .md H 4 [(19,(vb ((((ZZ b) && (decide (b.Inf ≥ 0))) && (decide (b.N ≥ (-1125899906842624)))) && (decide (b.N≤1125899906842624)))))] [] V ?_ fun e σ H => ?_
 ·refine .split V V ?_ ?_ <;> intro hc3
  ·refine .fV H 0 V (.lV H 0 V (.iV V (.kT V (.nil ?_))));exact ⟨⟨Z13 hc3,U⟩,(H.erase 0).wk (by omega)⟩
  ·refine .ps 3 V (.kF V (.nil ?_));exact ⟨⟨Z11 hc3,U⟩,(H.erase 0).wk (by omega)⟩
 refine .aV V (.nila H fun H => (.ret ?_));subst h;exact Ends.eR V
theorem Z6v {b:Bound} {r:Bool} (h:Z0z b = r):Fn CX 64 [(.agg (vs (Bound.cs b)))] (vb r):=by
 refine Fn.go Try.func64 V fun σ H => ?_;unfold Z0z at h;refine .tR 2 V H fun b1 σ H => (.boxH (cs:=[(.v (.int .i8 b.Inf)),(vi b.N)]) H (by omega) (by omega) V V V fun σ H => (.aV V (.nila H fun H => (.tR 4 V H fun b2 σ H => (.LV [(.v (.int .i8 b.Inf)),(vi b.N)] H 0 V (.cV (Z6N (V:Z01 b = _)) V (.tV V (.aV V ?_))))))));refine .nila H fun H => (.ret ?_);subst h;exact Ends.eR V
theorem Z6S {row:(List Bound)} {p1':Int} {id0':Nat} {id1':Nat} {r:Bool} (h:Z0i row p1' = some r):FnH CX 67 [(vl Bound.cs row),(.ptr id0' 1 0),(.ptr id1' 1 0)] (vb r) [.blk id0' 3 [(vi p1')],.blk id1' 36 [(.v (.fn 64))]]:=by
 refine FnH.of Try.func67 V V V V V V (fun h => by have:=Z5F h 1 V;cases this) ?_;intro σ L hC H;have hC0:=hC;obtain ⟨k0',hk0',hC⟩:=hC.inv;obtain ⟨k1',hk1',hC⟩:=hC.inv;unfold Z0i at h;refine .tR 1 V H fun b1 σ H => (.aV V (.nila H fun H => (.tR 10 V H fun b2 σ H => (.mV V (.nV V (.ld (vi p1') H k0' hk0' V V V V nofun V (.iV V (.mV V ?_))))))));obtain ⟨y1,hj1,h⟩:=bs h;refine .md H 4 [(13,(vb y1))] (L) V ?_ fun e σ H => ?_
 ·refine .sp hj1 V ?_ ?_ <;> intro h
  ·refine .ps 3 V (.kT V (.nil ?_));obtain rfl:=sj h;exact ⟨EI V,H.wk (by omega)⟩
  refine .mV V (.wt V V (.ld (.v (.fn 64)) H k1' hk1' V V V V nofun V (.wt V V ?_)));obtain ⟨x1,q1,h⟩:=bs h;refine .callH (ys:=[(vl Bound.cs row),(.v (.fn 64))]) (r:=(vb x1)) H V (Z1Q (C:=[]) V (fun _ => V) (fun z0 y hz => (CloH.fn (Fn.toH (Z6v (Option.some.inj hz)) _))) q1) .nil nofun V fun σ H => (.kF V (.nil ?_));obtain rfl:=sj h;exact ⟨EI V,H.wk (by omega)⟩
 refine .aV V (.nila H fun H => (.ret ?_));obtain rfl:=sj h;exact (EndsH.H (xs:=[(vb y1)]) (.inr V) H (.tmp (v:=(vb y1)) V .nil) (.one (.c (.v _))) 0 V)
theorem Z2W {d:(List (List Bound))} {r:Bool} (h:Z0K d = some r):Fn CX 38 [(vl (cL Bound.cs) d)] (vb r):=by
 refine Fn.go Try.func38 V fun σ H => ?_;unfold Z0K at h;refine .tR 1 V H fun b1 σ H => (.aV V (.nila H fun H => (.tR 4 V H fun b2 σ H => (.mV V (.nV V (.Z1q (cs:=[(vi 0)]) H (by omega) (by omega) V V fun σ H => (.sV [(vi (d.length:Int))] H 0 V fun σ H => (.nila H fun H => ?_))))))));refine .tR 2 V H fun b3 σ H => (.Z1q (cs:=[(.v .nilf)]) H (by omega) (by omega) V V fun σ H => (.sV [(.v (.fn 64))] H 0 V fun σ H => (.nila H fun H => (.tR 9 V H fun b4 σ H => (.lV H 1 V (.iV V (.mV V ?_)))))));obtain ⟨y1,hj1,h⟩:=bs h;refine .md H 5 [(14,(vb y1))] [] V ?_ fun e σ H => ?_
 ·refine .sp hj1 V ?_ ?_ <;> intro h
  ·refine .mV V (.wt V V (.makeClo (fs:=[]) (cs:=[(.ptr (b2 + 2) 1 0),(.ptr (b3 + 0) 1 0)]) V V V V (.wt V V ?_)));obtain ⟨x1,q1,h⟩:=bs h;refine .callH (ys:=[(vl (cL Bound.cs) d),(.clo 67 [] [(.ptr (b2 + 2) 1 0),(.ptr (b3 + 0) 1 0)])]) (r:=(vb x1)) H V (Z1H (C:=[.blk (b2 + 2) 3 [(vi (d.length:Int))],.blk (b3 + 0) 36 [(.v (.fn 64))]]) V (fun h => by simp [PV.pure] at h) (fun z0 y hz => (CloH.clo (Z6S hz))) q1) (.cons 1 V (.cons 0 V .nil)) nofun V fun σ H => (.tV V (.kT V (.nil ?_)));obtain rfl:=sj h;exact ⟨EI V,((H.erase 1).erase 0).wk (by omega)⟩
  refine .ps 4 V (.kF V (.nil ?_));obtain rfl:=sj h;exact ⟨EI V,((H.erase 1).erase 0).wk (by omega)⟩
 refine .aV V (.nila H fun H => (.ret ?_));obtain rfl:=sj h;exact Ends.eR V
theorem Z27 {s:(List (List Bound))} {r:(List (List Bound))} (h:Z0X s = some r):FnO CX 78 [(vl (cL Bound.cs) s)] (fun q A => ∃ (w2:PV),w2 = q∧A = [.sl w2 43 1 (r.map (cL Bound.cs)) true]):=by
 refine FnO.of Try.func78 V V V V V V ?_;intro σ T H;unfold Z0X at h;refine .tR 1 V H fun b1 σ H => (.a1 .nils V V (.nila H fun H => (.then (.tR 2 V H fun b2 σ H => (.mV V ?_)))));obtain ⟨u1,q1,h⟩:=bs h;refine .isNilV (c:=(cL Bound.cs)) q1 V V V V (.nila H fun H => (.no V (.skip (.tR 4 V H fun b3 σ H => (.Z2O (sz:=1) ([].map (cL Bound.cs)) H (by omega) (by omega) V V V V V V V V V fun σ H => (.mV V ?_))))));obtain ⟨x1,q2,h⟩:=bs h;refine .appendBt (c:=(cL Bound.cs)) (w:=(vl (cL Bound.cs) s)) (xs:=[]) (ys:=s) H (by omega) (by omega) 0 V V V (.m (fun _ => V)) q2 V V V V V nofun V fun σ H => (.aB V (.nila H fun H => (.ret ?_)));obtain rfl:=sj h;exact ⟨.inr V,_,Z1p H (.tmp (v:=(.buf (b3 + 0) x1.length 1)) V .nil),_,⟨(.buf (b3 + 0) x1.length 1),V,V⟩,H⟩
theorem Z2M {s:(List Bound)} {r:(List Bound)} (h:Z0h s = some r):FnO CX 79 [(vl Bound.cs s)] (fun q A => ∃ (w2:PV),w2 = q∧A = [.sl w2 32 2 (r.map Bound.cs) true]):=by
 refine FnO.of Try.func79 V V V V V V ?_;intro σ T H;unfold Z0h at h;refine .tR 1 V H fun b1 σ H => (.a1 .nils V V (.nila H fun H => (.then (.tR 2 V H fun b2 σ H => (.mV V ?_)))));obtain ⟨u1,q1,h⟩:=bs h;refine .isNilV (c:=Bound.cs) q1 V V V V (.nila H fun H => (.no V (.skip (.tR 4 V H fun b3 σ H => (.Z2O (sz:=2) ([].map Bound.cs) H (by omega) (by omega) V V V V V V V V V fun σ H => (.mV V ?_))))));obtain ⟨x1,q2,h⟩:=bs h;refine .appendBt (c:=Bound.cs) (w:=(vl Bound.cs s)) (xs:=[]) (ys:=s) H (by omega) (by omega) 0 V V V (.m (fun _ => V)) q2 V V V V V nofun V fun σ H => (.aB V (.nila H fun H => (.ret ?_)));obtain rfl:=sj h;exact ⟨.inr V,_,Z1p H (.tmp (v:=(.buf (b3 + 0) x1.length 2)) V .nil),_,⟨(.buf (b3 + 0) x1.length 2),V,V⟩,H⟩
theorem ownOK {d r:(List (List Bound))} (h:Z2Z d = some r):(∃ u,some? d = some u)∧d.length * 24≤room∧(∀ q ∈ d,(∃ u,some? q = some u)∧q.length * 16≤room)∧r = d:=by
 unfold Z2Z at h;have ne:∀ {α:Type} {l:List α},l.isEmpty = false→∃ u,some? l = some u:=fun {α l} h => match l,h with | _ :: _,_ => ⟨(),rfl⟩;cases hc:(!d.isEmpty && decide (d.length * 24≤room) && d.all fun q => !q.isEmpty && decide (q.length * 16≤room)) with
 | false => rw [hc] at h;cases h
 | true =>
  rw [hc] at h;cases h;simp only [Y7,YR,decide_eq_true_eq,YC] at hc;exact ⟨ne hc.1.1,hc.1.2,fun q hq => ⟨ne (hc.2 q hq).1,(hc.2 q hq).2⟩,V⟩
theorem Z6O {d:(List (List Bound))} {r:(List (List Bound))} (h:Z2Z d = some r):FnO CX 69 [(vl (cL Bound.cs) d)] (fun q A => ∃ (id:Nat) (ids:List PV),ids.length = r.length∧ids.length = d.length∧q = (.buf id d.length 1)∧A = (.blk id 43 ids :: famL 32 2 Bound.cs ids r)):=by
 obtain ⟨⟨u,hu⟩,hroom,hrows,rfl⟩:=ownOK h;refine FnO.of Try.func69 V V V V V V ?_;intro σ T H;refine .tR 1 V H fun b1 σ H => (.a1 .nils V V (.nila H fun H => (.tR 3 V H fun b2 σ H => (.mV V ?_))));refine .callFO (ys:=[(vl (cL Bound.cs) r)]) H rfl (Z27 (r:=r) (by unfold Z0X app?;rw [hu,Y0,if_pos (by simpa using hroom)];rfl)) nofun rfl ?_;rintro _ _ σ ⟨w1,rfl,rfl⟩ H;obtain ⟨id,hw,H2⟩:=H.toMat hu;subst hw;replace H:=H2;clear H2;refine .aB V (.nila H fun H => (.then (.tR 3 V H fun b3 σ H => (.mB V (.lenM H 0 V (YH _) V V nofun V (.mV V (.nila H fun H => (.inBlock ?_))))))));refine .mono (Runs.loop (Q:=fun x e σ => x = .exit 0∧∃ ids:List PV,ids.length = r.length∧ZE e [(3,.buf id r.length 1)]∧Hs σ (.blk id 43 ids :: (famL 32 2 Bound.cs ids r ++ T))) (fun m e σ => ∃ (k:Nat) (ids:List PV),k + m = r.length∧ids.length = k∧ZE e [(3,.buf id r.length 1),(8,.v (.int .i64 r.length)),(9,.v (.int .i64 (k:Int)))]∧Hs σ (.blk id 43 (ids ++ (r.drop k).map fun q => PV.v (.sl (q.map Bound.cs))) :: (famL 32 2 Bound.cs ids (r.take k) ++ T))) (m:=r.length) ⟨0,[],by omega,V,EI V,H⟩ ?_) ?_
 ·rintro m e σ ⟨k,ids,hkm,hk,he,H⟩;obtain ⟨e,rfl⟩:=he.ex;refine .tR 1 V H fun b4 σ H => (.iV V (.nila H fun H => (.then ?_)));refine .whether (v:=(decide ((k:Int) < (r.length:Int)))) V ?_ ?_ <;> intro hc1
  ·have hlt:k < r.length:=by simpa using hc1
   refine .skip (.then (.inBlock (.tR 2 V H fun b5 σ H => (.mV V (.aV V (.nila H fun H => (.Za 9 V H fun b6 σ H => ?_)))))));have hcl:(ids ++ (r.drop k).map fun q => PV.v (.sl (q.map Bound.cs))).length = r.length:=by simp;omega
   refine .mB V (.mV V (.mB V (.mV V (.Z29 H 0 V hcl V V (by omega) (by omega) V V nofun V ?_))));have hcell:(ids ++ (r.drop k).map fun q => PV.v (.sl (q.map Bound.cs)))[((k:Int)).toNat]? = some (vl Bound.cs r[k]):=by
    rw [YK,YN (by omega),hk,Nat.sub_self,YJ,YZ,Y0j,Y5 hlt];rfl
   refine .ld (.v (.sl (r[k].map Bound.cs))) H 0 V hcl V V hcell nofun V ?_;obtain ⟨⟨u2,hu2⟩,hr2⟩:=hrows r[k] (Yj hlt);refine .callFO (ys:=[(vl Bound.cs r[k])]) H rfl (Z2M (r:=r[k]) (by unfold Z0h app?;rw [hu2,Y0,if_pos (by simpa using hr2)];rfl)) nofun rfl ?_;rintro _ _ σ ⟨w2,rfl,rfl⟩ H;refine .Z29 H 1 V hcl V V (by omega) (by omega) V V nofun V ?_;have hb:((k:Int)).toNat + 1≤(ids ++ (r.drop k).map fun q => PV.v (.sl (q.map Bound.cs))).length:=by rw [hcl,YK];omega
   refine .storeH (m:=1) (off:=((k:Int)).toNat) (v:=w2) (ys:=[w2]) (cells':=(ids ++ (r.drop k).map fun q => PV.v (.sl (q.map Bound.cs))).set ((k:Int)).toNat w2) H 1 V hcl V V (H.slCells (k:=0) V) V V (Nat.ble_eq_true_of_le hb) (Z6c (Nat.lt_of_succ_le hb)) nofun fun σ H => ?_;replace H:=H.ownRow hk hlt;refine .nila H fun H => (.Za 2 V H fun b7 σ H => (.iV V (.mV V (.nila H fun H => ?_))));refine ⟨m - 1,by omega,k + 1,ids ++ [w2],by omega,by simp [hk],⟨V,V,?_,U⟩,H⟩
   show PV.v (.int .i64 (w64 ((k:Int) + 1))) = _
   have:w64 ((k:Int) + 1) = ((k + 1:Nat):Int):=by
    have h64:r.length * 24≤140737488355328:=hroom
    show IntKind.i64.wrap _ = _
    rw [wrap_small (by omega) (by omega)];push_cast;rfl
   rw [this]
  ·have hnl:¬ (k:Int) < (r.length:Int):=by simpa using hc1
   have hge:k = r.length:=by omega
   refine .exit ?_;subst hge;rw [List.take_length,List.drop_length,List.map_nil,YE] at H;exact ⟨V,ids,hk,EI V,H⟩
 ·rintro x e σ ⟨rfl,ids,hids,he,H⟩;obtain ⟨e,rfl⟩:=he.ex;refine .tR 2 V H fun b9 σ H => (.mB V (.aB V (.nila H fun H => (.ret ?_))));exact ⟨.inr V,_,Z1p H (.tmp (v:=(.buf id r.length 1)) V .nil),_,⟨id,ids,hids,hids,V,V⟩,H⟩
theorem Z2T {a:Bound} {b:Bound} {r:Bool} (h:Z0I a b = r):Fn CX 33 [(.agg (vs (Bound.cs a))),(.agg (vs (Bound.cs b)))] (vb r):=by
 refine Fn.go Try.func33 V fun σ H => ?_;unfold Z0I at h;refine .tR 3 V H fun b1 σ H => (.boxH (cs:=[(.v (.int .i8 a.Inf)),(vi a.N)]) H (by omega) (by omega) V V V fun σ H => (.boxH (cs:=[(.v (.int .i8 b.Inf)),(vi b.N)]) H (by omega) (by omega) V V V fun σ H => (.aV V (.nila H fun H => (.then (.inBlock (.tR 9 V H fun b2 σ H => (.LV [(.v (.int .i8 a.Inf)),(vi a.N)] H 1 V ?_))))))));refine .cV (Z1R (V:ZZ a = _)) V (.tV V (.mV V ?_));refine .md H 4 [(13,(vb ((!(ZZ a)) || (!(ZZ b))))),(2,(.ptr (b1 + 0) 2 0)),(3,(.ptr (b1 + 1) 2 0))] [.blk (b1 + 1) 32 [(.v (.int .i8 b.Inf)),(vi b.N)],.blk (b1 + 0) 32 [(.v (.int .i8 a.Inf)),(vi a.N)]] rfl ?_ fun e σ H => ?_
 ·refine .split V V ?_ ?_ <;> intro hc1
  ·refine .ps 3 V (.kT V (.nil ?_));exact ⟨⟨or_T hc1,V,V,U⟩,H.wk (by omega)⟩
  ·refine .LV [(.v (.int .i8 b.Inf)),(vi b.N)] H 0 V (.cV (Z1R (V:ZZ b = _)) V (.tV V (.kF V (.nil ?_))));exact ⟨⟨or_F hc1,V,V,U⟩,H.wk (by omega)⟩
 refine .aV V (.nila H fun H => ?_);refine .wh h V ?_ ?_ <;> intro h
 ·refine .tR 1 V H fun b3 σ H => (.aV V (.nila H fun H => (.ret ?_)));subst h;exact Ends.eR V
 refine .tR 6 V H fun b4 σ H => (.fV H 1 V (.lV H 1 V (.fV H 0 V (.lV H 0 V (.iV V (.aV V (.nila H fun H => ?_)))))));refine .wh h V ?_ ?_ <;> intro h
 ·refine .tR 6 V H fun b5 σ H => (.fV H 1 V (.lV H 1 V (.fV H 0 V (.lV H 0 V (.iV V (.aV V (.nila H fun H => (.ret ?_))))))));subst h;exact Ends.eR V
 refine .skip (.tR 6 V H fun b6 σ H => (.fV H 1 V (.lV H 1 V (.fV H 0 V (.lV H 0 V (.iV V (.aV V (.nila H fun H => ?_))))))));refine .ret ?_;subst h;exact Ends.eR V
theorem Z6P {d:(List (List Bound))} {i:Int} {j:Int} {most:Bound} {r:(List (List Bound)) × Int} (h:Z1u d i j most = some r):Fn CX 41 [(vl (cL Bound.cs) d),(vi i),(vi j),(.agg (vs (Bound.cs most)))] (.tup [(vl (cL Bound.cs) r.1),(vi r.2)]):=by
 refine Fn.go Try.func41 V fun σ H => ?_;unfold Z1u at h;refine .tR 3 V H fun b1 σ H => (.boxH (cs:=[(.v (.int .i8 most.Inf)),(vi most.N)]) H (by omega) (by omega) V V V fun σ H => (.a1 .nils V V (.aV V (.nila H fun H => (.then (.tR 28 V H fun b2 σ H => (.mV V ?_)))))));obtain ⟨x1,q1,h⟩:=bs h;refine .cV (Z2W q1) V (.tV V (.mV V ?_));refine .md H 3 [(17,(vb ((!x1) || (decide (i < 0))))),(0,(vl (cL Bound.cs) d)),(1,(vi i)),(2,(vi j)),(7,(.ptr (b1 + 0) 2 0))] [.blk (b1 + 0) 32 [(.v (.int .i8 most.Inf)),(vi most.N)]] rfl ?_ fun e σ H => ?_
 ·refine .split V V ?_ ?_ <;> intro hc1
  ·refine .ps 2 V (.kT V (.nil ?_));exact ⟨⟨or_T hc1,V,V,V,V,U⟩,H.wk (by omega)⟩
  ·refine .mV V (.iV V (.kF V (.nil ?_)));exact ⟨⟨or_F hc1,V,V,V,V,U⟩,H.wk (by omega)⟩
 refine .mV V ?_;refine .md H 3 [(21,(vb (((!x1) || (decide (i < 0))) || (decide (j < 0))))),(0,(vl (cL Bound.cs) d)),(1,(vi i)),(2,(vi j)),(7,(.ptr (b1 + 0) 2 0))] [.blk (b1 + 0) 32 [(.v (.int .i8 most.Inf)),(vi most.N)]] rfl ?_ fun e σ H => ?_
 ·refine .split V V ?_ ?_ <;> intro hc2
  ·refine .ps 2 V (.kT V (.nil ?_));exact ⟨⟨or_T hc2,V,V,V,V,U⟩,H.wk (by omega)⟩
  ·refine .mV V (.iV V (.kF V (.nil ?_)));exact ⟨⟨or_F hc2,V,V,V,V,U⟩,H.wk (by omega)⟩
 refine .mV V ?_;refine .md H 5 [(27,(vb ((((!x1) || (decide (i < 0))) || (decide (j < 0))) || (decide (i ≥ (d.length:Int)))))),(0,(vl (cL Bound.cs) d)),(1,(vi i)),(2,(vi j)),(7,(.ptr (b1 + 0) 2 0))] [.blk (b1 + 0) 32 [(.v (.int .i8 most.Inf)),(vi most.N)]] rfl ?_ fun e σ H => ?_
 ·refine .split V V ?_ ?_ <;> intro hc3
  ·refine .ps 4 V (.kT V (.nil ?_));exact ⟨⟨or_T hc3,V,V,V,V,U⟩,H.wk (by omega)⟩
  ·refine .mV V (.mV V (.nV V (.iV V (.kF V (.nil ?_)))));exact ⟨⟨or_F hc3,V,V,V,V,U⟩,H.wk (by omega)⟩
 refine .mV V ?_;refine .md H 5 [(33,(vb (((((!x1) || (decide (i < 0))) || (decide (j < 0))) || (decide (i ≥ (d.length:Int)))) || (decide (j ≥ (d.length:Int)))))),(0,(vl (cL Bound.cs) d)),(1,(vi i)),(2,(vi j)),(7,(.ptr (b1 + 0) 2 0))] [.blk (b1 + 0) 32 [(.v (.int .i8 most.Inf)),(vi most.N)]] rfl ?_ fun e σ H => ?_
 ·refine .split V V ?_ ?_ <;> intro hc4
  ·refine .ps 4 V (.kT V (.nil ?_));exact ⟨⟨or_T hc4,V,V,V,V,U⟩,H.wk (by omega)⟩
  ·refine .mV V (.mV V (.nV V (.iV V (.kF V (.nil ?_)))));exact ⟨⟨or_F hc4,V,V,V,V,U⟩,H.wk (by omega)⟩
 refine .mV V ?_;refine .md H 4 [(38,(vb ((((((!x1) || (decide (i < 0))) || (decide (j < 0))) || (decide (i ≥ (d.length:Int)))) || (decide (j ≥ (d.length:Int)))) || (!(Z01 most))))),(0,(vl (cL Bound.cs) d)),(1,(vi i)),(2,(vi j)),(7,(.ptr (b1 + 0) 2 0))] [.blk (b1 + 0) 32 [(.v (.int .i8 most.Inf)),(vi most.N)]] rfl ?_ fun e σ H => ?_
 ·refine .split V V ?_ ?_ <;> intro hc5
  ·refine .ps 3 V (.kT V (.nil ?_));exact ⟨⟨or_T hc5,V,V,V,V,U⟩,H.wk (by omega)⟩
  ·refine .LV [(.v (.int .i8 most.Inf)),(vi most.N)] H 0 V (.cV (Z6N (V:Z01 most = _)) V (.tV V (.kF V (.nil ?_))));exact ⟨⟨or_F hc5,V,V,V,V,U⟩,H.wk (by omega)⟩
 refine .nila H fun H => ?_;refine .wh h V ?_ ?_ <;> intro h
 ·refine .tR 2 V H fun b3 σ H => (.a1 .nils V V (.aV V (.nila H fun H => (.ret ?_))));obtain rfl:=sj h;exact (Ends.H (xs:=[.nils,(vi 2)]) (.inr V) H (.tmp (v:=.nils) V (.tmp (v:=(vi 2)) V .nil)) (.two (.cons (.c .n) (.cons (.c (.v _)) .nil))))
 refine .skip (.tR 3 V H fun b4 σ H => (.mV V ?_));obtain ⟨x2,q2,h⟩:=bs h;refine .callFO (ys:=[(vl (cL Bound.cs) d)]) H rfl (Z6O q2) nofun rfl ?_;rintro _ _ σ ⟨id1,ids1,hMids1,hNids1,rfl,rfl⟩ H;replace H:Has σ _ _ (.blk (b1 + 0) 32 [(.v (.int .i8 most.Inf)),(vi most.N)] :: .blk id1 43 ids1 :: (famL 32 2 Bound.cs ids1 x2 ++ [])):=Has.matLast (M:=.blk id1 43 ids1 :: famL 32 2 Bound.cs ids1 x2) [.blk (b1 + 0) 32 [(.v (.int .i8 most.Inf)),(vi most.N)]] H;refine .aB V (.nila H fun H => (.then ?_));obtain ⟨y1,hj1,h⟩:=bs h;refine .mono (Q:=fun x e σ => ∃ (ids2:List PV),ids2.length = y1.length∧ids2.length = d.length∧x = .normal∧ZE e [(10,(.buf id1 d.length 1))]∧Hs σ (.blk id1 43 ids2 :: (famL 32 2 Bound.cs ids2 y1 ++ []))) ?_ ?_
 ·replace h:=hj1;refine .then (.Z1l 9 V (by kernel_rfl) H fun b5 σ H B5 => (.Z5r (cs:=[(.v (.int .i8 most.Inf)),(vi most.N)]) H 0 V V V V V V V (fun _ => .inl ⟨B5 0 _ V _ V,nofun,(fun _ => by kernel_rfl)⟩) V (.mB V (.mV V ?_))));obtain ⟨x3,q3,h⟩:=bs h;obtain ⟨v1,hv1,hr1⟩:=Z2q (rt:=32) (sz:=2) (c:=Bound.cs) hMids1 q3;refine .Z29 H 1 V hNids1 V V (at?_nn q3) (hNids1 ▸ Z1Z hv1) V V (fun _ => .inl ⟨B5 1 _ V _ V,nofun,(fun _ => by kernel_rfl)⟩) V ?_;refine .ld v1 H 1 V hNids1 V V hv1 (fun _ => .inl ⟨B5 1 _ V _ V,nofun,(fun _ => by kernel_rfl)⟩) V (.mV V ?_);obtain ⟨x4,q4,h⟩:=bs h;refine .Z1n H (2 + (i).toNat) (Z0Z 2 V hr1) V V (at?_map q4) V V (fun _ id ho => .inl ⟨B5 (2 + (i).toNat) _ (Z0Z 2 V hr1) id ho,nofun,(fun _ => by kernel_rfl)⟩) V ?_;intro id2 hv2;refine .Z5h (id:=id2) H (2 + (i).toNat) (Z0Z 2 V hr1) hv2 (by simp) (at?_map q4) V V V V (fun _ => .inl ⟨B5 (2 + (i).toNat) _ (Z0Z 2 V hr1) _ (by rw [(hv2:(v1:PV) = _)];rfl),nofun,(fun _ => by kernel_rfl)⟩) V ?_;refine .cV (Z2T (V:Z0I most x4 = _)) V (.nila H fun H => ?_);refine .wh h V ?_ ?_ <;> intro h
  ·refine .Z1l 8 V (by kernel_rfl) H fun b6 σ H B6 => (.mB V (.mV V ?_));obtain ⟨x5,q5,h⟩:=bs h;obtain ⟨v2,hv3,hr2⟩:=Z2q (rt:=32) (sz:=2) (c:=Bound.cs) hMids1 q5;refine .Z29 H 1 V hNids1 V V (at?_nn q5) (hNids1 ▸ Z1Z hv3) V V (fun _ => .inl ⟨B6 1 _ V _ V,nofun,(fun _ => by kernel_rfl)⟩) V ?_;refine .ld v2 H 1 V hNids1 V V hv3 (fun _ => .inl ⟨B6 1 _ V _ V,nofun,(fun _ => by kernel_rfl)⟩) V (.mV V (.Z5r (cs:=[(.v (.int .i8 most.Inf)),(vi most.N)]) H 0 V V V V V V V (fun _ => .inl ⟨B6 0 _ V _ V,nofun,(fun _ => by kernel_rfl)⟩) V ?_));obtain ⟨x6,q6,h⟩:=bs h;refine .Z1n H (2 + (i).toNat) (Z0Z 2 V hr2) V V (at?_map q6) V V (fun _ id ho => .inl ⟨B6 (2 + (i).toNat) _ (Z0Z 2 V hr2) id ho,nofun,(fun _ => by kernel_rfl)⟩) V ?_;intro id3 hv4;refine .Z3g (id:=id3) (j:=0) (zs:=[(.int .i8 most.Inf),(.int .i64 most.N)]) (u:=x6) (u':=most) H (2 + (i).toNat) (Z0Z 2 V hr2) hv4 (by simp) q6 V (by simp) V V V V V V (fun _ => .inl ⟨B6 (2 + (i).toNat) _ (Z0Z 2 V hr2) _ (by rw [(hv4:(v2:PV) = _)];rfl),(fun _ => by kernel_rfl),nofun⟩) fun σ H => ?_;have hMs1:ids1.length = (x2.set (i).toNat (x5.set (j).toNat most)).length:=hMids1.trans (Yf ..).symm;replace H:Has σ _ _ (.blk (b1 + 0) 32 [(.v (.int .i8 most.Inf)),(vi most.N)] :: .blk id1 43 ids1 :: (famL 32 2 Bound.cs ids1 (x2.set (i).toNat (x5.set (j).toNat most)) ++ [])):=H.famSet (k:=2) rfl hMids1 hv3;refine .nila H fun H => ?_;obtain rfl:=sj h
   exact ⟨ids1,hMs1,hNids1,V,EI V,(H.erase 0)⟩
  refine .skip ?_;obtain rfl:=sj h;exact ⟨ids1,hMids1,hNids1,V,EI V,(H.erase 0)⟩
 ·rintro x e σ ⟨ids3,hMids3,hNids3,rfl,he,H⟩;obtain ⟨e,rfl⟩:=he.ex;refine .tR 3 V H fun b7 σ H => (.mB V (.aB V (.aV V (.nila H fun H => (.ret ?_)))));obtain rfl:=sj h;exact (Ends.M (c:=Bound.cs) (T:=[]) (.inr V) H 0 V V hMids3 hNids3 (Z1p H (.tmp (v:=(.buf id1 d.length 1)) V (.tmp (v:=(vi 0)) V .nil))) V V)
theorem Z1O {n:Int} {l:(List epactlaw24_Set)} {r:(List (List Bound)) × Bool} (h:Ze n l = some r):Fn CX 61 [(vi n),(vl epactlaw24_Set.cs l)] (.tup [(vl (cL Bound.cs) r.1),(vb r.2)]):=by
 refine Fn.go Try.func61 V fun σ H => ?_;unfold Ze at h;refine .tR 2 V H fun b1 σ H => (.a1 .nils V V (.aV V (.nila H fun H => (.tR 7 V H fun b2 σ H => (.mV V ?_)))));obtain ⟨x1,q1,h⟩:=bs h;refine .cV (Z4p q1) V (.m1 (.tup [(vl (cL Bound.cs) x1.1),(vi x1.2)]) V V (.xV V (.xV V (.aV V (.aV V (.nila H fun H => (.then (.tR 3 V H fun b3 σ H => ?_))))))));refine .mV V (.nV V (.mV V (.nila H fun H => (.inBlock ?_))));refine .lp h (fun s1 => [(6,(vl (cL Bound.cs) s1.1)),(7,(vi s1.2.1)),(15,(vl epactlaw24_Set.cs l)),(16,(vi (l.length:Int))),(17,(vi s1.2.2))]) (fun s1 => []) (.exit 0) (fun y1 => [(6,(vl (cL Bound.cs) y1.1)),(7,(vi y1.2))]) (fun y1 => []) (EI V) H (fun s1 e σ H z h => ?_) fun y1 e σ H h => ?_
 ·unfold Ze.s0 at h;refine .tR 1 V H fun b4 σ H => (.iV V (.nila H fun H => (.then ?_)));refine .wh h V ?_ ?_ <;> intro h
  ·refine .skip (.then ?_);refine .jn h .normal (fun y2 => [(6,(vl (cL Bound.cs) y2.1)),(7,(vi y2.2)),(15,(vl epactlaw24_Set.cs l)),(16,(vi (l.length:Int))),(17,(vi s1.2.2))]) (fun y2 => []) (fun y2 h => ?_) fun y2 e σ H h => ?_
   ·refine .inBlock ?_;refine .jn h .normal (fun y3 => [(6,(vl (cL Bound.cs) y3.1)),(7,(vi y3.2)),(15,(vl epactlaw24_Set.cs l)),(16,(vi (l.length:Int))),(17,(vi s1.2.2))]) (fun y3 => []) (fun y3 h => ?_) fun y3 e σ H h => ?_
    ·refine .tR 4 V H fun b5 σ H => ?_;obtain ⟨x2,q2,h⟩:=bs h;refine .jV q2 V (.qV [(.int .i64 x2.I),(.int .i64 x2.J),(.int .i8 x2.Most.Inf),(.int .i64 x2.Most.N)] V (.Z1q (cs:=[(vi 0),(vi 0),(.v (.int .i8 0)),(vi 0)]) H (by omega) (by omega) V V fun σ H => (.sV [(vi x2.I),(vi x2.J),(.v (.int .i8 x2.Most.Inf)),(vi x2.Most.N)] H 0 V fun σ H => (.nila H fun H => (.tR 2 V H fun b6 σ H => (.mV V (.iV V (.nila H fun H => ?_))))))));refine .wh h V ?_ ?_ <;> intro h
     ·refine .Za 13 V H fun b7 σ H => (.mV V (.fV H 0 V (.lV H 0 V (.fV H 0 V (.lV H 0 V (.fV H 0 V (.LV [(.v (.int .i8 x2.Most.Inf)),(vi x2.Most.N)] H 0 V ?_)))))));obtain ⟨x3,q3,h⟩:=bs h;refine .cV (Z6P q3) V (.m1 (.tup [(vl (cL Bound.cs) x3.1),(vi x3.2)]) V V (.xV V (.xV V (.aV V (.aV V (.nila H fun H => ?_))))));obtain rfl:=sj h;exact ⟨V,EI V,(H.erase 0)⟩
     refine .skip ?_;obtain rfl:=sj h;exact ⟨V,EI V,(H.erase 0)⟩
    obtain rfl:=sj h;exact ⟨V,EI V,H⟩
   refine .Za 2 V H fun b8 σ H => (.iV V (.mV V (.nila H fun H => ?_)));obtain rfl:=sj h;exact ⟨V,EI V,H⟩
  refine .exit ?_;obtain rfl:=sj h;exact ⟨nofun,⟨V,EI V,H⟩⟩
 refine .tR 5 V H fun b9 σ H => (.mV V (.mV V (.iV V (.aV V (.aV V (.nila H fun H => (.ret ?_)))))));obtain rfl:=sj h;exact Ends.eR V
theorem safe_Add_fn {a:Int} {b:Int} {r:Int × Int} (h:Z0e a b = r):Fn CX 17 [(vi a),(vi b)] (.tup [(vi r.1),(vi r.2)]):=by
 refine Fn.go Try.func17 V fun σ H => ?_;unfold Z0e at h;refine .tR 2 V H fun b1 σ H => (.aV V (.aV V (.nila H fun H => (.tR 4 V H fun b2 σ H => (.mV V (.mV V (.iV V (.aV V ?_))))))));refine .nila H fun H => (.then (.tR 10 V H fun b3 σ H => (.mV V (.mV V (.iV V (.mV V (.iV V (.neB (b:=(decide ((w64 (a + b)) > a))) (b':=(decide (b > 0))) V V V V ?_))))))));refine .mV V ?_;refine .md H 3 [(19,(vb (((decide ((w64 (a + b)) > a)) != (decide (b > 0))) && (b != 0)))),(6,(vi (w64 (a + b))))] [] V ?_ fun e σ H => ?_
 ·refine .split V V ?_ ?_ <;> intro hc1
  ·refine .mV V (.iV V (.kT V (.nil ?_)));exact ⟨⟨Z13 hc1,V,U⟩,H.wk (by omega)⟩
  ·refine .ps 2 V (.kF V (.nil ?_));exact ⟨⟨Z11 hc1,V,U⟩,H.wk (by omega)⟩
 refine .nila H fun H => ?_;refine .wh h V ?_ ?_ <;> intro h
 ·refine .tR 2 V H fun b4 σ H => (.aV V (.aV V (.nila H fun H => (.ret ?_))));subst h;exact Ends.eR V
 refine .skip (.tR 3 V H fun b5 σ H => (.mV V (.aV V (.aV V (.nila H fun H => (.ret ?_))))));subst h;exact Ends.eR V
theorem safe_Sum_fn {a:Bound} {b:Bound} {r:Bound × Int} (h:Zj a b = r):Fn CX 27 [(.agg (vs (Bound.cs a))),(.agg (vs (Bound.cs b)))] (.tup [(.agg (vs (Bound.cs r.1))),(vi r.2)]):=by
 refine Fn.go Try.func27 V fun σ H => ?_;unfold Zj at h;refine .tR 4 V H fun b1 σ H => (.boxH (cs:=[(.v (.int .i8 a.Inf)),(vi a.N)]) H (by omega) (by omega) V V V fun σ H => (.boxH (cs:=[(.v (.int .i8 b.Inf)),(vi b.N)]) H (by omega) (by omega) V V V fun σ H => (.Z1q (cs:=[(.v (.int .i8 0)),(vi 0)]) H (by omega) (by omega) V V fun σ H => (.aV V (.nila H fun H => (.then (.inBlock (.tR 9 V H fun b2 σ H => ?_))))))));refine .LV [(.v (.int .i8 a.Inf)),(vi a.N)] H 2 V (.cV (Z1R (V:ZZ a = _)) V (.tV V (.mV V ?_)));refine .md H 4 [(16,(vb ((!(ZZ a)) || (!(ZZ b))))),(2,(.ptr (b1 + 0) 2 0)),(3,(.ptr (b1 + 1) 2 0)),(4,(.ptr (b1 + 2) 2 0))] [.blk (b1 + 2) 32 [(.v (.int .i8 0)),(vi 0)],.blk (b1 + 1) 32 [(.v (.int .i8 b.Inf)),(vi b.N)],.blk (b1 + 0) 32 [(.v (.int .i8 a.Inf)),(vi a.N)]] rfl ?_ fun e σ H => ?_
 ·refine .split V V ?_ ?_ <;> intro hc1
  ·refine .ps 3 V (.kT V (.nil ?_));exact ⟨⟨or_T hc1,V,V,V,U⟩,H.wk (by omega)⟩
  ·refine .LV [(.v (.int .i8 b.Inf)),(vi b.N)] H 1 V (.cV (Z1R (V:ZZ b = _)) V (.tV V (.kF V (.nil ?_))));exact ⟨⟨or_F hc1,V,V,V,U⟩,H.wk (by omega)⟩
 refine .aV V (.nila H fun H => ?_);refine .wh h V ?_ ?_ <;> intro h
 ·refine .tR 3 V H fun b3 σ H => (.bV [(.v (.int .i8 0)),(vi 0)] V (.sV [(.v (.int .i8 0)),(vi 0)] H 0 V fun σ H => (.aV V (.nila H fun H => (.ret ?_)))));subst h;exact (Ends.H (xs:=[(.agg [(.v (.int .i8 0)),(vi 0)]),(vi 2)]) (.inr V) H (.agg (cs:=[(.v (.int .i8 0)),(vi 0)]) 0 V V V V V V V (.tmp (v:=(vi 2)) V .nil)) (.two (.cons (.p V) (.cons (.c (.v _)) .nil))))
 refine .tR 16 V H fun b4 σ H => (.fV H 2 V (.lV H 2 V (.iV V (.mV V ?_))));refine .md H 4 [(26,(vb ((a.Inf != 0) && (b.Inf != 0)))),(2,(.ptr (b1 + 0) 2 0)),(3,(.ptr (b1 + 1) 2 0)),(4,(.ptr (b1 + 2) 2 0))] [.blk (b1 + 2) 32 [(.v (.int .i8 0)),(vi 0)],.blk (b1 + 1) 32 [(.v (.int .i8 b.Inf)),(vi b.N)],.blk (b1 + 0) 32 [(.v (.int .i8 a.Inf)),(vi a.N)]] V ?_ fun e σ H => ?_
 ·refine .split V V ?_ ?_ <;> intro hc3
  ·refine .fV H 1 V (.lV H 1 V (.iV V (.kT V (.nil ?_))));exact ⟨⟨Z13 hc3,V,V,V,U⟩,H.wk (by omega)⟩
  ·refine .ps 3 V (.kF V (.nil ?_));exact ⟨⟨Z11 hc3,V,V,V,U⟩,H.wk (by omega)⟩
 refine .mV V ?_;refine .md H 6 [(33,(vb (((a.Inf != 0) && (b.Inf != 0)) && (a.Inf != b.Inf)))),(2,(.ptr (b1 + 0) 2 0)),(3,(.ptr (b1 + 1) 2 0)),(4,(.ptr (b1 + 2) 2 0))] [.blk (b1 + 2) 32 [(.v (.int .i8 0)),(vi 0)],.blk (b1 + 1) 32 [(.v (.int .i8 b.Inf)),(vi b.N)],.blk (b1 + 0) 32 [(.v (.int .i8 a.Inf)),(vi a.N)]] V ?_ fun e σ H => ?_
 ·refine .split V V ?_ ?_ <;> intro hc4
  ·refine .fV H 2 V (.lV H 2 V (.fV H 1 V (.lV H 1 V (.iV V (.kT V (.nil ?_))))));exact ⟨⟨Z13 hc4,V,V,V,U⟩,H.wk (by omega)⟩
  ·refine .ps 5 V (.kF V (.nil ?_));exact ⟨⟨Z11 hc4,V,V,V,U⟩,H.wk (by omega)⟩
 refine .aV V (.nila H fun H => ?_);refine .wh h V ?_ ?_ <;> intro h
 ·refine .tR 3 V H fun b5 σ H => (.bV [(.v (.int .i8 0)),(vi 0)] V (.sV [(.v (.int .i8 0)),(vi 0)] H 0 V fun σ H => (.aV V (.nila H fun H => (.ret ?_)))));subst h;exact (Ends.H (xs:=[(.agg [(.v (.int .i8 0)),(vi 0)]),(vi 10)]) (.inr V) H (.agg (cs:=[(.v (.int .i8 0)),(vi 0)]) 0 V V V V V V V (.tmp (v:=(vi 10)) V .nil)) (.two (.cons (.p V) (.cons (.c (.v _)) .nil))))
 refine .tR 4 V H fun b6 σ H => (.fV H 2 V (.lV H 2 V (.iV V (.aV V (.nila H fun H => ?_)))));refine .wh h V ?_ ?_ <;> intro h
 ·refine .tR 3 V H fun b7 σ H => (.LV [(.v (.int .i8 a.Inf)),(vi a.N)] H 2 V (.sV [(.v (.int .i8 a.Inf)),(vi a.N)] H 0 V fun σ H => (.aV V (.nila H fun H => (.ret ?_)))));subst h;exact (Ends.H (xs:=[(.agg [(.v (.int .i8 a.Inf)),(vi a.N)]),(vi 0)]) (.inr V) H (.agg (cs:=[(.v (.int .i8 a.Inf)),(vi a.N)]) 0 V V V V V V V (.tmp (v:=(vi 0)) V .nil)) (.two (.cons (.p V) (.cons (.c (.v _)) .nil))))
 refine .tR 4 V H fun b8 σ H => (.fV H 1 V (.lV H 1 V (.iV V (.aV V (.nila H fun H => ?_)))));refine .wh h V ?_ ?_ <;> intro h
 ·refine .tR 3 V H fun b9 σ H => (.LV [(.v (.int .i8 b.Inf)),(vi b.N)] H 1 V (.sV [(.v (.int .i8 b.Inf)),(vi b.N)] H 0 V fun σ H => (.aV V (.nila H fun H => (.ret ?_)))));subst h;exact (Ends.H (xs:=[(.agg [(.v (.int .i8 b.Inf)),(vi b.N)]),(vi 0)]) (.inr V) H (.agg (cs:=[(.v (.int .i8 b.Inf)),(vi b.N)]) 0 V V V V V V V (.tmp (v:=(vi 0)) V .nil)) (.two (.cons (.p V) (.cons (.c (.v _)) .nil))))
 refine .skip (.tR 10 V H fun b10 σ H => (.fV H 2 V (.lV H 2 V (.fV H 1 V (.lV H 1 V (.cV (safe_Add_fn V) V (.m1 (.tup [(vi (Z0e a.N b.N).1),(vi (Z0e a.N b.N).2)]) V V (.xV V ?_))))))));refine .xV V (.aV V (.aV V (.nila H fun H => (.tR 5 V H fun b11 σ H => (.mV V (.bV [(.v (.int .i8 0)),(vi (Z0e a.N b.N).1)] V (.mV V (.sV [(.v (.int .i8 0)),(vi (Z0e a.N b.N).1)] H 0 V fun σ H => ?_))))))));refine .aV V (.nila H fun H => (.ret ?_));subst h;exact (Ends.H (xs:=[(.agg [(.v (.int .i8 0)),(vi (Z0e a.N b.N).1)]),(vi (Z0e a.N b.N).2)]) (.inr V) H (.agg (cs:=[(.v (.int .i8 0)),(vi (Z0e a.N b.N).1)]) 0 V V V V V V V (.tmp (v:=(vi (Z0e a.N b.N).2)) V .nil)) (.two (.cons (.p V) (.cons (.c (.v _)) .nil))))
end Go.Dn

namespace Go.Dn
open Go Go.Proofs
set_option maxRecDepth 100000
set_option maxHeartbeats 4000000
theorem stp_Close_fn {d:(List (List Bound))} {r:(List (List Bound)) × Bool × Int} (hne:CX.intr 44 [(vl (cL Bound.cs) d)] = none) (h:Z9 d = some r):Fn CX 44 [(vl (cL Bound.cs) d)] (.tup [(vl (cL Bound.cs) r.1),(vb r.2.1),(vi r.2.2)]):=by
 refine Fn.ends Try.func44 V hne V V V V ?_;have H:Hs (⟨0,fun _ => .none⟩ : Heap) []:=Has.nil (Y9 _)
 generalize (⟨0,fun _ => .none⟩ : Heap) = σ at H ⊢
 unfold Z9 at h;refine .tR 3 V H fun b1 σ H => (.a1 .nils V V (.aV V (.aV V (.nila H fun H => (.then (.tR 3 V H fun b2 σ H => (.mV V ?_)))))));obtain ⟨x1,q1,h⟩:=bs h;refine .cV (Z2W q1) V (.tV V (.nila H fun H => ?_));refine .wh h V ?_ ?_ <;> intro h
 ·refine .tR 3 V H fun b3 σ H => (.a1 .nils V V (.aV V (.aV V (.nila H fun H => (.ret ?_)))));obtain rfl:=sj h;exact (Ends.H (xs:=[.nils,(vb false),(vi 2)]) (.inr V) H (.tmp (v:=.nils) V (.tmp (v:=(vb false)) V (.tmp (v:=(vi 2)) V .nil))) (.two (.cons (.c .n) (.cons (.c (.v _)) (.cons (.c (.v _)) .nil)))))
 refine .skip (.tR 3 V H fun b4 σ H => (.mV V ?_));obtain ⟨x2,q2,h⟩:=bs h;refine .callFO (ys:=[(vl (cL Bound.cs) d)]) H rfl (Z6O q2) nofun rfl ?_;rintro _ _ σ ⟨id1,ids1,hMids1,hNids1,rfl,rfl⟩ H;replace H:Has σ _ _ (.blk id1 43 ids1 :: (famL 32 2 Bound.cs ids1 x2 ++ [])):=H;refine .aB V (.nila H fun H => (.then (.tR 3 V H fun b5 σ H => (.mB V (.lenM H 0 V hNids1 V V nofun V (.mV V (.nila H fun H => (.inBlock ?_))))))));obtain ⟨y1,hj1,h⟩:=bs h;obtain ⟨n1,hj1⟩:=ZS.1 hj1;refine .mono (Runs.loopO hj1 (fun s1 e σ => ∃ (ids4:List PV),ids4.length = s1.2.length∧ids4.length = d.length∧ZE e [(5,(.buf id1 d.length 1)),(14,(vi ((d.length:Nat):Int))),(15,(vi s1.1))]∧Hs σ (.blk id1 43 ids4 :: (famL 32 2 Bound.cs ids4 s1.2 ++ []))) (fun y1 x e σ => (∃ a1,∃ (ids5:List PV),ids5.length = a1.length∧ids5.length = d.length∧y1 = (.go a1)∧x = .exit 0∧ZE e [(5,(.buf id1 d.length 1))]∧Hs σ (.blk id1 43 ids5 :: (famL 32 2 Bound.cs ids5 a1 ++ [])))∨(∃ r',y1 = (.ret r')∧x = .ret∧Ends CX Try.f44.results.toList (.tup [(vl (cL Bound.cs) r'.1),(vb r'.2.1),(vi r'.2.2)]) x e σ)) ⟨ids1,hMids1,hNids1,EI V,H⟩ ?_) ?_
 ·intro s1 e σ hI z h;obtain ⟨ids4,hMids4,hNids4,he,H⟩:=hI;obtain ⟨e,rfl⟩:=he.ex;unfold Z9.s0 at h;refine .tR 1 V H fun b6 σ H => (.iV V (.nila H fun H => (.then ?_)));refine .wh h V ?_ ?_ <;> intro h
  ·refine .skip (.then (.inBlock (.tR 2 V H fun b7 σ H => (.mV V (.aV V (.nila H fun H => (.then (.tR 9 V H fun b8 σ H => ?_))))))));refine .mB V (.mV V ?_);obtain ⟨x3,q3,h⟩:=bs h;obtain ⟨v1,hv1,hr1⟩:=Z2q (rt:=32) (sz:=2) (c:=Bound.cs) hMids4 q3;refine .Z29 H 0 V hNids4 V V (at?_nn q3) (hNids4 ▸ Z1Z hv1) V V nofun V ?_;refine .ld v1 H 0 V hNids4 V V hv1 nofun V (.mV V ?_);obtain ⟨x4,q4,h⟩:=bs h;refine .Z1n H (1 + (s1.1).toNat) (Z0Z 1 V hr1) V V (at?_map q4) V V nofun V ?_;intro id2 hv2;refine .Z5h (id:=id2) H (1 + (s1.1).toNat) (Z0Z 1 V hr1) hv2 (by simp) (at?_map q4) V V V V nofun V ?_;refine .bV [(.v (.int .i8 0)),(vi 0)] V (.cV (Z2T (V:Z0I x4 (Bound.mk 0 0) = _)) V (.nila H fun H => ?_));refine .wh h V ?_ ?_ <;> intro h
   ·refine .tR 3 V H fun b9 σ H => (.a1 .nils V V (.aV V (.aV V (.nila H fun H => (.ret ?_)))));obtain rfl:=sj h;exact ⟨nofun,(.inr ⟨_,V,V,(Ends.H (xs:=[.nils,(vb false),(vi 0)]) (.inr V) H (.tmp (v:=.nils) V (.tmp (v:=(vb false)) V (.tmp (v:=(vi 0)) V .nil))) (.two (.cons (.c .n) (.cons (.c (.v _)) (.cons (.c (.v _)) .nil)))))⟩)⟩
   refine .skip (.Za 8 V H fun b10 σ H => (.mB V (.mV V ?_)));obtain ⟨x5,q5,h⟩:=bs h;obtain ⟨v2,hv3,hr2⟩:=Z2q (rt:=32) (sz:=2) (c:=Bound.cs) hMids4 q5;refine .Z29 H 0 V hNids4 V V (at?_nn q5) (hNids4 ▸ Z1Z hv3) V V nofun V ?_;refine .ld v2 H 0 V hNids4 V V hv3 nofun V (.mV V (.bV [(.v (.int .i8 0)),(vi 0)] V ?_));obtain ⟨x6,q6,h⟩:=bs h;refine .Z1n H (1 + (s1.1).toNat) (Z0Z 1 V hr2) V V (at?_map q6) V V nofun V ?_;intro id3 hv4;refine .Z3g (id:=id3) (j:=0) (zs:=[(.int .i8 0),(.int .i64 0)]) (u:=x6) (u':=(Bound.mk 0 0)) H (1 + (s1.1).toNat) (Z0Z 1 V hr2) hv4 (by simp) q6 V (by simp) V V V V V V nofun fun σ H => ?_;have hMs1:ids4.length = (s1.2.set (s1.1).toNat (x5.set (s1.1).toNat (Bound.mk 0 0))).length:=hMids4.trans (Yf ..).symm;replace H:Has σ _ _ (.blk id1 43 ids4 :: (famL 32 2 Bound.cs ids4 (s1.2.set (s1.1).toNat (x5.set (s1.1).toNat (Bound.mk 0 0))) ++ [])):=H.famSet (k:=1) rfl hMids4 hv3;refine .nila H fun H => (.Za 2 V H fun b11 σ H => (.iV V (.mV V (.nila H fun H => ?_))));obtain rfl:=sj h;exact ⟨V,ids4,hMs1,hNids4,EI V,H⟩
  refine .exit ?_;obtain rfl:=sj h;exact ⟨nofun,(.inl ⟨_,ids4,hMids4,hNids4,V,V,EI V,H⟩)⟩
 ·rintro x e σ (⟨a2,ids6,hMids6,hNids6,rfl,rfl,he,H⟩ | ⟨r',rfl,rfl,hE⟩)
  ·replace h:=jgo h;obtain ⟨e,rfl⟩:=he.ex;refine .then (.tR 3 V H fun b12 σ H => (.mB V (.lenM H 0 V hNids6 V V nofun V (.mV V (.nila H fun H => (.inBlock ?_))))));obtain ⟨y2,hj2,h⟩:=bs h;obtain ⟨n2,hj2⟩:=ZS.1 hj2;refine .mono (Runs.loopO hj2 (fun s2 e σ => ∃ (ids9:List PV),ids9.length = s2.2.length∧ids9.length = d.length∧ZE e [(5,(.buf id1 d.length 1)),(36,(vi ((d.length:Nat):Int))),(37,(vi s2.1))]∧Hs σ (.blk id1 43 ids9 :: (famL 32 2 Bound.cs ids9 s2.2 ++ []))) (fun y2 x e σ => (∃ a3,∃ (ids10:List PV),ids10.length = a3.length∧ids10.length = d.length∧y2 = (.go a3)∧x = .exit 2∧ZE e [(5,(.buf id1 d.length 1))]∧Hs σ (.blk id1 43 ids10 :: (famL 32 2 Bound.cs ids10 a3 ++ [])))∨(∃ r',y2 = (.ret r')∧x = .ret∧Ends CX Try.f44.results.toList (.tup [(vl (cL Bound.cs) r'.1),(vb r'.2.1),(vi r'.2.2)]) x e σ)) ⟨ids6,hMids6,hNids6,EI V,H⟩ ?_) ?_
   ·intro s2 e σ hI z h;obtain ⟨ids9,hMids9,hNids9,he,H⟩:=hI;obtain ⟨e,rfl⟩:=he.ex;unfold Z9.s1 at h;refine .tR 1 V H fun b13 σ H => (.iV V (.nila H fun H => (.then ?_)));refine .wh h V ?_ ?_ <;> intro h
    ·refine .skip (.then (.inBlock (.tR 2 V H fun b14 σ H => (.mV V (.aV V (.nila H fun H => (.tR 4 V H fun b15 σ H => (.mB V ?_))))))));refine .mV V ?_;obtain ⟨y3,hj3,h⟩:=bs h;refine .callI (PostA:=fun r A => ∃ (ids11:List PV),ids11.length = y3.2.length∧ids11.length = d.length∧r = (vb y3.1)∧A = (.blk id1 43 ids11 :: famL 32 2 Bound.cs ids11 y3.2)) (cv:=(.v (.fn 70))) (ys:=[(.buf id1 d.length 1),(vi s2.1)]) (L:=[]) (.blk id1 43 ids9 :: famL 32 2 Bound.cs ids9 s2.2) H V V (fun T1 hT H => callI_of Try.func70 V (fun _ => V) V V V V ?_) nofun V ?_
     ·replace h:=hj3;refine .tR 1 V H fun b16 σ H => (.aV V (.nila H fun H => (.then (.tR 3 V H fun b17 σ H => (.mB V (.lenM H 0 V hNids9 V V nofun V (.mV V (.nila H fun H => ?_))))))));refine .inBlock ?_;obtain ⟨y4,hj4,h⟩:=bs h;obtain ⟨n3,hj4⟩:=ZS.1 hj4;refine .mono (Runs.loopO hj4 (fun s3 e σ => ∃ (ids14:List PV),ids14.length = s3.2.length∧ids14.length = d.length∧ZE e [(0,(.buf id1 d.length 1)),(1,(vi s2.1)),(11,(vi ((d.length:Nat):Int))),(12,(vi s3.1))]∧Hs σ (.blk id1 43 ids14 :: (famL 32 2 Bound.cs ids14 s3.2 ++ T1))) (fun y4 x e σ => ∃ (ids15:List PV),ids15.length = y4.length∧ids15.length = d.length∧x = .exit 0∧ZE e [(0,(.buf id1 d.length 1))]∧Hs σ (.blk id1 43 ids15 :: (famL 32 2 Bound.cs ids15 y4 ++ T1))) ⟨ids9,hMids9,hNids9,EI V,H⟩ ?_) ?_
      ·intro s3 e σ hI z h;obtain ⟨ids14,hMids14,hNids14,he,H⟩:=hI;obtain ⟨e,rfl⟩:=he.ex;unfold Z9.s2 at h;refine .tR 1 V H fun b18 σ H => (.iV V (.nila H fun H => (.then ?_)));refine .wh h V ?_ ?_ <;> intro h
       ·refine .skip (.then (.inBlock (.tR 2 V H fun b19 σ H => (.mV V (.aV V (.nila H fun H => (.tR 3 V H fun b20 σ H => (.mB V ?_))))))));refine .lenM H 0 V hNids14 V V nofun V (.mV V (.nila H fun H => (.inBlock ?_)));obtain ⟨y5,hj5,h⟩:=bs h;obtain ⟨n4,hj5⟩:=ZS.1 hj5;refine .mono (Runs.loopO hj5 (fun s4 e σ => ∃ (ids18:List PV),ids18.length = s4.2.length∧ids18.length = d.length∧ZE e [(0,(.buf id1 d.length 1)),(1,(vi s2.1)),(5,(vi s3.1)),(11,(vi ((d.length:Nat):Int))),(12,(vi s3.1)),(16,(vi ((d.length:Nat):Int))),(17,(vi s4.1))]∧Hs σ (.blk id1 43 ids18 :: (famL 32 2 Bound.cs ids18 s4.2 ++ T1))) (fun y5 x e σ => ∃ (ids19:List PV),ids19.length = y5.length∧ids19.length = d.length∧x = .exit 2∧ZE e [(0,(.buf id1 d.length 1)),(1,(vi s2.1)),(11,(vi ((d.length:Nat):Int))),(12,(vi s3.1))]∧Hs σ (.blk id1 43 ids19 :: (famL 32 2 Bound.cs ids19 y5 ++ T1))) ⟨ids14,hMids14,hNids14,EI V,H⟩ ?_) ?_
        ·intro s4 e σ hI z h;obtain ⟨ids18,hMids18,hNids18,he,H⟩:=hI;obtain ⟨e,rfl⟩:=he.ex;unfold Z9.s3 at h;refine .tR 1 V H fun b21 σ H => (.iV V (.nila H fun H => (.then ?_)));refine .wh h V ?_ ?_ <;> intro h
         ·refine .skip (.then ?_);obtain ⟨y6,hj6,h⟩:=bs h;refine .mono (Q:=fun x e σ => ∃ (ids20:List PV),ids20.length = y6.length∧ids20.length = d.length∧x = .normal∧ZE e [(0,(.buf id1 d.length 1)),(1,(vi s2.1)),(5,(vi s3.1)),(11,(vi ((d.length:Nat):Int))),(12,(vi s3.1)),(16,(vi ((d.length:Nat):Int))),(17,(vi s4.1))]∧Hs σ (.blk id1 43 ids20 :: (famL 32 2 Bound.cs ids20 y6 ++ T1))) ?_ ?_
          ·replace h:=hj6;refine .inBlock ?_;obtain ⟨y7,hj7,h⟩:=bs h;refine .mono (Q:=fun x e σ => ∃ (ids21:List PV),ids21.length = y7.length∧ids21.length = d.length∧x = .normal∧ZE e [(0,(.buf id1 d.length 1)),(1,(vi s2.1)),(5,(vi s3.1)),(11,(vi ((d.length:Nat):Int))),(12,(vi s3.1)),(16,(vi ((d.length:Nat):Int))),(17,(vi s4.1))]∧Hs σ (.blk id1 43 ids21 :: (famL 32 2 Bound.cs ids21 y7 ++ T1))) ?_ ?_
           ·replace h:=hj7;refine .tR 2 V H fun b22 σ H => (.mV V (.aV V (.nila H fun H => (.then (.Z1l 21 V (by kernel_rfl) H fun b23 σ H B23 => (.mB V (.mV V ?_)))))));obtain ⟨x7,q7,h⟩:=bs h;obtain ⟨v3,hv5,hr3⟩:=Z2q (rt:=32) (sz:=2) (c:=Bound.cs) hMids18 q7;refine .Z29 H 0 V hNids18 V V (at?_nn q7) (hNids18 ▸ Z1Z hv5) V V (fun _ => .inl ⟨B23 0 _ V _ V,nofun,(fun _ => by kernel_rfl)⟩) V ?_;refine .ld v3 H 0 V hNids18 V V hv5 (fun _ => .inl ⟨B23 0 _ V _ V,nofun,(fun _ => by kernel_rfl)⟩) V (.mV V ?_);obtain ⟨x8,q8,h⟩:=bs h;refine .Z1n H (1 + (s3.1).toNat) (Z0Z 1 V hr3) V V (at?_map q8) V V (fun _ id ho => .inl ⟨B23 (1 + (s3.1).toNat) _ (Z0Z 1 V hr3) id ho,nofun,(fun _ => by kernel_rfl)⟩) V ?_;intro id4 hv6;refine .Z5h (id:=id4) H (1 + (s3.1).toNat) (Z0Z 1 V hr3) hv6 (by simp) (at?_map q8) V V V V (fun _ => .inl ⟨B23 (1 + (s3.1).toNat) _ (Z0Z 1 V hr3) _ (by rw [(hv6:(v3:PV) = _)];rfl),nofun,(fun _ => by kernel_rfl)⟩) V ?_;refine .mB V (.mV V ?_);obtain ⟨x9,q9,h⟩:=bs h;obtain ⟨v4,hv7,hr4⟩:=Z2q (rt:=32) (sz:=2) (c:=Bound.cs) hMids18 q9;refine .Z29 H 0 V hNids18 V V (at?_nn q9) (hNids18 ▸ Z1Z hv7) V V (fun _ => .inl ⟨B23 0 _ V _ V,nofun,(fun _ => by kernel_rfl)⟩) V ?_;refine .ld v4 H 0 V hNids18 V V hv7 (fun _ => .inl ⟨B23 0 _ V _ V,nofun,(fun _ => by kernel_rfl)⟩) V (.mV V ?_);obtain ⟨x10,q10,h⟩:=bs h;refine .Z1n H (1 + (s2.1).toNat) (Z0Z 1 V hr4) V V (at?_map q10) V V (fun _ id ho => .inl ⟨B23 (1 + (s2.1).toNat) _ (Z0Z 1 V hr4) id ho,nofun,(fun _ => by kernel_rfl)⟩) V ?_;intro id5 hv8
            refine .Z5h (id:=id5) H (1 + (s2.1).toNat) (Z0Z 1 V hr4) hv8 (by simp) (at?_map q10) V V V V (fun _ => .inl ⟨B23 (1 + (s2.1).toNat) _ (Z0Z 1 V hr4) _ (by rw [(hv8:(v4:PV) = _)];rfl),nofun,(fun _ => by kernel_rfl)⟩) V ?_;refine .cV (safe_Sum_fn (V:Zj x8 x10 = _)) V (.m1 (.tup [(.agg [(.v (.int .i8 (Zj x8 x10).1.Inf)),(vi (Zj x8 x10).1.N)]),(vi (Zj x8 x10).2)]) V V (.xV V (.xV V (.Z1q (cs:=[(.v (.int .i8 0)),(vi 0)]) H (by omega) (by omega) V V fun σ H => (.storeH (cells':=[(.v (.int .i8 (Zj x8 x10).1.Inf)),(vi (Zj x8 x10).1.N)]) H 0 V V V V V V V V V (fun _ => .inr ⟨18,V,by kernel_rfl,by decide⟩) fun σ H => (.aV V (.nila H fun H => (.then ?_))))))));refine .Z1l 13 V (by kernel_rfl) H fun b24 σ H B24 => (.mV V (.iV V (.mV V ?_)));obtain ⟨y8,hj8,h⟩:=bs h;refine .md H 10 [(50,(vb y8)),(0,(.buf id1 d.length 1)),(1,(vi s2.1)),(5,(vi s3.1)),(6,(vi s4.1)),(7,(.ptr (b23 + 18) 2 0)),(11,(vi ((d.length:Nat):Int))),(12,(vi s3.1)),(16,(vi ((d.length:Nat):Int))),(17,(vi s4.1))] (.blk (b23 + 18) 32 [(.v (.int .i8 (Zj x8 x10).1.Inf)),(vi (Zj x8 x10).1.N)] :: .blk id1 43 ids18 :: (famL 32 2 Bound.cs ids18 s4.2 ++ T1)) V ?_ fun e σ H => ?_
            ·refine .sp hj8 V ?_ ?_ <;> intro h
             ·refine .wt V V (.Z5r (cs:=[(.v (.int .i8 (Zj x8 x10).1.Inf)),(vi (Zj x8 x10).1.N)]) H 0 V V V V V V V (fun _ => .inl ⟨B24 0 _ V _ V,nofun,(fun _ => by kernel_rfl)⟩) V (.mB V (.mV V (.wt V V ?_))));obtain ⟨x11,q11,h⟩:=bs h;obtain ⟨v5,hv9,hr5⟩:=Z2q (rt:=32) (sz:=2) (c:=Bound.cs) hMids18 q11;refine .Z29 H 1 V hNids18 V V (at?_nn q11) (hNids18 ▸ Z1Z hv9) V V (fun _ => .inl ⟨B24 1 _ V _ V,nofun,(fun _ => by kernel_rfl)⟩) V ?_;refine .wt V V (.ld v5 H 1 V hNids18 V V hv9 (fun _ => .inl ⟨B24 1 _ V _ V,nofun,(fun _ => by kernel_rfl)⟩) V (.mV V (.wt V V ?_)));obtain ⟨x12,q12,h⟩:=bs h;refine .Z1n H (2 + (s3.1).toNat) (Z0Z 2 V hr5) V V (at?_map q12) V V (fun _ id ho => .inl ⟨B24 (2 + (s3.1).toNat) _ (Z0Z 2 V hr5) id ho,nofun,(fun _ => by kernel_rfl)⟩) V ?_;intro id6 hv10;refine .wt V V ?_;refine .Z5h (id:=id6) H (2 + (s3.1).toNat) (Z0Z 2 V hr5) hv10 (by simp) (at?_map q12) V V V V (fun _ => .inl ⟨B24 (2 + (s3.1).toNat) _ (Z0Z 2 V hr5) _ (by rw [(hv10:(v5:PV) = _)];rfl),nofun,(fun _ => by kernel_rfl)⟩) V ?_;refine .cV (Z2T (V:Z0I ((Zj x8 x10).1) x12 = _)) V (.kT V (.nil ?_));obtain rfl:=sj h;exact ⟨EI V,H.wk (by omega)⟩
             refine .ps 9 V (.kF V (.nil ?_));obtain rfl:=sj h;exact ⟨EI V,H.wk (by omega)⟩
            refine .nila H fun H => ?_;refine .wh h V ?_ ?_ <;> intro h
            ·refine .Z1l 8 V (by kernel_rfl) H fun b25 σ H B25 => (.mB V (.mV V ?_));obtain ⟨x13,q13,h⟩:=bs h;obtain ⟨v6,hv11,hr6⟩:=Z2q (rt:=32) (sz:=2) (c:=Bound.cs) hMids18 q13;refine .Z29 H 1 V hNids18 V V (at?_nn q13) (hNids18 ▸ Z1Z hv11) V V (fun _ => .inl ⟨B25 1 _ V _ V,nofun,(fun _ => by kernel_rfl)⟩) V ?_;refine .ld v6 H 1 V hNids18 V V hv11 (fun _ => .inl ⟨B25 1 _ V _ V,nofun,(fun _ => by kernel_rfl)⟩) V (.mV V (.Z5r (cs:=[(.v (.int .i8 (Zj x8 x10).1.Inf)),(vi (Zj x8 x10).1.N)]) H 0 V V V V V V V (fun _ => .inl ⟨B25 0 _ V _ V,nofun,(fun _ => by kernel_rfl)⟩) V ?_));obtain ⟨x14,q14,h⟩:=bs h;refine .Z1n H (2 + (s3.1).toNat) (Z0Z 2 V hr6) V V (at?_map q14) V V (fun _ id ho => .inl ⟨B25 (2 + (s3.1).toNat) _ (Z0Z 2 V hr6) id ho,nofun,(fun _ => by kernel_rfl)⟩) V ?_;intro id7 hv12;refine .Z3g (id:=id7) (j:=0) (zs:=[(.int .i8 (Zj x8 x10).1.Inf),(.int .i64 (Zj x8 x10).1.N)]) (u:=x14) (u':=((Zj x8 x10).1)) H (2 + (s3.1).toNat) (Z0Z 2 V hr6) hv12 (by simp) q14 V (by simp) V V V V V V (fun _ => .inl ⟨B25 (2 + (s3.1).toNat) _ (Z0Z 2 V hr6) _ (by rw [(hv12:(v6:PV) = _)];rfl),(fun _ => by kernel_rfl),nofun⟩) fun σ H => ?_;have hMs2:ids18.length = (s4.2.set (s3.1).toNat (x13.set (s4.1).toNat ((Zj x8 x10).1))).length:=hMids18.trans (Yf ..).symm;replace H:Has σ _ _ (.blk (b23 + 18) 32 [(.v (.int .i8 (Zj x8 x10).1.Inf)),(vi (Zj x8 x10).1.N)] :: .blk id1 43 ids18 :: (famL 32 2 Bound.cs ids18 (s4.2.set (s3.1).toNat (x13.set (s4.1).toNat ((Zj x8 x10).1))) ++ T1)):=H.famSet (k:=2) rfl hMids18 hv11
             refine .nila H fun H => ?_;obtain rfl:=sj h;exact ⟨ids18,hMs2,hNids18,V,EI V,(H.erase 0)⟩
            refine .skip ?_;obtain rfl:=sj h;exact ⟨ids18,hMids18,hNids18,V,EI V,(H.erase 0)⟩
           ·rintro x e σ ⟨ids22,hMids22,hNids22,rfl,he,H⟩;obtain ⟨e,rfl⟩:=he.ex;obtain rfl:=sj h;exact ⟨ids22,hMids22,hNids22,V,EI V,H⟩
          ·rintro x e σ ⟨ids23,hMids23,hNids23,rfl,he,H⟩;obtain ⟨e,rfl⟩:=he.ex;refine .Za 2 V H fun b26 σ H => (.iV V (.mV V (.nila H fun H => ?_)));obtain rfl:=sj h;exact ⟨V,ids23,hMids23,hNids23,EI V,H⟩
         refine .exit ?_;obtain rfl:=sj h;exact ⟨nofun,⟨ids18,hMids18,hNids18,V,EI V,H⟩⟩
        ·rintro x e σ ⟨ids24,hMids24,hNids24,rfl,he,H⟩;obtain ⟨e,rfl⟩:=he.ex;refine .Za 2 V H fun b27 σ H => (.iV V (.mV V (.nila H fun H => ?_)));obtain rfl:=sj h;exact ⟨V,ids24,hMids24,hNids24,EI V,H⟩
       refine .exit ?_;obtain rfl:=sj h;exact ⟨nofun,⟨ids14,hMids14,hNids14,V,EI V,H⟩⟩
      ·rintro x e σ ⟨ids25,hMids25,hNids25,rfl,he,H⟩;obtain ⟨e,rfl⟩:=he.ex;refine .then (.tR 3 V H fun b28 σ H => (.mB V (.lenM H 0 V hNids25 V V nofun V (.mV V (.nila H fun H => (.inBlock ?_))))));obtain ⟨y9,hj9,h⟩:=bs h;obtain ⟨n5,hj9⟩:=ZS.1 hj9;refine .mono (Runs.loopO hj9 (fun s5 e σ => ZE e [(0,(.buf id1 d.length 1)),(61,(vi ((d.length:Nat):Int))),(62,(vi s5))]∧Hs σ (.blk id1 43 ids25 :: (famL 32 2 Bound.cs ids25 y4 ++ T1))) (fun y9 x e σ => (∃ a4,y9 = (.go a4)∧x = .exit 4∧ZE e []∧Hs σ (.blk id1 43 ids25 :: (famL 32 2 Bound.cs ids25 y4 ++ T1)))∨(∃ a5,y9 = (.ret a5)∧x = .ret∧ZE e [(4,(vb false))]∧Hs σ (.blk id1 43 ids25 :: (famL 32 2 Bound.cs ids25 y4 ++ T1)))) ⟨EI V,H⟩ ?_) ?_
       ·intro s5 e σ hI z h;obtain ⟨he,H⟩:=hI;obtain ⟨e,rfl⟩:=he.ex;unfold Z9.s4 at h;refine .tR 1 V H fun b29 σ H => (.iV V (.nila H fun H => (.then ?_)));refine .wh h V ?_ ?_ <;> intro h
        ·refine .skip (.then (.inBlock (.tR 2 V H fun b30 σ H => (.mV V (.aV V (.nila H fun H => (.tR 9 V H fun b31 σ H => (.mB V ?_))))))));refine .mV V ?_;obtain ⟨x15,q15,h⟩:=bs h;obtain ⟨v7,hv13,hr7⟩:=Z2q (rt:=32) (sz:=2) (c:=Bound.cs) hMids25 q15;refine .Z29 H 0 V hNids25 V V (at?_nn q15) (hNids25 ▸ Z1Z hv13) V V nofun V ?_;refine .ld v7 H 0 V hNids25 V V hv13 nofun V (.mV V ?_);obtain ⟨x16,q16,h⟩:=bs h;refine .Z1n H (1 + (s5).toNat) (Z0Z 1 V hr7) V V (at?_map q16) V V nofun V ?_;intro id8 hv14;refine .Z5h (id:=id8) H (1 + (s5).toNat) (Z0Z 1 V hr7) hv14 (by simp) (at?_map q16) V V V V nofun V ?_;refine .bV [(.v (.int .i8 0)),(vi 0)] V (.cV (Z2T (V:Z0I x16 (Bound.mk 0 0) = _)) V (.nila H fun H => ?_));refine .wh h V ?_ ?_ <;> intro h
         ·refine .tR 1 V H fun b32 σ H => (.aV V (.nila H fun H => (.ret ?_)));obtain rfl:=sj h;exact ⟨nofun,(.inr ⟨_,V,V,EI V,H⟩)⟩
         refine .skip (.Za 2 V H fun b33 σ H => (.iV V (.mV V (.nila H fun H => ?_))));obtain rfl:=sj h;exact ⟨V,EI V,H⟩
        refine .exit ?_;obtain rfl:=sj h;exact ⟨nofun,(.inl ⟨_,V,V,U,H⟩)⟩
       ·rintro x e σ (⟨a6,rfl,rfl,he,H⟩ | ⟨a7,rfl,rfl,he,H⟩)
        ·replace h:=jgo h;obtain ⟨e,rfl⟩:=he.ex;refine .tR 1 V H fun b34 σ H => (.aV V (.nila H fun H => (.ret ?_)));obtain rfl:=sj h;exact ⟨.inr V,_,Z1p H (.tmp (v:=(vb true)) V .nil),_,⟨ids25,hMids25,hNids25,V,V⟩,H⟩
        ·replace h:=jret h;obtain ⟨e,rfl⟩:=he.ex;obtain rfl:=sj h;exact ⟨.inr V,_,Z1p H (.tmp (v:=(vb false)) V .nil),_,⟨ids25,hMids25,hNids25,V,V⟩,H⟩
     ·rintro _ _ σ ⟨ids11,hMids11,hNids11,rfl,rfl⟩ H;refine .tV V (.nila H fun H => ?_);refine .wh h V ?_ ?_ <;> intro h
      ·refine .tR 3 V H fun b35 σ H => (.a1 .nils V V (.aV V (.aV V (.nila H fun H => (.ret ?_)))));obtain rfl:=sj h;exact ⟨nofun,(.inr ⟨_,V,V,(Ends.H (xs:=[.nils,(vb false),(vi 0)]) (.inr V) H (.tmp (v:=.nils) V (.tmp (v:=(vb false)) V (.tmp (v:=(vi 0)) V .nil))) (.two (.cons (.c .n) (.cons (.c (.v _)) (.cons (.c (.v _)) .nil)))))⟩)⟩
      refine .skip (.Za 2 V H fun b36 σ H => (.iV V (.mV V (.nila H fun H => ?_))));obtain rfl:=sj h;exact ⟨V,ids11,hMids11,hNids11,EI V,H⟩
    refine .exit ?_;obtain rfl:=sj h;exact ⟨nofun,(.inl ⟨_,ids9,hMids9,hNids9,V,V,EI V,H⟩)⟩
   ·rintro x e σ (⟨a8,ids26,hMids26,hNids26,rfl,rfl,he,H⟩ | ⟨r',rfl,rfl,hE⟩)
    ·replace h:=jgo h;obtain ⟨e,rfl⟩:=he.ex;refine .tR 4 V H fun b37 σ H => (.mB V (.aB V (.aV V (.aV V (.nila H fun H => (.ret ?_))))));obtain rfl:=sj h;exact (Ends.M (c:=Bound.cs) (T:=[]) (.inr V) H 0 V V hMids26 hNids26 (Z1p H (.tmp (v:=(.buf id1 d.length 1)) V (.tmp (v:=(vb true)) V (.tmp (v:=(vi 0)) V .nil)))) V V)
    ·replace h:=jret h;obtain rfl:=sj h;exact hE
  ·replace h:=jret h;obtain rfl:=sj h;exact hE
theorem Z1P {d:(List (List Bound))} {r:(List (List Bound)) × Bool × Int} (h:Z0T d = some r):Fn CX 44 [(vl (cL Bound.cs) d)] (.tup [(vl (cL Bound.cs) r.1),(vb r.2.1),(vi r.2.2)]):=by
 cases d with
 | nil => cases Option.some.inj h;exact Fn.intr rfl rfl rfl rfl
 | cons a0 d0 => exact stp_Close_fn rfl h
theorem Z2L {m:(List (List Bound))} {n:Int} {r:Bool} (h:ZM m n = some r):Fn CX 48 [(vl (cL Bound.cs) m),(vi n)] (vb r):=by
 refine Fn.go Try.func48 V fun σ H => ?_;unfold ZM at h;refine .tR 1 V H fun b1 σ H => (.aV V (.nila H fun H => (.then (.tR 3 V H fun b2 σ H => (.mV V (.nV V (.mV V (.nila H fun H => ?_))))))));refine .inBlock ?_;obtain ⟨y1,hj1,h⟩:=bs h;obtain ⟨n1,hj1⟩:=ZS.1 hj1;refine .mono (Runs.loopO hj1 (fun s1 e σ => ZE e [(0,(vl (cL Bound.cs) m)),(1,(vi n)),(7,(vl (cL Bound.cs) m)),(8,(vi (m.length:Int))),(9,(vi s1))]∧Hs σ []) (fun y1 x e σ => (∃ a1,y1 = (.go a1)∧x = .exit 0∧ZE e [(0,(vl (cL Bound.cs) m)),(1,(vi n))]∧Hs σ [])∨(∃ r',y1 = (.ret r')∧x = .ret∧Ends CX Try.f48.results.toList (vb r') x e σ)) ⟨EI V,H⟩ ?_) ?_
 ·intro s1 e σ hI z h;obtain ⟨he,H⟩:=hI;obtain ⟨e,rfl⟩:=he.ex;unfold ZM.s0 at h;refine .tR 1 V H fun b3 σ H => (.iV V (.nila H fun H => (.then ?_)));refine .wh h V ?_ ?_ <;> intro h
  ·refine .skip (.then (.inBlock (.tR 3 V H fun b4 σ H => ?_)));obtain ⟨x1,q1,h⟩:=bs h;refine .jV q1 V (.pV V (.aV V (.nila H fun H => (.tR 4 V H fun b5 σ H => (.mV V (.nV V (.mV V (.iV V ?_))))))));refine .nila H fun H => ?_;refine .wh h V ?_ ?_ <;> intro h
   ·refine .tR 1 V H fun b6 σ H => (.aV V (.nila H fun H => (.ret ?_)));obtain rfl:=sj h;exact ⟨nofun,(.inr ⟨_,V,V,(Ends.H (xs:=[(vb false)]) (.inr V) H (.tmp (v:=(vb false)) V .nil) (.one (.c (.v _))))⟩)⟩
   refine .skip (.Za 2 V H fun b7 σ H => (.iV V (.mV V (.nila H fun H => ?_))));obtain rfl:=sj h;exact ⟨V,EI V,H⟩
  refine .exit ?_;obtain rfl:=sj h;exact ⟨nofun,(.inl ⟨_,V,V,EI V,H⟩)⟩
 ·rintro x e σ (⟨a2,rfl,rfl,he,H⟩ | ⟨r',rfl,rfl,hE⟩)
  ·replace h:=jgo h;obtain ⟨e,rfl⟩:=he.ex;refine .tR 5 V H fun b8 σ H => (.mV V (.nV V (.mV V (.iV V (.aV V (.nila H fun H => (.ret ?_)))))));obtain rfl:=sj h;exact Ends.eR V
  ·replace h:=jret h;obtain rfl:=sj h;exact hE
theorem Z2j {a:(List (List Bound))} {b:(List (List Bound))} {r:Bool} (h:ZG a b = some r):Fn CX 46 [(vl (cL Bound.cs) a),(vl (cL Bound.cs) b)] (vb r):=by
 refine Fn.go Try.func46 V fun σ H => ?_;unfold ZG at h;refine .tR 1 V H fun b1 σ H => (.aV V (.nila H fun H => (.then (.tR 5 V H fun b2 σ H => (.mV V (.nV V (.mV V (.nV V ?_))))))));refine .iV V (.nila H fun H => ?_);refine .wh h V ?_ ?_ <;> intro h
 ·refine .tR 1 V H fun b3 σ H => (.aV V (.nila H fun H => (.ret ?_)));obtain rfl:=sj h;exact Ends.eR V
 refine .skip (.then (.tR 1 V H fun b4 σ H => (.aV V (.nila H fun H => (.inBlock ?_)))));obtain ⟨y1,hj1,h⟩:=bs h;obtain ⟨n1,hj1⟩:=ZS.1 hj1;refine .mono (Runs.loopO hj1 (fun s1 e σ => ZE e [(0,(vl (cL Bound.cs) a)),(1,(vl (cL Bound.cs) b)),(5,(vi s1))]∧Hs σ []) (fun y1 x e σ => (∃ a1,y1 = (.go a1)∧x = .exit 0∧ZE e []∧Hs σ [])∨(∃ r',y1 = (.ret r')∧x = .ret∧Ends CX Try.f46.results.toList (vb r') x e σ)) ⟨EI V,H⟩ ?_) ?_
 ·intro s1 e σ hI z h;obtain ⟨he,H⟩:=hI;obtain ⟨e,rfl⟩:=he.ex;unfold ZG.s0 at h;refine .then (.tR 4 V H fun b5 σ H => (.mV V (.mV V (.nV V (.iV V (.nila H fun H => ?_))))));refine .wh h V ?_ ?_ <;> intro h
  ·refine .skip (.then (.inBlock (.then (.then (.Z1l 11 V (by kernel_rfl) H fun b6 σ H B6 => (.mV V (.mV V ?_)))))));obtain ⟨x1,q1,h⟩:=bs h;refine .jV q1 V (.pV V (.nV V (.mV V (.mV V ?_))));obtain ⟨x2,q2,h⟩:=bs h;refine .jV q2 V (.pV V (.nV V (.iV V (.nila H fun H => ?_))));refine .wh h V ?_ ?_ <;> intro h
   ·refine .tR 1 V H fun b7 σ H => (.aV V (.nila H fun H => (.ret ?_)));obtain rfl:=sj h;exact ⟨nofun,(.inr ⟨_,V,V,(Ends.H (xs:=[(vb false)]) (.inr V) H (.tmp (v:=(vb false)) V .nil) (.one (.c (.v _))))⟩)⟩
   refine .skip (.tR 1 V H fun b8 σ H => (.aV V (.nila H fun H => (.inBlock ?_))));obtain ⟨y2,hj2,h⟩:=bs h;obtain ⟨n2,hj2⟩:=ZS.1 hj2;refine .mono (Runs.loopO hj2 (fun s2 e σ => ZE e [(0,(vl (cL Bound.cs) a)),(1,(vl (cL Bound.cs) b)),(5,(vi s1)),(6,(vi s2))]∧Hs σ []) (fun y2 x e σ => (∃ a2,y2 = (.go a2)∧x = .exit 2∧ZE e [(0,(vl (cL Bound.cs) a)),(1,(vl (cL Bound.cs) b)),(5,(vi s1))]∧Hs σ [])∨(∃ r',y2 = (.ret r')∧x = .ret∧Ends CX Try.f46.results.toList (vb r') x e σ)) ⟨EI V,H⟩ ?_) ?_
   ·intro s2 e σ hI z h;obtain ⟨he,H⟩:=hI;obtain ⟨e,rfl⟩:=he.ex;unfold ZG.s1 at h;refine .then (.tR 7 V H fun b9 σ H => (.mV V (.mV V (.mV V ?_))));obtain ⟨x3,q3,h⟩:=bs h;refine .jV q3 V (.pV V (.nV V (.iV V (.nila H fun H => ?_))));refine .wh h V ?_ ?_ <;> intro h
    ·refine .skip (.then (.inBlock (.then (.Z1l 15 V (by kernel_rfl) H fun b10 σ H B10 => (.mV V (.mV V ?_))))));obtain ⟨x4,q4,h⟩:=bs h;refine .jV q4 V (.pV V (.mV V ?_));obtain ⟨x5,q5,h⟩:=bs h;refine .jV q5 V (.qV [(.int .i8 x5.Inf),(.int .i64 x5.N)] V (.mV V (.mV V ?_)));obtain ⟨x6,q6,h⟩:=bs h;refine .jV q6 V (.pV V (.mV V ?_));obtain ⟨x7,q7,h⟩:=bs h;refine .jV q7 V (.qV [(.int .i8 x7.Inf),(.int .i64 x7.N)] V (.binA (u:=(.agg [(.v (.int .i8 x5.Inf)),(vi x5.N)])) (w:=(.agg [(.v (.int .i8 x7.Inf)),(vi x7.N)])) (r:=.bool (!((x5.Inf == x7.Inf) && ((x5.N == x7.N) && true)))) V V (by kernel_rfl) (fun _ => Z5L V V V V) V (.nila H fun H => ?_)));refine .wh h V ?_ ?_ <;> intro h
     ·refine .tR 1 V H fun b11 σ H => (.aV V (.nila H fun H => (.ret ?_)));obtain rfl:=sj h;exact ⟨nofun,(.inr ⟨_,V,V,(Ends.H (xs:=[(vb false)]) (.inr V) H (.tmp (v:=(vb false)) V .nil) (.one (.c (.v _))))⟩)⟩
     refine .skip (.Za 3 V H fun b12 σ H => (.mV V (.iV V (.aV V (.nila H fun H => ?_)))));obtain rfl:=sj h;exact ⟨V,EI V,H⟩
    refine .exit ?_;obtain rfl:=sj h;exact ⟨nofun,(.inl ⟨_,V,V,EI V,H⟩)⟩
   ·rintro x e σ (⟨a3,rfl,rfl,he,H⟩ | ⟨r',rfl,rfl,hE⟩)
    ·replace h:=jgo h;obtain ⟨e,rfl⟩:=he.ex;refine .Za 3 V H fun b13 σ H => (.mV V (.iV V (.aV V (.nila H fun H => ?_))));obtain rfl:=sj h;exact ⟨V,EI V,H⟩
    ·replace h:=jret h;obtain rfl:=sj h;exact ⟨nofun,(.inr ⟨_,V,V,hE⟩)⟩
  refine .exit ?_;obtain rfl:=sj h;exact ⟨nofun,(.inl ⟨_,V,V,U,H⟩)⟩
 ·rintro x e σ (⟨a4,rfl,rfl,he,H⟩ | ⟨r',rfl,rfl,hE⟩)
  ·replace h:=jgo h;obtain ⟨e,rfl⟩:=he.ex;refine .tR 1 V H fun b14 σ H => (.aV V (.nila H fun H => (.ret ?_)));obtain rfl:=sj h;exact Ends.eR V
  ·replace h:=jret h;obtain rfl:=sj h;exact hE
theorem safe_Sub_fn {a:Int} {b:Int} {r:Int × Int} (h:Z0u a b = r):Fn CX 21 [(vi a),(vi b)] (.tup [(vi r.1),(vi r.2)]):=by
 refine Fn.go Try.func21 V fun σ H => ?_;unfold Z0u at h;refine .tR 2 V H fun b1 σ H => (.aV V (.aV V (.nila H fun H => (.tR 4 V H fun b2 σ H => (.mV V (.mV V (.iV V (.aV V ?_))))))));refine .nila H fun H => (.then (.tR 10 V H fun b3 σ H => (.mV V (.mV V (.iV V (.mV V (.iV V (.neB (b:=(decide ((w64 (a - b)) < a))) (b':=(decide (b > 0))) V V V V ?_))))))));refine .mV V ?_;refine .md H 3 [(19,(vb (((decide ((w64 (a - b)) < a)) != (decide (b > 0))) && (b != 0)))),(6,(vi (w64 (a - b))))] [] V ?_ fun e σ H => ?_
 ·refine .split V V ?_ ?_ <;> intro hc1
  ·refine .mV V (.iV V (.kT V (.nil ?_)));exact ⟨⟨Z13 hc1,V,U⟩,H.wk (by omega)⟩
  ·refine .ps 2 V (.kF V (.nil ?_));exact ⟨⟨Z11 hc1,V,U⟩,H.wk (by omega)⟩
 refine .nila H fun H => ?_;refine .wh h V ?_ ?_ <;> intro h
 ·refine .tR 2 V H fun b4 σ H => (.aV V (.aV V (.nila H fun H => (.ret ?_))));subst h;exact Ends.eR V
 refine .skip (.tR 3 V H fun b5 σ H => (.mV V (.aV V (.aV V (.nila H fun H => (.ret ?_))))));subst h;exact Ends.eR V
theorem Z3j {d:(List (List Bound))} {ticks:(List Int)} {r:Bool} (h:ZI d ticks = some r):Fn CX 39 [(vl (cL Bound.cs) d),(vl (cI .i64) ticks)] (vb r):=by
 refine Fn.go Try.func39 V fun σ H => ?_;unfold ZI at h;refine .tR 1 V H fun b1 σ H => (.aV V (.nila H fun H => (.then (.tR 10 V H fun b2 σ H => (.mV V ?_)))));obtain ⟨x1,q1,h⟩:=bs h;refine .cV (Z2W q1) V (.tV V (.mV V ?_));refine .md H 6 [(20,(vb ((!x1) || ((ticks.length:Int) != (d.length:Int))))),(0,(vl (cL Bound.cs) d)),(1,(vl (cI .i64) ticks))] [] rfl ?_ fun e σ H => ?_
 ·refine .split V V ?_ ?_ <;> intro hc1
  ·refine .ps 5 V (.kT V (.nil ?_));exact ⟨⟨or_T hc1,V,V,U⟩,H.wk (by omega)⟩
  ·refine .mV V (.nV V (.mV V (.nV V (.iV V (.kF V (.nil ?_))))));exact ⟨⟨or_F hc1,V,V,U⟩,H.wk (by omega)⟩
 refine .nila H fun H => ?_;refine .wh h V ?_ ?_ <;> intro h
 ·refine .tR 1 V H fun b3 σ H => (.aV V (.nila H fun H => (.ret ?_)));obtain rfl:=sj h;exact Ends.eR V
 refine .skip (.then (.tR 3 V H fun b4 σ H => (.mV V (.nV V (.mV V (.nila H fun H => (.inBlock ?_)))))));obtain ⟨y1,hj1,h⟩:=bs h;obtain ⟨n1,hj1⟩:=ZS.1 hj1;refine .mono (Runs.loopO hj1 (fun s1 e σ => ZE e [(1,(vl (cI .i64) ticks)),(21,(vl (cL Bound.cs) d)),(22,(vi (d.length:Int))),(23,(vi s1))]∧Hs σ []) (fun y1 x e σ => (∃ a1,y1 = (.go a1)∧x = .exit 0∧ZE e []∧Hs σ [])∨(∃ r',y1 = (.ret r')∧x = .ret∧Ends CX Try.f39.results.toList (vb r') x e σ)) ⟨EI V,H⟩ ?_) ?_
 ·intro s1 e σ hI z h;obtain ⟨he,H⟩:=hI;obtain ⟨e,rfl⟩:=he.ex;unfold ZI.s0 at h;refine .tR 1 V H fun b5 σ H => (.iV V (.nila H fun H => (.then ?_)));refine .wh h V ?_ ?_ <;> intro h
  ·refine .skip (.then (.inBlock (.tR 5 V H fun b6 σ H => (.mV V ?_))));obtain ⟨x2,q2,h⟩:=bs h;refine .jV q2 V (.pV V (.aV V (.aV V (.nila H fun H => (.tR 3 V H fun b7 σ H => (.mV V (.nV V (.mV V ?_))))))));refine .nila H fun H => (.inBlock ?_);obtain ⟨y2,hj2,h⟩:=bs h;obtain ⟨n2,hj2⟩:=ZS.1 hj2;refine .mono (Runs.loopO hj2 (fun s2 e σ => ZE e [(1,(vl (cI .i64) ticks)),(5,(vi s1)),(21,(vl (cL Bound.cs) d)),(22,(vi (d.length:Int))),(23,(vi s1)),(28,(vl Bound.cs x2)),(29,(vi (x2.length:Int))),(30,(vi s2))]∧Hs σ []) (fun y2 x e σ => (∃ a2,y2 = (.go a2)∧x = .exit 2∧ZE e [(1,(vl (cI .i64) ticks)),(21,(vl (cL Bound.cs) d)),(22,(vi (d.length:Int))),(23,(vi s1))]∧Hs σ [])∨(∃ r',y2 = (.ret r')∧x = .ret∧Ends CX Try.f39.results.toList (vb r') x e σ)) ⟨EI V,H⟩ ?_) ?_
   ·intro s2 e σ hI z h;obtain ⟨he,H⟩:=hI;obtain ⟨e,rfl⟩:=he.ex;unfold ZI.s1 at h;refine .tR 1 V H fun b8 σ H => (.iV V (.nila H fun H => (.then ?_)));refine .wh h V ?_ ?_ <;> intro h
    ·refine .skip (.then ?_);obtain ⟨y3,hj3,h⟩:=bs h;refine .mono (Q:=fun x e σ => (∃ a3,y3 = (.go a3)∧x = .normal∧ZE e [(1,(vl (cI .i64) ticks)),(5,(vi s1)),(21,(vl (cL Bound.cs) d)),(22,(vi (d.length:Int))),(23,(vi s1)),(28,(vl Bound.cs x2)),(29,(vi (x2.length:Int))),(30,(vi s2))]∧Hs σ [])∨(∃ r',y3 = (.ret r')∧x = .ret∧Ends CX Try.f39.results.toList (vb r') x e σ)) ?_ ?_
     ·replace h:=hj3;refine .inBlock ?_;obtain ⟨y4,hj4,h⟩:=bs h;refine .mono (Q:=fun x e σ => (∃ a4,y4 = (.go a4)∧x = .normal∧ZE e [(1,(vl (cI .i64) ticks)),(5,(vi s1)),(21,(vl (cL Bound.cs) d)),(22,(vi (d.length:Int))),(23,(vi s1)),(28,(vl Bound.cs x2)),(29,(vi (x2.length:Int))),(30,(vi s2))]∧Hs σ [])∨(∃ r',y4 = (.ret r')∧x = .ret∧Ends CX Try.f39.results.toList (vb r') x e σ)) ?_ ?_
      ·replace h:=hj4;refine .tR 6 V H fun b9 σ H => (.mV V ?_);obtain ⟨x3,q3,h⟩:=bs h;refine .jV q3 V (.qV [(.int .i8 x3.Inf),(.int .i64 x3.N)] V (.Z1q (cs:=[(.v (.int .i8 0)),(vi 0)]) H (by omega) (by omega) V V fun σ H => (.aV V (.sV [(.v (.int .i8 x3.Inf)),(vi x3.N)] H 0 V fun σ H => (.nila H fun H => (.then (.Z1l 14 V (by kernel_rfl) H fun b10 σ H B10 => (.mV V ?_))))))));refine .mV V ?_;obtain ⟨x4,q4,h⟩:=bs h;refine .jV q4 V (.pV V (.mV V (.mV V ?_)));obtain ⟨x5,q5,h⟩:=bs h;refine .jV q5 V (.pV V (.cV (safe_Sub_fn V) V (.m1 (.tup [(vi (Z0u x4 x5).1),(vi (Z0u x4 x5).2)]) V V (.xV V (.xV V (.aV V (.aV V (.nila H fun H => ?_))))))));refine .inBlock ?_;obtain ⟨y5,hj5,h⟩:=bs h;refine .mono (Q:=fun x e σ => (∃ a5,y5 = (.go a5)∧x = .normal∧ZE e [(1,(vl (cI .i64) ticks)),(5,(vi s1)),(21,(vl (cL Bound.cs) d)),(22,(vi (d.length:Int))),(23,(vi s1)),(28,(vl Bound.cs x2)),(29,(vi (x2.length:Int))),(30,(vi s2))]∧Hs σ [])∨(∃ r',y5 = (.ret r')∧x = .ret∧Ends CX Try.f39.results.toList (vb r') x e σ)) ?_ ?_
       ·replace h:=hj5;refine .tR 4 V H fun b11 σ H => (.fV H 0 V (.lV H 0 V (.iV V (.aV V (.nila H fun H => ?_)))));refine .wh h V ?_ ?_ <;> intro h
        ·refine .skip ?_;obtain rfl:=sj h;exact (.inl ⟨_,V,V,EI V,(H.erase 0)⟩)
        refine .then ?_;refine .jn h .normal (fun y6 => [(1,(vl (cI .i64) ticks)),(5,(vi s1)),(21,(vl (cL Bound.cs) d)),(22,(vi (d.length:Int))),(23,(vi s1)),(28,(vl Bound.cs x2)),(29,(vi (x2.length:Int))),(30,(vi s2)),(51,(vb y6))]) (fun y6 => []) (fun y6 h => ?_) fun y6 e σ H h => ?_
        ·refine .then (.Z1l 14 V (by kernel_rfl) H fun b12 σ H B12 => (.mV V (.iV V (.mV V ?_))));obtain ⟨y7,hj7,h⟩:=bs h;refine .md H 10 [(64,(vb y7)),(1,(vl (cI .i64) ticks)),(5,(vi s1)),(8,(.ptr (b9 + 3) 2 0)),(9,(vi (Z0u x4 x5).1)),(10,(vi (Z0u x4 x5).2)),(21,(vl (cL Bound.cs) d)),(22,(vi (d.length:Int))),(23,(vi s1)),(28,(vl Bound.cs x2)),(29,(vi (x2.length:Int))),(30,(vi s2))] [.blk (b9 + 3) 32 [(.v (.int .i8 x3.Inf)),(vi x3.N)]] V ?_ fun e σ H => ?_
         ·refine .sp hj7 V ?_ ?_ <;> intro h
          ·refine .mV V (.mV V (.wt V V ?_));obtain ⟨x6,q6,h⟩:=bs h;refine .jV q6 V (.pV V (.mV V (.mV V (.wt V V ?_))));obtain ⟨x7,q7,h⟩:=bs h;refine .jV q7 V (.pV V (.iV V (.kT V (.nil ?_))));obtain rfl:=sj h;exact ⟨EI V,H.wk (by omega)⟩
          refine .ps 9 V (.kF V (.nil ?_));obtain rfl:=sj h;exact ⟨EI V,H.wk (by omega)⟩
         refine .aV V (.nila H fun H => ?_);refine .wh h V ?_ ?_ <;> intro h
         ·refine .skip ?_;obtain rfl:=sj h;exact ⟨V,EI V,(H.erase 0)⟩
         refine .Za 9 V H fun b13 σ H => (.mV V (.iV V (.mV V ?_)));refine .md H 5 [(72,(vb ((((Z0u x4 x5).2) == 0) && (decide (((Z0u x4 x5).1) > x3.N))))),(1,(vl (cI .i64) ticks)),(5,(vi s1)),(21,(vl (cL Bound.cs) d)),(22,(vi (d.length:Int))),(23,(vi s1)),(28,(vl Bound.cs x2)),(29,(vi (x2.length:Int))),(30,(vi s2))] [] V ?_ fun e σ H => ?_
         ·refine .split V V ?_ ?_ <;> intro hc8
          ·refine .mV V (.fV H 0 V (.lV H 0 V (.iV V (.kT V (.nil ?_)))));exact ⟨⟨Z13 hc8,V,V,V,V,V,V,V,V,U⟩,(H.erase 0).wk (by omega)⟩
          ·refine .ps 4 V (.kF V (.nil ?_));exact ⟨⟨Z11 hc8,V,V,V,V,V,V,V,V,U⟩,(H.erase 0).wk (by omega)⟩
         refine .aV V (.nila H fun H => ?_);obtain rfl:=sj h;exact ⟨V,EI V,H⟩
        refine .wh h V ?_ ?_ <;> intro h
        ·refine .tR 1 V H fun b14 σ H => (.aV V (.nila H fun H => (.ret ?_)));obtain rfl:=sj h;exact (.inr ⟨_,V,V,(Ends.H (xs:=[(vb false)]) (.inr V) H (.tmp (v:=(vb false)) V .nil) (.one (.c (.v _))))⟩)
        refine .skip ?_;obtain rfl:=sj h;exact (.inl ⟨_,V,V,EI V,H⟩)
       ·rintro x e σ (⟨a6,rfl,rfl,he,H⟩ | ⟨r',rfl,rfl,hE⟩)
        ·replace h:=jgo h;obtain ⟨e,rfl⟩:=he.ex;obtain rfl:=sj h;exact (.inl ⟨_,V,V,EI V,H⟩)
        ·replace h:=jret h;obtain rfl:=sj h;exact (.inr ⟨_,V,V,hE⟩)
      ·rintro x e σ (⟨a7,rfl,rfl,he,H⟩ | ⟨r',rfl,rfl,hE⟩)
       ·replace h:=jgo h;obtain ⟨e,rfl⟩:=he.ex;obtain rfl:=sj h;exact (.inl ⟨_,V,V,EI V,H⟩)
       ·replace h:=jret h;obtain rfl:=sj h;exact (.inr ⟨_,V,V,hE⟩)
     ·rintro x e σ (⟨a8,rfl,rfl,he,H⟩ | ⟨r',rfl,rfl,hE⟩)
      ·replace h:=jgo h;obtain ⟨e,rfl⟩:=he.ex;refine .Za 2 V H fun b15 σ H => (.iV V (.mV V (.nila H fun H => ?_)));obtain rfl:=sj h;exact ⟨V,EI V,H⟩
      ·replace h:=jret h;obtain rfl:=sj h;exact ⟨nofun,(.inr ⟨_,V,V,hE⟩)⟩
    refine .exit ?_;obtain rfl:=sj h;exact ⟨nofun,(.inl ⟨_,V,V,EI V,H⟩)⟩
   ·rintro x e σ (⟨a9,rfl,rfl,he,H⟩ | ⟨r',rfl,rfl,hE⟩)
    ·replace h:=jgo h;obtain ⟨e,rfl⟩:=he.ex;refine .Za 2 V H fun b16 σ H => (.iV V (.mV V (.nila H fun H => ?_)));obtain rfl:=sj h;exact ⟨V,EI V,H⟩
    ·replace h:=jret h;obtain rfl:=sj h;exact ⟨nofun,(.inr ⟨_,V,V,hE⟩)⟩
  refine .exit ?_;obtain rfl:=sj h;exact ⟨nofun,(.inl ⟨_,V,V,U,H⟩)⟩
 ·rintro x e σ (⟨a10,rfl,rfl,he,H⟩ | ⟨r',rfl,rfl,hE⟩)
  ·replace h:=jgo h;obtain ⟨e,rfl⟩:=he.ex;refine .tR 1 V H fun b17 σ H => (.aV V (.nila H fun H => (.ret ?_)));obtain rfl:=sj h;exact Ends.eR V
  ·replace h:=jret h;obtain rfl:=sj h;exact hE
theorem Z3y {r:Bool} (h:Z0l = some r):Fn CX 35 [] (vb r):=by
 refine Fn.go Try.func35 V fun σ H => ?_;unfold Z0l at h;refine .tR 1 V H fun b1 σ H => (.aV V (.nila H fun H => (.tR 11 V H fun b2 σ H => (.cV (Zl V) V (.bV [(vi 0),(vi 1),(.v (.int .i8 (Z1 5).Inf)),(vi (Z1 5).N)] V (.cV (Zl V) V (.bV [(vi 1),(vi 0),(.v (.int .i8 (Z1 (-2)).Inf)),(vi (Z1 (-2)).N)] V (.Z2O (sz:=4) ([(epactlaw24_Set.mk 0 1 (Z1 5)),(epactlaw24_Set.mk 1 0 (Z1 (-2)))].map epactlaw24_Set.cs) H (by omega) (by omega) V V V V V V V V V fun σ H => ?_))))))));obtain ⟨x1,q1,h⟩:=bs h;refine .callX (xs:=[(vi 2),(.buf (b2 + 4) 2 4)]) (ys:=[(vi 2),(vl epactlaw24_Set.cs [(epactlaw24_Set.mk 0 1 (Z1 5)),(epactlaw24_Set.mk 1 0 (Z1 (-2)))])]) H V (.cons (.c (.v _)) (.cons (.c (.s 0 V)) .nil)) (Z1O q1) V V nofun V fun σ H => (.m1 (.tup [(vl (cL Bound.cs) x1.1),(vb x1.2)]) V V (.xV V (.xV V (.aV V (.aV V (.nila H fun H => (.tR 9 V H fun b3 σ H => (.mV V ?_))))))));obtain ⟨x2,q2,h⟩:=bs h;refine .cV (Z1P q2) V (.m1 (.tup [(vl (cL Bound.cs) x2.1),(vb x2.2.1),(vi x2.2.2)]) V V (.xV V (.xV V (.xV V (.aV V (.aV V (.aV V (.nila H fun H => ?_))))))));refine .tR 13 V H fun b4 σ H => (.cV (Zl V) V (.bV [(vi 0),(vi 1),(.v (.int .i8 (Z1 5).Inf)),(vi (Z1 5).N)] V (.cV (Zl V) V (.bV [(vi 1),(vi 0),(.v (.int .i8 (Z1 (-2)).Inf)),(vi (Z1 (-2)).N)] V (.cV (Zl V) V (.bV [(vi 1),(vi 2),(.v (.int .i8 (Z1 1).Inf)),(vi (Z1 1).N)] V (.Z2O (sz:=4) ([(epactlaw24_Set.mk 0 1 (Z1 5)),(epactlaw24_Set.mk 1 0 (Z1 (-2))),(epactlaw24_Set.mk 1 2 (Z1 1))].map epactlaw24_Set.cs) H (by omega) (by omega) V V V V V V V V V fun σ H => ?_)))))))
 obtain ⟨x3,q3,h⟩:=bs h;refine .callX (xs:=[(vi 3),(.buf (b4 + 6) 3 4)]) (ys:=[(vi 3),(vl epactlaw24_Set.cs [(epactlaw24_Set.mk 0 1 (Z1 5)),(epactlaw24_Set.mk 1 0 (Z1 (-2))),(epactlaw24_Set.mk 1 2 (Z1 1))])]) H V (.cons (.c (.v _)) (.cons (.c (.s 0 V)) .nil)) (Z1O q3) V V nofun V fun σ H => (.m1 (.tup [(vl (cL Bound.cs) x3.1),(vb x3.2)]) V V (.xV V (.xV V (.aV V (.aV V (.nila H fun H => (.tR 9 V H fun b5 σ H => (.mV V ?_))))))));obtain ⟨x4,q4,h⟩:=bs h;refine .cV (Z1P q4) V (.m1 (.tup [(vl (cL Bound.cs) x4.1),(vb x4.2.1),(vi x4.2.2)]) V V (.xV V (.xV V (.xV V (.aV V (.aV V (.aV V (.nila H fun H => ?_))))))));refine .tR 11 V H fun b6 σ H => (.cV (Zl V) V (.bV [(vi 0),(vi 1),(.v (.int .i8 (Z1 5).Inf)),(vi (Z1 5).N)] V (.cV (Zl V) V (.bV [(vi 1),(vi 0),(.v (.int .i8 (Z1 (-6)).Inf)),(vi (Z1 (-6)).N)] V (.Z2O (sz:=4) ([(epactlaw24_Set.mk 0 1 (Z1 5)),(epactlaw24_Set.mk 1 0 (Z1 (-6)))].map epactlaw24_Set.cs) H (by omega) (by omega) V V V V V V V V V fun σ H => ?_)))));obtain ⟨x5,q5,h⟩:=bs h;refine .callX (xs:=[(vi 2),(.buf (b6 + 4) 2 4)]) (ys:=[(vi 2),(vl epactlaw24_Set.cs [(epactlaw24_Set.mk 0 1 (Z1 5)),(epactlaw24_Set.mk 1 0 (Z1 (-6)))])]) H V (.cons (.c (.v _)) (.cons (.c (.s 0 V)) .nil)) (Z1O q5) V V nofun V fun σ H => (.m1 (.tup [(vl (cL Bound.cs) x5.1),(vb x5.2)]) V V (.xV V (.xV V (.aV V (.aV V (.nila H fun H => (.tR 9 V H fun b7 σ H => (.mV V ?_))))))))
 obtain ⟨x6,q6,h⟩:=bs h;refine .cV (Z1P q6) V (.m1 (.tup [(vl (cL Bound.cs) x6.1),(vb x6.2.1),(vi x6.2.2)]) V V (.xV V (.xV V (.xV V (.aV V (.aV V (.aV V (.nila H fun H => ?_))))))));refine .tR 6 V H fun b8 σ H => ?_;obtain ⟨x7,q7,h⟩:=bs h;refine .cV (Z4p q7) V (.m1 (.tup [(vl (cL Bound.cs) x7.1),(vi x7.2)]) V V (.xV V (.xV V (.aV V (.aV V (.nila H fun H => (.then (.tR 47 V H fun b9 σ H => ?_))))))));refine .mV V (.tV V (.mV V ?_));refine .md H 3 [(74,(vb ((!x1.2) || (!x3.2)))),(1,(vl (cL Bound.cs) x1.1)),(3,(vl (cL Bound.cs) x2.1)),(4,(vb x2.2.1)),(5,(vi x2.2.2)),(8,(vl (cL Bound.cs) x4.1)),(9,(vb x4.2.1)),(10,(vi x4.2.2)),(12,(vb x5.2)),(14,(vb x6.2.1)),(15,(vi x6.2.2)),(16,(vl (cL Bound.cs) x7.1)),(17,(vi x7.2))] [] rfl ?_ fun e σ H => ?_
 ·refine .split V V ?_ ?_ <;> intro hc1
  ·refine .ps 2 V (.kT V (.nil ?_));exact ⟨⟨or_T hc1,V,V,V,V,V,V,V,V,V,V,V,V,U⟩,(((H.erase 2).erase 1).erase 0).wk (by omega)⟩
  ·refine .mV V (.tV V (.kF V (.nil ?_)));exact ⟨⟨or_F hc1,V,V,V,V,V,V,V,V,V,V,V,V,U⟩,(((H.erase 2).erase 1).erase 0).wk (by omega)⟩
 refine .mV V ?_;refine .md H 3 [(78,(vb (((!x1.2) || (!x3.2)) || (!x5.2)))),(1,(vl (cL Bound.cs) x1.1)),(3,(vl (cL Bound.cs) x2.1)),(4,(vb x2.2.1)),(5,(vi x2.2.2)),(8,(vl (cL Bound.cs) x4.1)),(9,(vb x4.2.1)),(10,(vi x4.2.2)),(14,(vb x6.2.1)),(15,(vi x6.2.2)),(16,(vl (cL Bound.cs) x7.1)),(17,(vi x7.2))] [] rfl ?_ fun e σ H => ?_
 ·refine .split V V ?_ ?_ <;> intro hc2
  ·refine .ps 2 V (.kT V (.nil ?_));exact ⟨⟨or_T hc2,V,V,V,V,V,V,V,V,V,V,V,U⟩,H.wk (by omega)⟩
  ·refine .mV V (.tV V (.kF V (.nil ?_)));exact ⟨⟨or_F hc2,V,V,V,V,V,V,V,V,V,V,V,U⟩,H.wk (by omega)⟩
 refine .mV V ?_;refine .md H 3 [(82,(vb ((((!x1.2) || (!x3.2)) || (!x5.2)) || (!x2.2.1)))),(1,(vl (cL Bound.cs) x1.1)),(3,(vl (cL Bound.cs) x2.1)),(5,(vi x2.2.2)),(8,(vl (cL Bound.cs) x4.1)),(9,(vb x4.2.1)),(10,(vi x4.2.2)),(14,(vb x6.2.1)),(15,(vi x6.2.2)),(16,(vl (cL Bound.cs) x7.1)),(17,(vi x7.2))] [] rfl ?_ fun e σ H => ?_
 ·refine .split V V ?_ ?_ <;> intro hc3
  ·refine .ps 2 V (.kT V (.nil ?_));exact ⟨⟨or_T hc3,V,V,V,V,V,V,V,V,V,V,U⟩,H.wk (by omega)⟩
  ·refine .mV V (.tV V (.kF V (.nil ?_)));exact ⟨⟨or_F hc3,V,V,V,V,V,V,V,V,V,V,U⟩,H.wk (by omega)⟩
 refine .mV V ?_;refine .md H 3 [(86,(vb (((((!x1.2) || (!x3.2)) || (!x5.2)) || (!x2.2.1)) || (!x4.2.1)))),(1,(vl (cL Bound.cs) x1.1)),(3,(vl (cL Bound.cs) x2.1)),(5,(vi x2.2.2)),(8,(vl (cL Bound.cs) x4.1)),(10,(vi x4.2.2)),(14,(vb x6.2.1)),(15,(vi x6.2.2)),(16,(vl (cL Bound.cs) x7.1)),(17,(vi x7.2))] [] rfl ?_ fun e σ H => ?_
 ·refine .split V V ?_ ?_ <;> intro hc4
  ·refine .ps 2 V (.kT V (.nil ?_));exact ⟨⟨or_T hc4,V,V,V,V,V,V,V,V,V,U⟩,H.wk (by omega)⟩
  ·refine .mV V (.tV V (.kF V (.nil ?_)));exact ⟨⟨or_F hc4,V,V,V,V,V,V,V,V,V,U⟩,H.wk (by omega)⟩
 refine .mV V ?_;refine .md H 2 [(89,(vb ((((((!x1.2) || (!x3.2)) || (!x5.2)) || (!x2.2.1)) || (!x4.2.1)) || x6.2.1))),(1,(vl (cL Bound.cs) x1.1)),(3,(vl (cL Bound.cs) x2.1)),(5,(vi x2.2.2)),(8,(vl (cL Bound.cs) x4.1)),(10,(vi x4.2.2)),(15,(vi x6.2.2)),(16,(vl (cL Bound.cs) x7.1)),(17,(vi x7.2))] [] rfl ?_ fun e σ H => ?_
 ·refine .split V V ?_ ?_ <;> intro hc5
  ·refine .ps 1 V (.kT V (.nil ?_));exact ⟨⟨or_T hc5,V,V,V,V,V,V,V,V,U⟩,H.wk (by omega)⟩
  ·refine .mV V (.kF V (.nil ?_));exact ⟨⟨or_F hc5,V,V,V,V,V,V,V,V,U⟩,H.wk (by omega)⟩
 refine .mV V ?_;refine .md H 3 [(93,(vb (((((((!x1.2) || (!x3.2)) || (!x5.2)) || (!x2.2.1)) || (!x4.2.1)) || x6.2.1) || (x2.2.2 != 0)))),(1,(vl (cL Bound.cs) x1.1)),(3,(vl (cL Bound.cs) x2.1)),(8,(vl (cL Bound.cs) x4.1)),(10,(vi x4.2.2)),(15,(vi x6.2.2)),(16,(vl (cL Bound.cs) x7.1)),(17,(vi x7.2))] [] rfl ?_ fun e σ H => ?_
 ·refine .split V V ?_ ?_ <;> intro hc6
  ·refine .ps 2 V (.kT V (.nil ?_));exact ⟨⟨or_T hc6,V,V,V,V,V,V,V,U⟩,H.wk (by omega)⟩
  ·refine .mV V (.iV V (.kF V (.nil ?_)));exact ⟨⟨or_F hc6,V,V,V,V,V,V,V,U⟩,H.wk (by omega)⟩
 refine .mV V ?_;refine .md H 3 [(97,(vb ((((((((!x1.2) || (!x3.2)) || (!x5.2)) || (!x2.2.1)) || (!x4.2.1)) || x6.2.1) || (x2.2.2 != 0)) || (x4.2.2 != 0)))),(1,(vl (cL Bound.cs) x1.1)),(3,(vl (cL Bound.cs) x2.1)),(8,(vl (cL Bound.cs) x4.1)),(15,(vi x6.2.2)),(16,(vl (cL Bound.cs) x7.1)),(17,(vi x7.2))] [] rfl ?_ fun e σ H => ?_
 ·refine .split V V ?_ ?_ <;> intro hc7
  ·refine .ps 2 V (.kT V (.nil ?_));exact ⟨⟨or_T hc7,V,V,V,V,V,V,U⟩,H.wk (by omega)⟩
  ·refine .mV V (.iV V (.kF V (.nil ?_)));exact ⟨⟨or_F hc7,V,V,V,V,V,V,U⟩,H.wk (by omega)⟩
 refine .mV V ?_;refine .md H 3 [(101,(vb (((((((((!x1.2) || (!x3.2)) || (!x5.2)) || (!x2.2.1)) || (!x4.2.1)) || x6.2.1) || (x2.2.2 != 0)) || (x4.2.2 != 0)) || (x6.2.2 != 0)))),(1,(vl (cL Bound.cs) x1.1)),(3,(vl (cL Bound.cs) x2.1)),(8,(vl (cL Bound.cs) x4.1)),(16,(vl (cL Bound.cs) x7.1)),(17,(vi x7.2))] [] rfl ?_ fun e σ H => ?_
 ·refine .split V V ?_ ?_ <;> intro hc8
  ·refine .ps 2 V (.kT V (.nil ?_));exact ⟨⟨or_T hc8,V,V,V,V,V,U⟩,H.wk (by omega)⟩
  ·refine .mV V (.iV V (.kF V (.nil ?_)));exact ⟨⟨or_F hc8,V,V,V,V,V,U⟩,H.wk (by omega)⟩
 refine .mV V ?_;refine .md H 3 [(105,(vb ((((((((((!x1.2) || (!x3.2)) || (!x5.2)) || (!x2.2.1)) || (!x4.2.1)) || x6.2.1) || (x2.2.2 != 0)) || (x4.2.2 != 0)) || (x6.2.2 != 0)) || (x7.2 != 0)))),(1,(vl (cL Bound.cs) x1.1)),(3,(vl (cL Bound.cs) x2.1)),(8,(vl (cL Bound.cs) x4.1)),(16,(vl (cL Bound.cs) x7.1))] [] rfl ?_ fun e σ H => ?_
 ·refine .split V V ?_ ?_ <;> intro hc9
  ·refine .ps 2 V (.kT V (.nil ?_));exact ⟨⟨or_T hc9,V,V,V,V,U⟩,H.wk (by omega)⟩
  ·refine .mV V (.iV V (.kF V (.nil ?_)));exact ⟨⟨or_F hc9,V,V,V,V,U⟩,H.wk (by omega)⟩
 refine .mV V ?_;obtain ⟨y1,hj1,h⟩:=bs h;refine .md H 4 [(110,(vb y1)),(1,(vl (cL Bound.cs) x1.1)),(3,(vl (cL Bound.cs) x2.1)),(8,(vl (cL Bound.cs) x4.1)),(16,(vl (cL Bound.cs) x7.1))] [] V ?_ fun e σ H => ?_
 ·refine .sp hj1 V ?_ ?_ <;> intro h
  ·refine .ps 3 V (.kT V (.nil ?_));obtain rfl:=sj h;exact ⟨EI V,H.wk (by omega)⟩
  refine .mV V (.wt V V ?_);obtain ⟨x8,q8,h⟩:=bs h;refine .cV (Z2L q8) V (.tV V (.kF V (.nil ?_)));obtain rfl:=sj h;exact ⟨EI V,H.wk (by omega)⟩
 refine .mV V ?_;obtain ⟨y2,hj2,h⟩:=bs h;refine .md H 4 [(115,(vb y2)),(1,(vl (cL Bound.cs) x1.1)),(3,(vl (cL Bound.cs) x2.1)),(8,(vl (cL Bound.cs) x4.1)),(16,(vl (cL Bound.cs) x7.1))] [] V ?_ fun e σ H => ?_
 ·refine .sp hj2 V ?_ ?_ <;> intro h
  ·refine .ps 3 V (.kT V (.nil ?_));obtain rfl:=sj h;exact ⟨EI V,H.wk (by omega)⟩
  refine .mV V (.wt V V ?_);obtain ⟨x9,q9,h⟩:=bs h;refine .cV (Z2L q9) V (.tV V (.kF V (.nil ?_)));obtain rfl:=sj h;exact ⟨EI V,H.wk (by omega)⟩
 refine .nila H fun H => ?_;refine .wh h V ?_ ?_ <;> intro h
 ·refine .tR 1 V H fun b10 σ H => (.aV V (.nila H fun H => (.ret ?_)));obtain rfl:=sj h;exact Ends.eR V
 refine .skip (.then (.Z1l 42 V (by kernel_rfl) H fun b11 σ H B11 => (.mV V (.mV V ?_))));obtain ⟨x10,q10,h⟩:=bs h;refine .cV (Z2j q10) V (.mV V ?_);obtain ⟨y3,hj3,h⟩:=bs h;refine .md H 8 [(127,(vb y3)),(1,(vl (cL Bound.cs) x1.1)),(16,(vl (cL Bound.cs) x7.1))] [] V ?_ fun e σ H => ?_
 ·refine .sp hj3 V ?_ ?_ <;> intro h
  ·refine .mV V (.wt V V ?_);obtain ⟨x11,q11,h⟩:=bs h;refine .jV q11 V (.pV V (.wt V V ?_));obtain ⟨x12,q12,h⟩:=bs h;refine .jV q12 V (.qV [(.int .i8 x12.Inf),(.int .i64 x12.N)] V (.cV (Zl V) V (.wt V V (.binA (u:=(.agg [(.v (.int .i8 x12.Inf)),(vi x12.N)])) (w:=(.agg [(.v (.int .i8 (Z1 6).Inf)),(vi (Z1 6).N)])) (r:=.bool ((x12.Inf == ((Z1 6).Inf)) && ((x12.N == ((Z1 6).N)) && true))) V V (by kernel_rfl) (fun _ => Z5L V V V V) V (.kT V (.nil ?_))))));obtain rfl:=sj h;exact ⟨EI V,H.wk (by omega)⟩
  refine .ps 7 V (.kF V (.nil ?_));obtain rfl:=sj h;exact ⟨EI V,H.wk (by omega)⟩
 refine .mV V ?_;obtain ⟨y4,hj4,h⟩:=bs h;refine .md H 8 [(136,(vb y4)),(1,(vl (cL Bound.cs) x1.1)),(16,(vl (cL Bound.cs) x7.1))] [] V ?_ fun e σ H => ?_
 ·refine .sp hj4 V ?_ ?_ <;> intro h
  ·refine .mV V (.wt V V ?_);obtain ⟨x13,q13,h⟩:=bs h;refine .jV q13 V (.pV V (.wt V V ?_));obtain ⟨x14,q14,h⟩:=bs h;refine .jV q14 V (.qV [(.int .i8 x14.Inf),(.int .i64 x14.N)] V (.cV (Zl V) V (.wt V V (.binA (u:=(.agg [(.v (.int .i8 x14.Inf)),(vi x14.N)])) (w:=(.agg [(.v (.int .i8 (Z1 0).Inf)),(vi (Z1 0).N)])) (r:=.bool ((x14.Inf == ((Z1 0).Inf)) && ((x14.N == ((Z1 0).N)) && true))) V V (by kernel_rfl) (fun _ => Z5L V V V V) V (.kT V (.nil ?_))))));obtain rfl:=sj h;exact ⟨EI V,H.wk (by omega)⟩
  refine .ps 7 V (.kF V (.nil ?_));obtain rfl:=sj h;exact ⟨EI V,H.wk (by omega)⟩
 refine .mV V ?_;obtain ⟨y5,hj5,h⟩:=bs h;refine .md H 8 [(145,(vb y5)),(1,(vl (cL Bound.cs) x1.1))] [] V ?_ fun e σ H => ?_
 ·refine .sp hj5 V ?_ ?_ <;> intro h
  ·refine .mV V (.wt V V ?_);obtain ⟨x15,q15,h⟩:=bs h;refine .jV q15 V (.pV V (.wt V V ?_));obtain ⟨x16,q16,h⟩:=bs h;refine .jV q16 V (.qV [(.int .i8 x16.Inf),(.int .i64 x16.N)] V (.bV [(.v (.int .i8 1)),(vi 0)] V (.wt V V (.binA (u:=(.agg [(.v (.int .i8 x16.Inf)),(vi x16.N)])) (w:=(.agg [(.v (.int .i8 1)),(vi 0)])) (r:=.bool ((x16.Inf == 1) && ((x16.N == 0) && true))) V V (by kernel_rfl) (fun _ => Z5L V V V V) V (.kT V (.nil ?_))))));obtain rfl:=sj h;exact ⟨EI V,H.wk (by omega)⟩
  refine .ps 7 V (.kF V (.nil ?_));obtain rfl:=sj h;exact ⟨EI V,H.wk (by omega)⟩
 refine .mV V ?_;obtain ⟨y6,hj6,h⟩:=bs h;refine .md H 4 [(150,(vb y6)),(1,(vl (cL Bound.cs) x1.1))] [] V ?_ fun e σ H => ?_
 ·refine .sp hj6 V ?_ ?_ <;> intro h
  ·refine .mV V (.wt V V (.Z2O (sz:=1) ([3,7].map (cI .i64)) H (by omega) (by omega) V V V V V V V V V fun σ H => (.wt V V ?_)));obtain ⟨x17,q17,h⟩:=bs h;refine .callX (xs:=[(vl (cL Bound.cs) x1.1),(.buf (b11 + 32) 2 1)]) (ys:=[(vl (cL Bound.cs) x1.1),(vl (cI .i64) [3,7])]) H V (.cons (.c (.v _)) (.cons (.c (.s 0 V)) .nil)) (Z3j q17) V V (fun _ => by kernel_rfl) V fun σ H => (.kT V (.nil ?_));obtain rfl:=sj h;exact ⟨EI V,(H.erase 0).wk (by omega)⟩
  refine .ps 3 V (.kF V (.nil ?_));obtain rfl:=sj h;exact ⟨EI V,H.wk (by omega)⟩
 refine .mV V ?_;obtain ⟨y7,hj7,h⟩:=bs h;refine .md H 5 [(156,(vb y7))] [] V ?_ fun e σ H => ?_
 ·refine .sp hj7 V ?_ ?_ <;> intro h
  ·refine .mV V (.wt V V (.Z2O (sz:=1) ([3,9].map (cI .i64)) H (by omega) (by omega) V V V V V V V V V fun σ H => (.wt V V ?_)));obtain ⟨x18,q18,h⟩:=bs h;refine .callX (xs:=[(vl (cL Bound.cs) x1.1),(.buf (b11 + 37) 2 1)]) (ys:=[(vl (cL Bound.cs) x1.1),(vl (cI .i64) [3,9])]) H V (.cons (.c (.v _)) (.cons (.c (.s 0 V)) .nil)) (Z3j q18) V V (fun _ => by kernel_rfl) V fun σ H => (.tV V (.kT V (.nil ?_)));obtain rfl:=sj h;exact ⟨EI V,(H.erase 0).wk (by omega)⟩
  refine .ps 4 V (.kF V (.nil ?_));obtain rfl:=sj h;exact ⟨EI V,H.wk (by omega)⟩
 refine .aV V (.nila H fun H => (.ret ?_));obtain rfl:=sj h;exact Ends.eR V
theorem Z0s {r:Bool} (h:ZB = r):Fn CX 35 [] (vb r):=by
 subst h;exact Z3y Z3S
theorem Z2x {b:Bound} {r:Bool} (h:Zk b = r):Fn CX 42 [(.agg (vs (Bound.cs b)))] (vb r):=by
 refine Fn.go Try.func42 V fun σ H => ?_;unfold Zk at h;refine .tR 2 V H fun b1 σ H => (.boxH (cs:=[(.v (.int .i8 b.Inf)),(vi b.N)]) H (by omega) (by omega) V V V fun σ H => (.aV V (.nila H fun H => (.then (.tR 3 V H fun b2 σ H => (.fV H 0 V (.lV H 0 V (.iV V ?_))))))));refine .nila H fun H => ?_;refine .wh h V ?_ ?_ <;> intro h
 ·refine .tR 4 V H fun b3 σ H => (.fV H 0 V (.lV H 0 V (.iV V (.aV V (.nila H fun H => (.ret ?_))))));subst h;exact Ends.eR V
 refine .skip (.tR 14 V H fun b4 σ H => (.fV H 0 V (.lV H 0 V (.iV V (.mV V ?_)))));refine .md H 4 [(16,(vb ((b.Inf == 0) && (decide (b.N ≥ (-1125899906842624)))))),(1,(.ptr (b1 + 0) 2 0))] [.blk (b1 + 0) 32 [(.v (.int .i8 b.Inf)),(vi b.N)]] V ?_ fun e σ H => ?_
 ·refine .split V V ?_ ?_ <;> intro hc2
  ·refine .fV H 0 V (.lV H 0 V (.iV V (.kT V (.nil ?_))));exact ⟨⟨Z13 hc2,V,U⟩,H.wk (by omega)⟩
  ·refine .ps 3 V (.kF V (.nil ?_));exact ⟨⟨Z11 hc2,V,U⟩,H.wk (by omega)⟩
 refine .mV V ?_;refine .md H 4 [(21,(vb (((b.Inf == 0) && (decide (b.N ≥ (-1125899906842624)))) && (decide (b.N≤1125899906842624)))))] [] V ?_ fun e σ H => ?_
 ·refine .split V V ?_ ?_ <;> intro hc3
  ·refine .fV H 0 V (.lV H 0 V (.iV V (.kT V (.nil ?_))));exact ⟨⟨Z13 hc3,U⟩,(H.erase 0).wk (by omega)⟩
  ·refine .ps 3 V (.kF V (.nil ?_));exact ⟨⟨Z11 hc3,U⟩,(H.erase 0).wk (by omega)⟩
 refine .aV V (.nila H fun H => (.ret ?_));subst h;exact Ends.eR V
theorem Z0V {d:(List (List Bound))} {r:Bool} (h:Z6 d = some r):Fn CX 37 [(vl (cL Bound.cs) d)] (vb r):=by
 refine Fn.go Try.func37 V fun σ H => ?_;unfold Z6 at h;refine .tR 1 V H fun b1 σ H => (.aV V (.nila H fun H => (.then (.tR 3 V H fun b2 σ H => (.mV V (.nV V (.iV V (.nila H fun H => ?_))))))));refine .wh h V ?_ ?_ <;> intro h
 ·refine .tR 1 V H fun b3 σ H => (.aV V (.nila H fun H => (.ret ?_)));obtain rfl:=sj h;exact Ends.eR V
 refine .skip (.then (.tR 1 V H fun b4 σ H => (.aV V (.nila H fun H => (.inBlock ?_)))));obtain ⟨y1,hj1,h⟩:=bs h;obtain ⟨n1,hj1⟩:=ZS.1 hj1;refine .mono (Runs.loopO hj1 (fun s1 e σ => ZE e [(0,(vl (cL Bound.cs) d)),(3,(vi s1))]∧Hs σ []) (fun y1 x e σ => (∃ a1,y1 = (.go a1)∧x = .exit 0∧ZE e []∧Hs σ [])∨(∃ r',y1 = (.ret r')∧x = .ret∧Ends CX Try.f37.results.toList (vb r') x e σ)) ⟨EI V,H⟩ ?_) ?_
 ·intro s1 e σ hI z h;obtain ⟨he,H⟩:=hI;obtain ⟨e,rfl⟩:=he.ex;unfold Z6.s0 at h;refine .then (.tR 4 V H fun b5 σ H => (.mV V (.mV V (.nV V (.iV V (.nila H fun H => ?_))))));refine .wh h V ?_ ?_ <;> intro h
  ·refine .skip (.then (.inBlock (.then (.tR 8 V H fun b6 σ H => (.mV V (.mV V ?_))))));obtain ⟨x1,q1,h⟩:=bs h;refine .jV q1 V (.pV V (.nV V (.mV V (.nV V (.iV V (.nila H fun H => ?_))))));refine .wh h V ?_ ?_ <;> intro h
   ·refine .tR 1 V H fun b7 σ H => (.aV V (.nila H fun H => (.ret ?_)));obtain rfl:=sj h;exact ⟨nofun,(.inr ⟨_,V,V,(Ends.H (xs:=[(vb false)]) (.inr V) H (.tmp (v:=(vb false)) V .nil) (.one (.c (.v _))))⟩)⟩
   refine .skip (.tR 1 V H fun b8 σ H => (.aV V (.nila H fun H => (.inBlock ?_))));obtain ⟨y2,hj2,h⟩:=bs h;obtain ⟨n2,hj2⟩:=ZS.1 hj2;refine .mono (Runs.loopO hj2 (fun s2 e σ => ZE e [(0,(vl (cL Bound.cs) d)),(3,(vi s1)),(4,(vi s2))]∧Hs σ []) (fun y2 x e σ => (∃ a2,y2 = (.go a2)∧x = .exit 2∧ZE e [(0,(vl (cL Bound.cs) d)),(3,(vi s1))]∧Hs σ [])∨(∃ r',y2 = (.ret r')∧x = .ret∧Ends CX Try.f37.results.toList (vb r') x e σ)) ⟨EI V,H⟩ ?_) ?_
   ·intro s2 e σ hI z h;obtain ⟨he,H⟩:=hI;obtain ⟨e,rfl⟩:=he.ex;unfold Z6.s1 at h;refine .then (.tR 4 V H fun b9 σ H => (.mV V (.mV V (.nV V (.iV V (.nila H fun H => ?_))))));refine .wh h V ?_ ?_ <;> intro h
    ·refine .skip (.then (.inBlock (.tR 9 V H fun b10 σ H => (.mV V (.mV V ?_)))));obtain ⟨x2,q2,h⟩:=bs h;refine .jV q2 V (.pV V (.mV V ?_));obtain ⟨x3,q3,h⟩:=bs h;refine .jV q3 V (.qV [(.int .i8 x3.Inf),(.int .i64 x3.N)] V (.cV (Z2x (V:Zk x3 = _)) V (.tV V (.nila H fun H => ?_))));refine .wh h V ?_ ?_ <;> intro h
     ·refine .tR 1 V H fun b11 σ H => (.aV V (.nila H fun H => (.ret ?_)));obtain rfl:=sj h;exact ⟨nofun,(.inr ⟨_,V,V,(Ends.H (xs:=[(vb false)]) (.inr V) H (.tmp (v:=(vb false)) V .nil) (.one (.c (.v _))))⟩)⟩
     refine .skip (.Za 3 V H fun b12 σ H => (.mV V (.iV V (.aV V (.nila H fun H => ?_)))));obtain rfl:=sj h;exact ⟨V,EI V,H⟩
    refine .exit ?_;obtain rfl:=sj h;exact ⟨nofun,(.inl ⟨_,V,V,EI V,H⟩)⟩
   ·rintro x e σ (⟨a3,rfl,rfl,he,H⟩ | ⟨r',rfl,rfl,hE⟩)
    ·replace h:=jgo h;obtain ⟨e,rfl⟩:=he.ex;refine .Za 3 V H fun b13 σ H => (.mV V (.iV V (.aV V (.nila H fun H => ?_))));obtain rfl:=sj h;exact ⟨V,EI V,H⟩
    ·replace h:=jret h;obtain rfl:=sj h;exact ⟨nofun,(.inr ⟨_,V,V,hE⟩)⟩
  refine .exit ?_;obtain rfl:=sj h;exact ⟨nofun,(.inl ⟨_,V,V,U,H⟩)⟩
 ·rintro x e σ (⟨a4,rfl,rfl,he,H⟩ | ⟨r',rfl,rfl,hE⟩)
  ·replace h:=jgo h;obtain ⟨e,rfl⟩:=he.ex;refine .tR 1 V H fun b14 σ H => (.aV V (.nila H fun H => (.ret ?_)));obtain rfl:=sj h;exact Ends.eR V
  ·replace h:=jret h;obtain rfl:=sj h;exact hE
end Go.Dn

namespace Go.Dn
open Go Go.Proofs
set_option maxRecDepth 100000
set_option maxHeartbeats 4000000
theorem Z4T {d:(List (List Bound))} {ticks:(List Int)} {r:Bool} (h:ZC d ticks = some r):Fn CX 40 [(vl (cL Bound.cs) d),(vl (cI .i64) ticks)] (vb r):=by
 refine Fn.go Try.func40 V fun σ H => ?_;unfold ZC at h;refine .tR 1 V H fun b1 σ H => (.aV V (.nila H fun H => (.then (.tR 10 V H fun b2 σ H => (.mV V ?_)))));obtain ⟨x1,q1,h⟩:=bs h;refine .cV (Z0V q1) V (.tV V (.mV V ?_));refine .md H 6 [(19,(vb ((!x1) || ((ticks.length:Int) != (d.length:Int))))),(0,(vl (cL Bound.cs) d)),(1,(vl (cI .i64) ticks))] [] rfl ?_ fun e σ H => ?_
 ·refine .split V V ?_ ?_ <;> intro hc1
  ·refine .ps 5 V (.kT V (.nil ?_));exact ⟨⟨or_T hc1,V,V,U⟩,H.wk (by omega)⟩
  ·refine .mV V (.nV V (.mV V (.nV V (.iV V (.kF V (.nil ?_))))));exact ⟨⟨or_F hc1,V,V,U⟩,H.wk (by omega)⟩
 refine .nila H fun H => ?_;refine .wh h V ?_ ?_ <;> intro h
 ·refine .tR 1 V H fun b3 σ H => (.aV V (.nila H fun H => (.ret ?_)));obtain rfl:=sj h;exact Ends.eR V
 refine .skip (.then (.tR 1 V H fun b4 σ H => (.aV V (.nila H fun H => (.inBlock ?_)))));obtain ⟨y1,hj1,h⟩:=bs h;obtain ⟨n1,hj1⟩:=ZS.1 hj1;refine .mono (Runs.loopO hj1 (fun s1 e σ => ZE e [(0,(vl (cL Bound.cs) d)),(1,(vl (cI .i64) ticks)),(5,(vi s1))]∧Hs σ []) (fun y1 x e σ => (∃ a1,y1 = (.go a1)∧x = .exit 0∧ZE e []∧Hs σ [])∨(∃ r',y1 = (.ret r')∧x = .ret∧Ends CX Try.f40.results.toList (vb r') x e σ)) ⟨EI V,H⟩ ?_) ?_
 ·intro s1 e σ hI z h;obtain ⟨he,H⟩:=hI;obtain ⟨e,rfl⟩:=he.ex;unfold ZC.s0 at h;refine .then (.tR 4 V H fun b5 σ H => (.mV V (.mV V (.nV V (.iV V (.nila H fun H => ?_))))));refine .wh h V ?_ ?_ <;> intro h
  ·refine .skip (.then (.inBlock (.tR 1 V H fun b6 σ H => (.aV V (.nila H fun H => (.inBlock ?_))))));obtain ⟨y2,hj2,h⟩:=bs h;obtain ⟨n2,hj2⟩:=ZS.1 hj2;refine .mono (Runs.loopO hj2 (fun s2 e σ => ZE e [(0,(vl (cL Bound.cs) d)),(1,(vl (cI .i64) ticks)),(5,(vi s1)),(6,(vi s2))]∧Hs σ []) (fun y2 x e σ => (∃ a2,y2 = (.go a2)∧x = .exit 2∧ZE e [(0,(vl (cL Bound.cs) d)),(1,(vl (cI .i64) ticks)),(5,(vi s1))]∧Hs σ [])∨(∃ r',y2 = (.ret r')∧x = .ret∧Ends CX Try.f40.results.toList (vb r') x e σ)) ⟨EI V,H⟩ ?_) ?_
   ·intro s2 e σ hI z h;obtain ⟨he,H⟩:=hI;obtain ⟨e,rfl⟩:=he.ex;unfold ZC.s1 at h;refine .then (.tR 4 V H fun b7 σ H => (.mV V (.mV V (.nV V (.iV V (.nila H fun H => ?_))))));refine .wh h V ?_ ?_ <;> intro h
    ·refine .skip (.then ?_);obtain ⟨y3,hj3,h⟩:=bs h;refine .mono (Q:=fun x e σ => (∃ a3,y3 = (.go a3)∧x = .normal∧ZE e [(0,(vl (cL Bound.cs) d)),(1,(vl (cI .i64) ticks)),(5,(vi s1)),(6,(vi s2))]∧Hs σ [])∨(∃ r',y3 = (.ret r')∧x = .ret∧Ends CX Try.f40.results.toList (vb r') x e σ)) ?_ ?_
     ·replace h:=hj3;refine .inBlock ?_;obtain ⟨y4,hj4,h⟩:=bs h;refine .mono (Q:=fun x e σ => (∃ a4,y4 = (.go a4)∧x = .normal∧ZE e [(0,(vl (cL Bound.cs) d)),(1,(vl (cI .i64) ticks)),(5,(vi s1)),(6,(vi s2))]∧Hs σ [])∨(∃ a5,y4 = (.ret (.go a5))∧x = .exit 3∧ZE e [(0,(vl (cL Bound.cs) d)),(1,(vl (cI .i64) ticks)),(5,(vi s1)),(6,(vi s2))]∧Hs σ [])∨(∃ r',y4 = (.ret (.ret r'))∧x = .ret∧Ends CX Try.f40.results.toList (vb r') x e σ)) ?_ ?_
      ·replace h:=hj4;refine .tR 9 V H fun b8 σ H => (.mV V (.mV V ?_));obtain ⟨x2,q2,h⟩:=bs h;refine .jV q2 V (.pV V (.mV V ?_));obtain ⟨x3,q3,h⟩:=bs h;refine .jV q3 V (.qV [(.int .i8 x3.Inf),(.int .i64 x3.N)] V (.Z1q (cs:=[(.v (.int .i8 0)),(vi 0)]) H (by omega) (by omega) V V fun σ H => (.sV [(.v (.int .i8 x3.Inf)),(vi x3.N)] H 0 V fun σ H => (.nila H fun H => (.then (.tR 3 V H fun b9 σ H => (.fV H 0 V (.lV H 0 V ?_))))))));refine .iV V (.nila H fun H => ?_);refine .wh h V ?_ ?_ <;> intro h
       ·refine .exit ?_;obtain rfl:=sj h;exact (.inr (.inl ⟨_,V,V,EI V,(H.erase 0)⟩))
       refine .skip (.then (.Z1l 10 V (by kernel_rfl) H fun b10 σ H B10 => (.mV V (.mV V ?_))));obtain ⟨x4,q4,h⟩:=bs h;refine .jV q4 V (.pV V (.mV V (.mV V ?_)));obtain ⟨x5,q5,h⟩:=bs h;refine .jV q5 V (.pV V (.aV V (.aV V (.nila H fun H => (.then (.tR 6 V H fun b11 σ H => (.mV V (.iV V ?_))))))));refine .mV V ?_;refine .md H 3 [(55,(vb ((decide (x4 < 0)) && (decide (x5 ≥ 0))))),(0,(vl (cL Bound.cs) d)),(1,(vl (cI .i64) ticks)),(5,(vi s1)),(6,(vi s2)),(7,(.ptr (b8 + 7) 2 0)),(8,(vi x4)),(9,(vi x5))] [.blk (b8 + 7) 32 [(.v (.int .i8 x3.Inf)),(vi x3.N)]] V ?_ fun e σ H => ?_
       ·refine .split V V ?_ ?_ <;> intro hc6
        ·refine .mV V (.iV V (.kT V (.nil ?_)));exact ⟨⟨Z13 hc6,V,V,V,V,V,V,V,U⟩,H.wk (by omega)⟩
        ·refine .ps 2 V (.kF V (.nil ?_));exact ⟨⟨Z11 hc6,V,V,V,V,V,V,V,U⟩,H.wk (by omega)⟩
       refine .nila H fun H => ?_;refine .wh h V ?_ ?_ <;> intro h
       ·refine .then (.tR 16 V H fun b12 σ H => (.mV V (.mV V (.iV V (.iV V (.mV V ?_))))));refine .md H 3 [(63,(vb ((decide (x5 > (w64 (9223372036854775807 + x4)))) || (x4 == (-9223372036854775808))))),(0,(vl (cL Bound.cs) d)),(1,(vl (cI .i64) ticks)),(5,(vi s1)),(6,(vi s2)),(7,(.ptr (b8 + 7) 2 0)),(8,(vi x4)),(9,(vi x5))] [.blk (b8 + 7) 32 [(.v (.int .i8 x3.Inf)),(vi x3.N)]] rfl ?_ fun e σ H => ?_
        ·refine .split V V ?_ ?_ <;> intro hc8
         ·refine .ps 2 V (.kT V (.nil ?_));exact ⟨⟨or_T hc8,V,V,V,V,V,V,V,U⟩,H.wk (by omega)⟩
         ·refine .mV V (.iV V (.kF V (.nil ?_)));exact ⟨⟨or_F hc8,V,V,V,V,V,V,V,U⟩,H.wk (by omega)⟩
        refine .mV V ?_;refine .md H 7 [(71,(vb (((decide (x5 > (w64 (9223372036854775807 + x4)))) || (x4 == (-9223372036854775808))) || (decide ((w64 (x5 - x4)) > x3.N))))),(0,(vl (cL Bound.cs) d)),(1,(vl (cI .i64) ticks)),(5,(vi s1)),(6,(vi s2))] [] rfl ?_ fun e σ H => ?_
        ·refine .split V V ?_ ?_ <;> intro hc9
         ·refine .ps 6 V (.kT V (.nil ?_));exact ⟨⟨or_T hc9,V,V,V,V,U⟩,(H.erase 0).wk (by omega)⟩
         ·refine .mV V (.mV V (.iV V (.fV H 0 V (.lV H 0 V (.iV V (.kF V (.nil ?_)))))));exact ⟨⟨or_F hc9,V,V,V,V,U⟩,(H.erase 0).wk (by omega)⟩
        refine .nila H fun H => ?_;refine .wh h V ?_ ?_ <;> intro h
        ·refine .tR 1 V H fun b13 σ H => (.aV V (.nila H fun H => (.ret ?_)));obtain rfl:=sj h;exact (.inr (.inr ⟨_,V,V,(Ends.H (xs:=[(vb false)]) (.inr V) H (.tmp (v:=(vb false)) V .nil) (.one (.c (.v _))))⟩))
        refine .skip (.exit ?_);obtain rfl:=sj h;exact (.inr (.inl ⟨_,V,V,EI V,H⟩))
       refine .skip (.then ?_);obtain ⟨y5,hj5,h⟩:=bs h;refine .mono (Q:=fun x e σ => (∃ a6,y5 = (.go a6)∧x = .normal∧ZE e [(0,(vl (cL Bound.cs) d)),(1,(vl (cI .i64) ticks)),(5,(vi s1)),(6,(vi s2)),(7,(.ptr (b8 + 7) 2 0)),(8,(vi x4)),(9,(vi x5))]∧Hs σ [.blk (b8 + 7) 32 [(.v (.int .i8 x3.Inf)),(vi x3.N)]])∨(∃ a7,y5 = (.ret a7)∧x = .exit 3∧ZE e [(0,(vl (cL Bound.cs) d)),(1,(vl (cI .i64) ticks)),(5,(vi s1)),(6,(vi s2))]∧Hs σ [])) ?_ ?_
       ·replace h:=hj5;refine .tR 6 V H fun b14 σ H => (.mV V (.iV V (.mV V ?_)));refine .md H 3 [(77,(vb ((decide (x4 ≥ 0)) && (decide (x5 < 0))))),(0,(vl (cL Bound.cs) d)),(1,(vl (cI .i64) ticks)),(5,(vi s1)),(6,(vi s2)),(7,(.ptr (b8 + 7) 2 0)),(8,(vi x4)),(9,(vi x5))] [.blk (b8 + 7) 32 [(.v (.int .i8 x3.Inf)),(vi x3.N)]] V ?_ fun e σ H => ?_
        ·refine .split V V ?_ ?_ <;> intro hc11
         ·refine .mV V (.iV V (.kT V (.nil ?_)));exact ⟨⟨Z13 hc11,V,V,V,V,V,V,V,U⟩,H.wk (by omega)⟩
         ·refine .ps 2 V (.kF V (.nil ?_));exact ⟨⟨Z11 hc11,V,V,V,V,V,V,V,U⟩,H.wk (by omega)⟩
        refine .nila H fun H => ?_;refine .wh h V ?_ ?_ <;> intro h
        ·refine .tR 4 V H fun b15 σ H => (.mV V (.mV V (.iV V (.iV V (.nila H fun H => ?_)))));refine .wh h V ?_ ?_ <;> intro h
         ·refine .exit ?_;obtain rfl:=sj h;exact (.inr ⟨_,V,V,EI V,(H.erase 0)⟩)
         refine .skip ?_;obtain rfl:=sj h;exact (.inl ⟨_,V,V,EI V,H⟩)
        refine .skip ?_;obtain rfl:=sj h;exact (.inl ⟨_,V,V,EI V,H⟩)
       ·rintro x e σ (⟨a8,rfl,rfl,he,H⟩ | ⟨a9,rfl,rfl,he,H⟩)
        ·replace h:=jgo h;obtain ⟨e,rfl⟩:=he.ex;refine .tR 6 V H fun b16 σ H => (.mV V (.mV V (.iV V (.fV H 0 V (.lV H 0 V (.iV V (.nila H fun H => ?_)))))));refine .wh h V ?_ ?_ <;> intro h
         ·refine .tR 1 V H fun b17 σ H => (.aV V (.nila H fun H => (.ret ?_)));obtain rfl:=sj h;exact (.inr (.inr ⟨_,V,V,(Ends.H (xs:=[(vb false)]) (.inr V) H (.tmp (v:=(vb false)) V .nil) (.one (.c (.v _))))⟩))
         refine .skip ?_;obtain rfl:=sj h;exact (.inl ⟨_,V,V,EI V,(H.erase 0)⟩)
        ·replace h:=jret h;obtain ⟨e,rfl⟩:=he.ex;obtain rfl:=sj h;exact (.inr (.inl ⟨_,V,V,EI V,H⟩))
      ·rintro x e σ (⟨a10,rfl,rfl,he,H⟩ | ⟨a11,rfl,rfl,he,H⟩ | ⟨r',rfl,rfl,hE⟩)
       ·replace h:=jgo h;obtain ⟨e,rfl⟩:=he.ex;obtain rfl:=sj h;exact (.inl ⟨_,V,V,EI V,H⟩)
       ·replace h:=jret h;replace h:=jgo h;obtain ⟨e,rfl⟩:=he.ex;obtain rfl:=sj h;exact (.inl ⟨_,V,V,EI V,H⟩)
       ·replace h:=jret h;replace h:=jret h;obtain rfl:=sj h;exact (.inr ⟨_,V,V,hE⟩)
     ·rintro x e σ (⟨a12,rfl,rfl,he,H⟩ | ⟨r',rfl,rfl,hE⟩)
      ·replace h:=jgo h;obtain ⟨e,rfl⟩:=he.ex;refine .Za 3 V H fun b18 σ H => (.mV V (.iV V (.aV V (.nila H fun H => ?_))));obtain rfl:=sj h;exact ⟨V,EI V,H⟩
      ·replace h:=jret h;obtain rfl:=sj h;exact ⟨nofun,(.inr ⟨_,V,V,hE⟩)⟩
    refine .exit ?_;obtain rfl:=sj h;exact ⟨nofun,(.inl ⟨_,V,V,EI V,H⟩)⟩
   ·rintro x e σ (⟨a13,rfl,rfl,he,H⟩ | ⟨r',rfl,rfl,hE⟩)
    ·replace h:=jgo h;obtain ⟨e,rfl⟩:=he.ex;refine .Za 3 V H fun b19 σ H => (.mV V (.iV V (.aV V (.nila H fun H => ?_))));obtain rfl:=sj h;exact ⟨V,EI V,H⟩
    ·replace h:=jret h;obtain rfl:=sj h;exact ⟨nofun,(.inr ⟨_,V,V,hE⟩)⟩
  refine .exit ?_;obtain rfl:=sj h;exact ⟨nofun,(.inl ⟨_,V,V,U,H⟩)⟩
 ·rintro x e σ (⟨a14,rfl,rfl,he,H⟩ | ⟨r',rfl,rfl,hE⟩)
  ·replace h:=jgo h;obtain ⟨e,rfl⟩:=he.ex;refine .tR 1 V H fun b20 σ H => (.aV V (.nila H fun H => (.ret ?_)));obtain rfl:=sj h;exact Ends.eR V
  ·replace h:=jret h;obtain rfl:=sj h;exact hE
theorem Z5E {d:(List (List Bound))} {more:(List (List Bound))} {x':epactlaw24_Set} {r:Bool} (h:ZU d more x' = some r):Fn CX 43 [(vl (cL Bound.cs) d),(vl (cL Bound.cs) more),(.agg (vs (epactlaw24_Set.cs x')))] (vb r):=by
 refine Fn.go Try.func43 V fun σ H => ?_;unfold ZU at h;refine .tR 2 V H fun b1 σ H => (.boxH (cs:=[(vi x'.I),(vi x'.J),(.v (.int .i8 x'.Most.Inf)),(vi x'.Most.N)]) H (by omega) (by omega) V V V fun σ H => (.aV V (.nila H fun H => (.then (.tR 5 V H fun b2 σ H => (.mV V (.nV V (.mV V ?_))))))));refine .nV V (.iV V (.nila H fun H => ?_));refine .wh h V ?_ ?_ <;> intro h
 ·refine .tR 1 V H fun b3 σ H => (.aV V (.nila H fun H => (.ret ?_)));obtain rfl:=sj h;exact Ends.eR V
 refine .skip (.then (.tR 3 V H fun b4 σ H => (.mV V (.nV V (.mV V (.nila H fun H => (.inBlock ?_)))))));obtain ⟨y1,hj1,h⟩:=bs h;obtain ⟨n1,hj1⟩:=ZS.1 hj1;refine .mono (Runs.loopO hj1 (fun s1 e σ => ZE e [(0,(vl (cL Bound.cs) d)),(1,(vl (cL Bound.cs) more)),(5,(.ptr (b1 + 0) 4 0)),(16,(vi (d.length:Int))),(17,(vi s1))]∧Hs σ [.blk (b1 + 0) 42 [(vi x'.I),(vi x'.J),(.v (.int .i8 x'.Most.Inf)),(vi x'.Most.N)]]) (fun y1 x e σ => (∃ a1,y1 = (.go a1)∧x = .exit 0∧ZE e []∧Hs σ [])∨(∃ r',y1 = (.ret r')∧x = .ret∧Ends CX Try.f43.results.toList (vb r') x e σ)) ⟨EI V,H⟩ ?_) ?_
 ·intro s1 e σ hI z h;obtain ⟨he,H⟩:=hI;obtain ⟨e,rfl⟩:=he.ex;unfold ZU.s0 at h;refine .tR 1 V H fun b5 σ H => (.iV V (.nila H fun H => (.then ?_)));refine .wh h V ?_ ?_ <;> intro h
  ·refine .skip (.then (.inBlock (.tR 2 V H fun b6 σ H => (.mV V (.aV V (.nila H fun H => (.then (.tR 8 V H fun b7 σ H => ?_))))))));refine .mV V (.mV V ?_);obtain ⟨x1,q1,h⟩:=bs h;refine .jV q1 V (.pV V (.nV V (.mV V (.nV V (.iV V (.nila H fun H => ?_))))));refine .wh h V ?_ ?_ <;> intro h
   ·refine .tR 1 V H fun b8 σ H => (.aV V (.nila H fun H => (.ret ?_)));obtain rfl:=sj h;exact ⟨nofun,(.inr ⟨_,V,V,(Ends.H (xs:=[(vb false)]) (.inr V) H (.tmp (v:=(vb false)) V .nil) (.one (.c (.v _))))⟩)⟩
   refine .skip (.tR 3 V H fun b9 σ H => (.mV V (.nV V (.mV V (.nila H fun H => (.inBlock ?_))))));obtain ⟨y2,hj2,h⟩:=bs h;obtain ⟨n2,hj2⟩:=ZS.1 hj2;refine .mono (Runs.loopO hj2 (fun s2 e σ => ZE e [(0,(vl (cL Bound.cs) d)),(1,(vl (cL Bound.cs) more)),(5,(.ptr (b1 + 0) 4 0)),(7,(vi s1)),(16,(vi (d.length:Int))),(17,(vi s1)),(29,(vi (d.length:Int))),(30,(vi s2))]∧Hs σ [.blk (b1 + 0) 42 [(vi x'.I),(vi x'.J),(.v (.int .i8 x'.Most.Inf)),(vi x'.Most.N)]]) (fun y2 x e σ => (∃ a2,y2 = (.go a2)∧x = .exit 2∧ZE e [(0,(vl (cL Bound.cs) d)),(1,(vl (cL Bound.cs) more)),(5,(.ptr (b1 + 0) 4 0)),(16,(vi (d.length:Int))),(17,(vi s1))]∧Hs σ [.blk (b1 + 0) 42 [(vi x'.I),(vi x'.J),(.v (.int .i8 x'.Most.Inf)),(vi x'.Most.N)]])∨(∃ r',y2 = (.ret r')∧x = .ret∧Ends CX Try.f43.results.toList (vb r') x e σ)) ⟨EI V,H⟩ ?_) ?_
   ·intro s2 e σ hI z h;obtain ⟨he,H⟩:=hI;obtain ⟨e,rfl⟩:=he.ex;unfold ZU.s1 at h;refine .tR 1 V H fun b10 σ H => (.iV V (.nila H fun H => (.then ?_)));refine .wh h V ?_ ?_ <;> intro h
    ·refine .skip (.then ?_);obtain ⟨y3,hj3,h⟩:=bs h;refine .mono (Q:=fun x e σ => (∃ a3,y3 = (.go a3)∧x = .normal∧ZE e [(0,(vl (cL Bound.cs) d)),(1,(vl (cL Bound.cs) more)),(5,(.ptr (b1 + 0) 4 0)),(7,(vi s1)),(16,(vi (d.length:Int))),(17,(vi s1)),(29,(vi (d.length:Int))),(30,(vi s2))]∧Hs σ [.blk (b1 + 0) 42 [(vi x'.I),(vi x'.J),(.v (.int .i8 x'.Most.Inf)),(vi x'.Most.N)]])∨(∃ r',y3 = (.ret r')∧x = .ret∧Ends CX Try.f43.results.toList (vb r') x e σ)) ?_ ?_
     ·replace h:=hj3;refine .inBlock ?_;obtain ⟨y4,hj4,h⟩:=bs h;refine .mono (Q:=fun x e σ => (∃ a4,y4 = (.go a4)∧x = .normal∧ZE e [(0,(vl (cL Bound.cs) d)),(1,(vl (cL Bound.cs) more)),(5,(.ptr (b1 + 0) 4 0)),(7,(vi s1)),(16,(vi (d.length:Int))),(17,(vi s1)),(29,(vi (d.length:Int))),(30,(vi s2))]∧Hs σ [.blk (b1 + 0) 42 [(vi x'.I),(vi x'.J),(.v (.int .i8 x'.Most.Inf)),(vi x'.Most.N)]])∨(∃ r',y4 = (.ret r')∧x = .ret∧Ends CX Try.f43.results.toList (vb r') x e σ)) ?_ ?_
      ·replace h:=hj4;refine .tR 2 V H fun b11 σ H => (.mV V (.aV V (.nila H fun H => (.tR 9 V H fun b12 σ H => (.mV V (.mV V ?_))))));obtain ⟨x2,q2,h⟩:=bs h;refine .jV q2 V (.pV V (.mV V ?_));obtain ⟨x3,q3,h⟩:=bs h;refine .jV q3 V (.qV [(.int .i8 x3.Inf),(.int .i64 x3.N)] V (.Z1q (cs:=[(.v (.int .i8 0)),(vi 0)]) H (by omega) (by omega) V V fun σ H => (.sV [(.v (.int .i8 x3.Inf)),(vi x3.N)] H 0 V fun σ H => (.nila H fun H => (.then ?_)))));refine .jn h .normal (fun y5 => [(0,(vl (cL Bound.cs) d)),(1,(vl (cL Bound.cs) more)),(5,(.ptr (b1 + 0) 4 0)),(7,(vi s1)),(8,(vi s2)),(9,(.ptr (b12 + 7) 2 0)),(16,(vi (d.length:Int))),(17,(vi s1)),(29,(vi (d.length:Int))),(30,(vi s2))]) (fun y5 => [.blk (b12 + 7) 32 [(.v (.int .i8 y5.1)),(vi y5.2)],.blk (b1 + 0) 42 [(vi x'.I),(vi x'.J),(.v (.int .i8 x'.Most.Inf)),(vi x'.Most.N)]]) (fun y5 h => ?_) fun y5 e σ H h => ?_
       ·refine .tR 29 V H fun b13 σ H => (.mV V (.fV H 1 V (.lV H 1 V (.iV V (.mV V ?_)))));refine .md H 5 [(49,(vb ((s1 == x'.I) && (s2 == x'.J)))),(0,(vl (cL Bound.cs) d)),(1,(vl (cL Bound.cs) more)),(5,(.ptr (b1 + 0) 4 0)),(7,(vi s1)),(8,(vi s2)),(9,(.ptr (b12 + 7) 2 0)),(16,(vi (d.length:Int))),(17,(vi s1)),(29,(vi (d.length:Int))),(30,(vi s2))] [.blk (b12 + 7) 32 [(.v (.int .i8 x3.Inf)),(vi x3.N)],.blk (b1 + 0) 42 [(vi x'.I),(vi x'.J),(.v (.int .i8 x'.Most.Inf)),(vi x'.Most.N)]] V ?_ fun e σ H => ?_
        ·refine .split V V ?_ ?_ <;> intro hc5
         ·refine .mV V (.fV H 1 V (.lV H 1 V (.iV V (.kT V (.nil ?_)))));exact ⟨⟨Z13 hc5,V,V,V,V,V,V,V,V,V,V,U⟩,H.wk (by omega)⟩
         ·refine .ps 4 V (.kF V (.nil ?_));exact ⟨⟨Z11 hc5,V,V,V,V,V,V,V,V,V,V,U⟩,H.wk (by omega)⟩
        refine .mV V ?_;refine .md H 5 [(55,(vb (((s1 == x'.I) && (s2 == x'.J)) && (x'.Most.Inf == 0)))),(0,(vl (cL Bound.cs) d)),(1,(vl (cL Bound.cs) more)),(5,(.ptr (b1 + 0) 4 0)),(7,(vi s1)),(8,(vi s2)),(9,(.ptr (b12 + 7) 2 0)),(16,(vi (d.length:Int))),(17,(vi s1)),(29,(vi (d.length:Int))),(30,(vi s2))] [.blk (b12 + 7) 32 [(.v (.int .i8 x3.Inf)),(vi x3.N)],.blk (b1 + 0) 42 [(vi x'.I),(vi x'.J),(.v (.int .i8 x'.Most.Inf)),(vi x'.Most.N)]] V ?_ fun e σ H => ?_
        ·refine .split V V ?_ ?_ <;> intro hc6
         ·refine .fV H 1 V (.fV H 1 V (.lV H 1 V (.iV V (.kT V (.nil ?_)))));exact ⟨⟨Z13 hc6,V,V,V,V,V,V,V,V,V,V,U⟩,H.wk (by omega)⟩
         ·refine .ps 4 V (.kF V (.nil ?_));exact ⟨⟨Z11 hc6,V,V,V,V,V,V,V,V,V,V,U⟩,H.wk (by omega)⟩
        refine .mV V ?_;refine .md H 12 [(68,(vb ((((s1 == x'.I) && (s2 == x'.J)) && (x'.Most.Inf == 0)) && ((x3.Inf == 1) || (decide (x'.Most.N < x3.N)))))),(0,(vl (cL Bound.cs) d)),(1,(vl (cL Bound.cs) more)),(5,(.ptr (b1 + 0) 4 0)),(7,(vi s1)),(8,(vi s2)),(9,(.ptr (b12 + 7) 2 0)),(16,(vi (d.length:Int))),(17,(vi s1)),(29,(vi (d.length:Int))),(30,(vi s2))] [.blk (b12 + 7) 32 [(.v (.int .i8 x3.Inf)),(vi x3.N)],.blk (b1 + 0) 42 [(vi x'.I),(vi x'.J),(.v (.int .i8 x'.Most.Inf)),(vi x'.Most.N)]] rfl ?_ fun e σ H => ?_
        ·refine .split V V ?_ ?_ <;> intro hc7
         ·refine .fV H 0 V (.lV H 0 V (.iV V (.mV V ?_)));refine .md H 7 [(67,(vb ((x3.Inf == 1) || (decide (x'.Most.N < x3.N))))),(0,(vl (cL Bound.cs) d)),(1,(vl (cL Bound.cs) more)),(5,(.ptr (b1 + 0) 4 0)),(7,(vi s1)),(8,(vi s2)),(9,(.ptr (b12 + 7) 2 0)),(16,(vi (d.length:Int))),(17,(vi s1)),(29,(vi (d.length:Int))),(30,(vi s2)),(56,(vb true))] [.blk (b12 + 7) 32 [(.v (.int .i8 x3.Inf)),(vi x3.N)],.blk (b1 + 0) 42 [(vi x'.I),(vi x'.J),(.v (.int .i8 x'.Most.Inf)),(vi x'.Most.N)]] rfl ?_ fun e σ H => ?_
          ·refine .split V V ?_ ?_ <;> intro hc8
           ·refine .ps 6 V (.kT V (.nil ?_));exact ⟨⟨or_T hc8,V,V,V,V,V,V,V,V,V,V,V,U⟩,H.wk (by omega)⟩
           ·refine .fV H 1 V (.fV H 1 V (.lV H 1 V (.fV H 0 V (.lV H 0 V (.iV V (.kF V (.nil ?_)))))));exact ⟨⟨or_F hc8,V,V,V,V,V,V,V,V,V,V,V,U⟩,H.wk (by omega)⟩
          refine .kT V (.nil ?_);exact ⟨⟨Z13 hc7,V,V,V,V,V,V,V,V,V,V,U⟩,H.wk (by omega)⟩
         ·refine .ps 11 V (.kF V (.nil ?_));exact ⟨⟨Z11 hc7,V,V,V,V,V,V,V,V,V,V,U⟩,H.wk (by omega)⟩
        refine .nila H fun H => ?_;refine .wh h V ?_ ?_ <;> intro h
        ·refine .Za 3 V H fun b14 σ H => (.fV H 1 V (.LV [(.v (.int .i8 x'.Most.Inf)),(vi x'.Most.N)] H 1 V (.sV [(.v (.int .i8 x'.Most.Inf)),(vi x'.Most.N)] H 0 V fun σ H => (.nila H fun H => ?_))));obtain rfl:=sj h;exact ⟨V,EI V,H⟩
        refine .skip ?_;obtain rfl:=sj h;exact ⟨V,EI V,H⟩
       refine .then (.Z1l 9 V (by kernel_rfl) H fun b15 σ H B15 => (.mV V (.mV V ?_)));obtain ⟨x4,q4,h⟩:=bs h;refine .jV q4 V (.pV V (.mV V ?_));obtain ⟨x5,q5,h⟩:=bs h;refine .jV q5 V (.qV [(.int .i8 x5.Inf),(.int .i64 x5.N)] V (.Z5r (cs:=[(.v (.int .i8 y5.1)),(vi y5.2)]) H 0 V V V V V V V (fun _ => .inl ⟨B15 0 _ V _ V,nofun,(fun _ => by kernel_rfl)⟩) V (.binA (u:=(.agg [(.v (.int .i8 x5.Inf)),(vi x5.N)])) (w:=(.agg [(.v (.int .i8 y5.1)),(vi y5.2)])) (r:=.bool (!((x5.Inf == y5.1) && ((x5.N == y5.2) && true)))) V V (by kernel_rfl) (fun _ => Z5L V V V V) V (.nila H fun H => ?_))));refine .wh h V ?_ ?_ <;> intro h
       ·refine .tR 1 V H fun b16 σ H => (.aV V (.nila H fun H => (.ret ?_)));obtain rfl:=sj h;exact (.inr ⟨_,V,V,(Ends.H (xs:=[(vb false)]) (.inr V) H (.tmp (v:=(vb false)) V .nil) (.one (.c (.v _))))⟩)
       refine .skip ?_;obtain rfl:=sj h;exact (.inl ⟨_,V,V,EI V,(H.erase 0)⟩)
      ·rintro x e σ (⟨a5,rfl,rfl,he,H⟩ | ⟨r',rfl,rfl,hE⟩)
       ·replace h:=jgo h;obtain ⟨e,rfl⟩:=he.ex;obtain rfl:=sj h;exact (.inl ⟨_,V,V,EI V,H⟩)
       ·replace h:=jret h;obtain rfl:=sj h;exact (.inr ⟨_,V,V,hE⟩)
     ·rintro x e σ (⟨a6,rfl,rfl,he,H⟩ | ⟨r',rfl,rfl,hE⟩)
      ·replace h:=jgo h;obtain ⟨e,rfl⟩:=he.ex;refine .Za 2 V H fun b17 σ H => (.iV V (.mV V (.nila H fun H => ?_)));obtain rfl:=sj h;exact ⟨V,EI V,H⟩
      ·replace h:=jret h;obtain rfl:=sj h;exact ⟨nofun,(.inr ⟨_,V,V,hE⟩)⟩
    refine .exit ?_;obtain rfl:=sj h;exact ⟨nofun,(.inl ⟨_,V,V,EI V,H⟩)⟩
   ·rintro x e σ (⟨a7,rfl,rfl,he,H⟩ | ⟨r',rfl,rfl,hE⟩)
    ·replace h:=jgo h;obtain ⟨e,rfl⟩:=he.ex;refine .Za 2 V H fun b18 σ H => (.iV V (.mV V (.nila H fun H => ?_)));obtain rfl:=sj h;exact ⟨V,EI V,H⟩
    ·replace h:=jret h;obtain rfl:=sj h;exact ⟨nofun,(.inr ⟨_,V,V,hE⟩)⟩
  refine .exit ?_;obtain rfl:=sj h;exact ⟨nofun,(.inl ⟨_,V,V,U,(H.erase 0)⟩)⟩
 ·rintro x e σ (⟨a8,rfl,rfl,he,H⟩ | ⟨r',rfl,rfl,hE⟩)
  ·replace h:=jgo h;obtain ⟨e,rfl⟩:=he.ex;refine .tR 1 V H fun b19 σ H => (.aV V (.nila H fun H => (.ret ?_)));obtain rfl:=sj h;exact Ends.eR V
  ·replace h:=jret h;obtain rfl:=sj h;exact hE
theorem Z56 {a:Bound} {b:Bound} {r:Bound} (h:ZT a b = r):Fn CX 82 [(.agg (vs (Bound.cs a))),(.agg (vs (Bound.cs b)))] (.agg (vs (Bound.cs r))):=by
 refine Fn.go Try.func82 V fun σ H => ?_;unfold ZT at h;refine .tR 3 V H fun b1 σ H => (.boxH (cs:=[(.v (.int .i8 a.Inf)),(vi a.N)]) H (by omega) (by omega) V V V fun σ H => (.boxH (cs:=[(.v (.int .i8 b.Inf)),(vi b.N)]) H (by omega) (by omega) V V V fun σ H => (.Z1q (cs:=[(.v (.int .i8 0)),(vi 0)]) H (by omega) (by omega) V V fun σ H => (.nila H fun H => (.then (.tR 8 V H fun b2 σ H => (.fV H 2 V (.lV H 2 V ?_))))))));refine .iV V (.mV V ?_);refine .md H 4 [(12,(vb ((a.Inf == 1) || (b.Inf == 1)))),(2,(.ptr (b1 + 0) 2 0)),(3,(.ptr (b1 + 1) 2 0)),(4,(.ptr (b1 + 2) 2 0))] [.blk (b1 + 2) 32 [(.v (.int .i8 0)),(vi 0)],.blk (b1 + 1) 32 [(.v (.int .i8 b.Inf)),(vi b.N)],.blk (b1 + 0) 32 [(.v (.int .i8 a.Inf)),(vi a.N)]] rfl ?_ fun e σ H => ?_
 ·refine .split V V ?_ ?_ <;> intro hc1
  ·refine .ps 3 V (.kT V (.nil ?_));exact ⟨⟨or_T hc1,V,V,V,U⟩,H.wk (by omega)⟩
  ·refine .fV H 1 V (.lV H 1 V (.iV V (.kF V (.nil ?_))));exact ⟨⟨or_F hc1,V,V,V,U⟩,H.wk (by omega)⟩
 refine .nila H fun H => ?_;refine .wh h V ?_ ?_ <;> intro h
 ·refine .tR 2 V H fun b3 σ H => (.bV [(.v (.int .i8 1)),(vi 0)] V (.sV [(.v (.int .i8 1)),(vi 0)] H 0 V fun σ H => (.nila H fun H => (.ret ?_))));subst h;exact (Ends.H (xs:=[(.agg [(.v (.int .i8 1)),(vi 0)])]) (.inr V) H (.agg (cs:=[(.v (.int .i8 1)),(vi 0)]) 0 V V V V V V V .nil) (.one (.p V)))
 refine .skip (.tR 7 V H fun b4 σ H => (.fV H 2 V (.lV H 2 V (.fV H 1 V (.lV H 1 V (.iV V (.bV [(.v (.int .i8 0)),(vi (w64 (a.N + b.N)))] V (.sV [(.v (.int .i8 0)),(vi (w64 (a.N + b.N)))] H 0 V fun σ H => ?_))))))));refine .nila H fun H => (.ret ?_);subst h;exact (Ends.H (xs:=[(.agg [(.v (.int .i8 0)),(vi (w64 (a.N + b.N)))])]) (.inr V) H (.agg (cs:=[(.v (.int .i8 0)),(vi (w64 (a.N + b.N)))]) 0 V V V V V V V .nil) (.one (.p V)))
theorem Z2R {a:Bound} {b:Bound} {r:Bool} (h:Z0L a b = r):Fn CX 71 [(.agg (vs (Bound.cs a))),(.agg (vs (Bound.cs b)))] (vb r):=by
 refine Fn.go Try.func71 V fun σ H => ?_;unfold Z0L at h;refine .tR 3 V H fun b1 σ H => (.boxH (cs:=[(.v (.int .i8 a.Inf)),(vi a.N)]) H (by omega) (by omega) V V V fun σ H => (.boxH (cs:=[(.v (.int .i8 b.Inf)),(vi b.N)]) H (by omega) (by omega) V V V fun σ H => (.aV V (.nila H fun H => (.then (.tR 3 V H fun b2 σ H => (.fV H 1 V (.lV H 1 V ?_))))))));refine .iV V (.nila H fun H => ?_);refine .wh h V ?_ ?_ <;> intro h
 ·refine .tR 1 V H fun b3 σ H => (.aV V (.nila H fun H => (.ret ?_)));subst h;exact Ends.eR V
 refine .skip (.tR 11 V H fun b4 σ H => (.fV H 0 V (.lV H 0 V (.iV V (.mV V ?_)))));refine .md H 6 [(17,(vb ((b.Inf == 1) || (decide (a.N < b.N)))))] [] rfl ?_ fun e σ H => ?_
 ·refine .split V V ?_ ?_ <;> intro hc2
  ·refine .ps 5 V (.kT V (.nil ?_));exact ⟨⟨or_T hc2,U⟩,((H.erase 1).erase 0).wk (by omega)⟩
  ·refine .fV H 1 V (.lV H 1 V (.fV H 0 V (.lV H 0 V (.iV V (.kF V (.nil ?_))))));exact ⟨⟨or_F hc2,U⟩,((H.erase 1).erase 0).wk (by omega)⟩
 refine .aV V (.nila H fun H => (.ret ?_));subst h;exact Ends.eR V
theorem Z4l {rc:(List (List Bound))→Int→Int→(List Bool)→Option Bound} (hrec:∀ {w0:PV} {d:(List (List Bound))} {from':Int} {to':Int} {met:(List Bool)} {r:Bound},rc d from' to' met = some r→FnH CX 80 [(vl (cL Bound.cs) d),(vi from'),(vi to'),w0] (.agg (vs (Bound.cs r))) [.sl w0 4 1 (met.map cB) true]) {w0:PV} {d:(List (List Bound))} {from':Int} {to':Int} {met:(List Bool)} {r:Bound} (h:ZP.b rc d from' to' met = some r):FnH CX 80 [(vl (cL Bound.cs) d),(vi from'),(vi to'),w0] (.agg (vs (Bound.cs r))) [.sl w0 4 1 (met.map cB) true]:=by
 refine FnH.ofShut (aa:=[(vl (cL Bound.cs) d),(vi from'),(vi to')]) V V Try.func80 V V V V V V ?_;intro σ T H;unfold ZP.b at h;refine .tR 1 V H fun b1 σ H => (.Z1q (cs:=[(.v (.int .i8 0)),(vi 0)]) H (by omega) (by omega) V V fun σ H => (.nila H fun H => (.tR 9 V H fun b2 σ H => (.mV V (.mV V ?_)))));obtain ⟨x1,q1,h⟩:=bs h;refine .jV q1 V (.pV V (.mV V ?_));obtain ⟨x2,q2,h⟩:=bs h;refine .jV q2 V (.qV [(.int .i8 x2.Inf),(.int .i64 x2.N)] V (.Z1q (cs:=[(.v (.int .i8 0)),(vi 0)]) H (by omega) (by omega) V V fun σ H => (.sV [(.v (.int .i8 x2.Inf)),(vi x2.N)] H 0 V fun σ H => (.nila H fun H => (.then (.tR 1 V H fun b3 σ H => (.aV V (.nila H fun H => ?_))))))));refine .inBlock ?_;refine .lp h (fun s1 => [(0,(vl (cL Bound.cs) d)),(1,(vi from')),(2,(vi to')),(3,w0),(8,(.ptr (b1 + 0) 2 0)),(9,(.ptr (b2 + 7) 2 0)),(10,(vi s1.1))]) (fun s1 => (.blk (b2 + 7) 32 [(.v (.int .i8 s1.2.1)),(vi s1.2.2)] :: .blk (b1 + 0) 32 [(.v (.int .i8 0)),(vi 0)] :: .sl w0 4 1 (met.map cB) true :: T)) (.exit 0) (fun y1 => [(8,(.ptr (b1 + 0) 2 0)),(9,(.ptr (b2 + 7) 2 0))]) (fun y1 => (.blk (b2 + 7) 32 [(.v (.int .i8 y1.1)),(vi y1.2)] :: .blk (b1 + 0) 32 [(.v (.int .i8 0)),(vi 0)] :: .sl w0 4 1 (met.map cB) true :: T)) (EI V) H (fun s1 e σ H z h => ?_) fun y1 e σ H h => ?_
 ·unfold ZP.s0 at h;refine .then (.tR 4 V H fun b4 σ H => (.mV V (.mV V (.nV V (.iV V (.nila H fun H => ?_))))));refine .wh h V ?_ ?_ <;> intro h
  ·refine .skip (.then ?_);refine .jn h .normal (fun y2 => [(0,(vl (cL Bound.cs) d)),(1,(vi from')),(2,(vi to')),(3,w0),(8,(.ptr (b1 + 0) 2 0)),(9,(.ptr (b2 + 7) 2 0)),(10,(vi s1.1))]) (fun y2 => (.blk (b2 + 7) 32 [(.v (.int .i8 y2.1)),(vi y2.2)] :: .blk (b1 + 0) 32 [(.v (.int .i8 0)),(vi 0)] :: .sl w0 4 1 (met.map cB) true :: T)) (fun y2 h => ?_) fun y2 e σ H h => ?_
   ·refine .inBlock ?_;obtain ⟨y3,hj3,h⟩:=bs h;refine .mono (Q:=fun x e σ => (∃ a1,y3 = (.go a1)∧x = .normal∧ZE e [(0,(vl (cL Bound.cs) d)),(1,(vi from')),(2,(vi to')),(3,w0),(8,(.ptr (b1 + 0) 2 0)),(9,(.ptr (b2 + 7) 2 0)),(10,(vi s1.1))]∧Hs σ (.blk (b2 + 7) 32 [(.v (.int .i8 a1.1)),(vi a1.2)] :: .blk (b1 + 0) 32 [(.v (.int .i8 0)),(vi 0)] :: .sl w0 4 1 (met.map cB) true :: T))∨(∃ a2,y3 = (.ret a2)∧x = .exit 1∧ZE e [(0,(vl (cL Bound.cs) d)),(1,(vi from')),(2,(vi to')),(3,w0),(8,(.ptr (b1 + 0) 2 0)),(9,(.ptr (b2 + 7) 2 0)),(10,(vi s1.1))]∧Hs σ (.blk (b2 + 7) 32 [(.v (.int .i8 s1.2.1)),(vi s1.2.2)] :: .blk (b1 + 0) 32 [(.v (.int .i8 0)),(vi 0)] :: .sl w0 4 1 (met.map cB) true :: T))) ?_ ?_
    ·replace h:=hj3;refine .then (.tR 9 V H fun b5 σ H => (.m1 w0 V V (.mV V ?_)));obtain ⟨x3,q3,h⟩:=bs h;refine .Z1n H 2 V V V (at?_map q3) V V nofun V ?_;intro id1 hv1;refine .loadS (id:=id1) (j:=0) (w:=(.bool x3)) H 2 V hv1 (by simp) (at?_map q3) V (by simp) V V V nofun V ?_;refine .mV V ?_;refine .md H 4 [(33,(vb (x3 || (s1.1 == to')))),(0,(vl (cL Bound.cs) d)),(1,(vi from')),(2,(vi to')),(3,w0),(8,(.ptr (b1 + 0) 2 0)),(9,(.ptr (b2 + 7) 2 0)),(10,(vi s1.1))] (.blk (b2 + 7) 32 [(.v (.int .i8 s1.2.1)),(vi s1.2.2)] :: .blk (b1 + 0) 32 [(.v (.int .i8 0)),(vi 0)] :: .sl w0 4 1 (met.map cB) true :: T) rfl ?_ fun e σ H => ?_
     ·refine .split V V ?_ ?_ <;> intro hc2
      ·refine .ps 3 V (.kT V (.nil ?_));exact ⟨⟨or_T hc2,V,V,V,V,V,V,V,U⟩,H.wk (by omega)⟩
      ·refine .mV V (.mV V (.iV V (.kF V (.nil ?_))));exact ⟨⟨or_F hc2,V,V,V,V,V,V,V,U⟩,H.wk (by omega)⟩
     refine .nila H fun H => ?_;refine .wh h V ?_ ?_ <;> intro h
     ·refine .exit ?_;obtain rfl:=sj h;exact (.inr ⟨_,V,V,EI V,H⟩)
     refine .skip (.tR 4 V H fun b6 σ H => (.m1 w0 V V (.mV V ?_)));obtain ⟨x4,q4,h⟩:=bs h;refine .Z1n H 2 V V V (at?_map q4) V V nofun V ?_;intro id2 hv2;refine .Z3g (id:=id2) (j:=0) (zs:=[(.bool true)]) (u:=x4) (u':=true) H 2 V hv2 (by simp) q4 V (by simp) V V V V V V nofun fun σ H => (.nila H fun H => (.then ?_));refine .jn h .normal (fun y4 => [(0,(vl (cL Bound.cs) d)),(1,(vi from')),(2,(vi to')),(3,w0),(8,(.ptr (b1 + 0) 2 0)),(9,(.ptr (b2 + 7) 2 0)),(10,(vi s1.1))]) (fun y4 => (.blk (b2 + 7) 32 [(.v (.int .i8 y4.1)),(vi y4.2)] :: .blk (b1 + 0) 32 [(.v (.int .i8 0)),(vi 0)] :: .sl w0 4 1 ((met.set (s1.1).toNat true).map cB) true :: T)) (fun y4 h => ?_) fun y4 e σ H h => ?_
     ·refine .then (.Z1l 15 V (by kernel_rfl) H fun b7 σ H B7 => (.mV V (.mV V ?_)));obtain ⟨x5,q5,h⟩:=bs h;refine .jV q5 V (.pV V (.mV V ?_));obtain ⟨x6,q6,h⟩:=bs h;refine .jV q6 V (.qV [(.int .i8 x6.Inf),(.int .i64 x6.N)] V (.mV V (.mV V (.mV V (.m1 w0 V V ?_)))));obtain ⟨x7,q7,h⟩:=bs h;refine .callHM (aa:=[(vl (cL Bound.cs) d),(vi s1.1),(vi to')]) (w:=w0) (r:=(.agg [(.v (.int .i8 x7.Inf)),(vi x7.N)])) H 2 V V V (hrec q7) (.cons 2 V .nil) (B7 2 _ V) V V V (fun _ => by kernel_rfl) V fun σ H => (.cV (Z56 (V:ZT x6 x7 = _)) V (.Z1q (cs:=[(.v (.int .i8 0)),(vi 0)]) H (by omega) (by omega) V V fun σ H => (.storeH (cells':=[(.v (.int .i8 (ZT x6 x7).Inf)),(vi (ZT x6 x7).N)]) H 0 V V V V V V V V V (fun _ => .inr ⟨13,V,by kernel_rfl,by decide⟩) fun σ H => (.nila H fun H => (.tR 3 V H fun b8 σ H => (.LV [(.v (.int .i8 (ZT x6 x7).Inf)),(vi (ZT x6 x7).N)] H 0 V (.LV [(.v (.int .i8 s1.2.1)),(vi s1.2.2)] H 1 V (.cV (Z2R (V:Z0L (ZT x6 x7) (Bound.mk s1.2.1 s1.2.2) = _)) V ?_))))))));refine .nila H fun H => ?_;refine .wh h V ?_ ?_ <;> intro h
      ·refine .Za 2 V H fun b9 σ H => (.LV [(.v (.int .i8 (ZT x6 x7).Inf)),(vi (ZT x6 x7).N)] H 0 V (.sV [(.v (.int .i8 (ZT x6 x7).Inf)),(vi (ZT x6 x7).N)] H 1 V fun σ H => (.nila H fun H => ?_)));obtain rfl:=sj h;exact ⟨V,EI V,(H.erase 0)⟩
      refine .skip ?_;obtain rfl:=sj h;exact ⟨V,EI V,(H.erase 0)⟩
     refine .Za 4 V H fun b10 σ H => (.m1 w0 V V (.mV V ?_));obtain ⟨x8,q8,h⟩:=bs h;refine .Z1n H 2 V V V (at?_map q8) V V nofun V ?_;intro id3 hv3;refine .Z3g (id:=id3) (j:=0) (zs:=[(.bool false)]) (u:=x8) (u':=false) H 2 V hv3 (by simp) q8 V (by simp) V V V V V V nofun fun σ H => ?_;obtain ⟨u1,q9,h⟩:=bs h;rw [set_back q9] at H;refine .nila H fun H => ?_;obtain rfl:=sj h;exact (.inl ⟨_,V,V,EI V,H⟩)
    ·rintro x e σ (⟨a3,rfl,rfl,he,H⟩ | ⟨a4,rfl,rfl,he,H⟩)
     ·replace h:=jgo h;obtain ⟨e,rfl⟩:=he.ex;obtain rfl:=sj h;exact ⟨V,EI V,H⟩
     ·replace h:=jret h;obtain ⟨e,rfl⟩:=he.ex;obtain rfl:=sj h;exact ⟨V,EI V,H⟩
   refine .Za 3 V H fun b11 σ H => (.mV V (.iV V (.aV V (.nila H fun H => ?_))));obtain rfl:=sj h;exact ⟨V,EI V,H⟩
  refine .exit ?_;obtain rfl:=sj h;exact ⟨nofun,⟨V,EI V,H⟩⟩
 refine .tR 2 V H fun b12 σ H => (.LV [(.v (.int .i8 y1.1)),(vi y1.2)] H 0 V (.sV [(.v (.int .i8 y1.1)),(vi y1.2)] H 1 V fun σ H => (.nila H fun H => (.ret ?_))));obtain rfl:=sj h;exact (EndsH.H (xs:=[(.agg [(.v (.int .i8 y1.1)),(vi y1.2)])]) (.inr V) H (.agg (cs:=[(.v (.int .i8 y1.1)),(vi y1.2)]) 1 V V V V V V V .nil) (.one (.p V)) 2 V)
theorem Z4R {g:Nat} {w0:PV} {d:(List (List Bound))} {from':Int} {to':Int} {met:(List Bool)} {r:Bound} (h:ZP g d from' to' met = some r):FnH CX 80 [(vl (cL Bound.cs) d),(vi from'),(vi to'),w0] (.agg (vs (Bound.cs r))) [.sl w0 4 1 (met.map cB) true]:=by
 induction g generalizing w0 d from' to' met r with
 | zero => cases h
 | succ g ih => exact Z4l (fun h => ih h) h
theorem Z2y {d:(List (List Bound))} {from':Int} {to':Int} {r:Bound} (h:Z04 d from' to' = some r):Fn CX 72 [(vl (cL Bound.cs) d),(vi from'),(vi to')] (.agg (vs (Bound.cs r))):=by
 refine Fn.go Try.func72 V fun σ H => ?_;unfold Z04 at h;refine .tR 1 V H fun b1 σ H => (.Z1q (cs:=[(.v (.int .i8 0)),(vi 0)]) H (by omega) (by omega) V V fun σ H => (.nila H fun H => (.tR 4 V H fun b2 σ H => (.mV V (.nV V ?_)))));obtain ⟨x1,q1,h⟩:=bs h;refine .makeS (zs:=[(.bool false)]) (cc:=cB) H (by omega) (by omega) V V q1 V V V V V V V fun σ H => (.aB V (.nila H fun H => (.tR 4 V H fun b3 σ H => (.mB V (.mV V ?_)))));obtain ⟨x2,q2,h⟩:=bs h;refine .Z1n H 0 V V V (at?_map q2) V V nofun V ?_;intro id1 hv1;refine .Z3g (id:=id1) (j:=0) (zs:=[(.bool true)]) (u:=x2) (u':=true) H 0 V hv1 (by simp) q2 V (by simp) V V V V V V nofun fun σ H => (.nila H fun H => (.tR 6 V H fun b4 σ H => (.mV V (.mV V (.mV V (.mB V ?_))))));obtain ⟨x3,q3,h⟩:=bs h;refine .callH (ys:=[(vl (cL Bound.cs) d),(vi from'),(vi to'),(.buf (b2 + 2) ((d.length:Int)).toNat 1)]) (r:=(.agg [(.v (.int .i8 x3.Inf)),(vi x3.N)])) H V (Z4R q3) (.cons 0 V .nil) nofun V fun σ H => (.sV [(.v (.int .i8 x3.Inf)),(vi x3.N)] H 1 V fun σ H => (.nila H fun H => (.ret ?_)));obtain rfl:=sj h;exact (Ends.H (xs:=[(.agg [(.v (.int .i8 x3.Inf)),(vi x3.N)])]) (.inr V) H (.agg (cs:=[(.v (.int .i8 x3.Inf)),(vi x3.N)]) 1 V V V V V V V .nil) (.one (.p V)))
theorem Z4S {d:(List (List Bound))} {r:(List (List Bound)) × Bool} (h:ZN d = some r):Fn CX 45 [(vl (cL Bound.cs) d)] (.tup [(vl (cL Bound.cs) r.1),(vb r.2)]):=by
 refine Fn.go Try.func45 V fun σ H => ?_;unfold ZN at h;refine .tR 2 V H fun b1 σ H => (.a1 .nils V V (.aV V (.nila H fun H => (.tR 1 V H fun b2 σ H => (.a1 .nils V V (.nila H fun H => (.then (.tR 1 V H fun b3 σ H => ?_))))))));refine .aV V (.nila H fun H => (.inBlock ?_));replace H:=H.pushNil 43 1 true;obtain ⟨y1,hj1,h⟩:=bs h;obtain ⟨n1,hj1⟩:=ZS.1 hj1;refine .mono (Runs.loopO hj1 (fun s2 e σ => ∃ (w3:PV),ZE e [(0,(vl (cL Bound.cs) d)),(4,w3),(5,(vi s2.1))]∧Hs σ [.sl w3 43 1 (s2.2.map (cL Bound.cs)) true]) (fun y1 x e σ => (∃ a1,∃ (w4:PV),y1 = (.go a1)∧x = .exit 0∧ZE e [(4,w4)]∧Hs σ [.sl w4 43 1 (a1.map (cL Bound.cs)) true])∨(∃ r',y1 = (.ret r')∧x = .ret∧Ends CX Try.f45.results.toList (.tup [(vl (cL Bound.cs) r'.1),(vb r'.2)]) x e σ)) ⟨.nils,EI V,H⟩ ?_) ?_
 ·intro s2 e σ hI z h;obtain ⟨w3,he,H⟩:=hI;obtain ⟨e,rfl⟩:=he.ex;unfold ZN.s0 at h;refine .then (.tR 4 V H fun b4 σ H => (.mV V (.mV V (.nV V (.iV V (.nila H fun H => ?_))))));refine .wh h V ?_ ?_ <;> intro h
  ·refine .skip (.then (.inBlock (.then (.tR 6 V H fun b5 σ H => (.mV V (.mV V (.mV V ?_)))))));obtain ⟨x1,q1,h⟩:=bs h;refine .cV (Z2y q1) V (.bV [(.v (.int .i8 0)),(vi 0)] V (.cV (Z2R (V:Z0L x1 (Bound.mk 0 0) = _)) V (.nila H fun H => ?_)));refine .wh h V ?_ ?_ <;> intro h
   ·refine .tR 2 V H fun b6 σ H => (.a1 .nils V V (.aV V (.nila H fun H => (.ret ?_))));obtain rfl:=sj h;exact ⟨nofun,(.inr ⟨_,V,V,(Ends.H (xs:=[.nils,(vb false)]) (.inr V) H (.tmp (v:=.nils) V (.tmp (v:=(vb false)) V .nil)) (.two (.cons (.c .n) (.cons (.c (.v _)) .nil))))⟩)⟩
   refine .skip (.tR 1 V H fun b7 σ H => (.a1 .nils V V (.nila H fun H => (.then (.tR 1 V H fun b8 σ H => (.aV V (.nila H fun H => (.inBlock ?_))))))));replace H:=H.pushNil 32 2 true;obtain ⟨y2,hj2,h⟩:=bs h;obtain ⟨n2,hj2⟩:=ZS.1 hj2;refine .mono (Runs.loopO hj2 (fun s4 e σ => ∃ (w7:PV),ZE e [(0,(vl (cL Bound.cs) d)),(4,w3),(5,(vi s2.1)),(6,w7),(7,(vi s4.1))]∧Hs σ [.sl w7 32 2 (s4.2.map Bound.cs) true,.sl w3 43 1 (s2.2.map (cL Bound.cs)) true]) (fun y2 x e σ => ∃ (w8:PV),x = .exit 2∧ZE e [(0,(vl (cL Bound.cs) d)),(4,w3),(5,(vi s2.1)),(6,w8)]∧Hs σ [.sl w8 32 2 (y2.map Bound.cs) true,.sl w3 43 1 (s2.2.map (cL Bound.cs)) true]) ⟨.nils,EI V,H⟩ ?_) ?_
   ·intro s4 e σ hI z h;obtain ⟨w7,he,H⟩:=hI;obtain ⟨e,rfl⟩:=he.ex;unfold ZN.s1 at h;refine .then (.tR 4 V H fun b9 σ H => (.mV V (.mV V (.nV V (.iV V (.nila H fun H => ?_))))));refine .wh h V ?_ ?_ <;> intro h
    ·refine .skip (.then ?_);obtain ⟨y3,hj3,h⟩:=bs h;refine .mono (Q:=fun x e σ => ∃ (w9:PV),x = .normal∧ZE e [(0,(vl (cL Bound.cs) d)),(4,w3),(5,(vi s2.1)),(6,w9),(7,(vi s4.1))]∧Hs σ [.sl w9 32 2 (y3.map Bound.cs) true,.sl w3 43 1 (s2.2.map (cL Bound.cs)) true]) ?_ ?_
     ·replace h:=hj3;refine .inBlock ?_;obtain ⟨y4,hj4,h⟩:=bs h;refine .mono (Q:=fun x e σ => ∃ (w10:PV),x = .normal∧ZE e [(0,(vl (cL Bound.cs) d)),(4,w3),(5,(vi s2.1)),(6,w10),(7,(vi s4.1))]∧Hs σ [.sl w10 32 2 (y4.map Bound.cs) true,.sl w3 43 1 (s2.2.map (cL Bound.cs)) true]) ?_ ?_
      ·replace h:=hj4;refine .tR 3 V H fun b10 σ H => (.mV V (.mV V (.iV V (.nila H fun H => ?_))));refine .wh h V ?_ ?_ <;> intro h
       ·refine .Za 5 V H fun b11 σ H => (.m1 w7 V V (.bV [(.v (.int .i8 0)),(vi 0)] V (.Z2O (sz:=2) ([(Bound.mk 0 0)].map Bound.cs) H (by omega) (by omega) V V V V V V V V V fun σ H => ?_)));obtain ⟨x2,q2,h⟩:=bs h;refine .Z58 (c:=Bound.cs) (v:=w7) (w:=(.buf (b11 + 2) 1 2)) (xs:=s4.2) (ys:=[(Bound.mk 0 0)]) H (by omega) (by omega) 1 V V V (.s 0 V) q2 V V V V V nofun V fun w11 σ H => (.a1 w11 V V (.nila H fun H => ?_));obtain rfl:=sj h;exact ⟨w11,V,EI V,(H.erase 0)⟩
       refine .Za 8 V H fun b12 σ H => (.m1 w7 V V (.mV V (.mV V (.mV V ?_))));obtain ⟨x3,q3,h⟩:=bs h;refine .cV (Z2y q3) V (.Z2O (sz:=2) ([x3].map Bound.cs) H (by omega) (by omega) V V V V V V V V V fun σ H => ?_);obtain ⟨x4,q4,h⟩:=bs h;refine .Z58 (c:=Bound.cs) (v:=w7) (w:=(.buf (b12 + 5) 1 2)) (xs:=s4.2) (ys:=[x3]) H (by omega) (by omega) 1 V V V (.s 0 V) q4 V V V V V nofun V fun w12 σ H => (.a1 w12 V V (.nila H fun H => ?_));obtain rfl:=sj h;exact ⟨w12,V,EI V,(H.erase 0)⟩
      ·rintro x e σ ⟨w13,rfl,he,H⟩;obtain ⟨e,rfl⟩:=he.ex;obtain rfl:=sj h;exact ⟨w13,V,EI V,H⟩
     ·rintro x e σ ⟨w14,rfl,he,H⟩;obtain ⟨e,rfl⟩:=he.ex;refine .Za 3 V H fun b13 σ H => (.mV V (.iV V (.aV V (.nila H fun H => ?_))));obtain rfl:=sj h;exact ⟨V,w14,EI V,H⟩
    refine .exit ?_;obtain rfl:=sj h;exact ⟨nofun,⟨w7,V,EI V,H⟩⟩
   ·rintro x e σ ⟨w15,rfl,he,H⟩;obtain ⟨e,rfl⟩:=he.ex;refine .Za 5 V H fun b14 σ H => (.m1 w3 V V (.m1 w15 V V (.buildSF (sz:=1) ([y2].map (cL Bound.cs)) H (by omega) (by omega) V V (.exp (.c (.s 0 V)) .nil) V V V V V V V nofun fun σ H => ?_)));obtain ⟨x5,q5,h⟩:=bs h;refine .Z58 (c:=(cL Bound.cs)) (v:=w3) (w:=(.buf (b14 + 2) 1 1)) (xs:=s2.2) (ys:=[y2]) H (by omega) (by omega) 2 V V V (.s 0 V) q5 V V V V V nofun V fun w16 σ H => (.a1 w16 V V (.nila H fun H => (.Za 3 V H fun b15 σ H => (.mV V (.iV V (.aV V (.nila H fun H => ?_)))))));obtain rfl:=sj h;exact ⟨V,w16,EI V,((H.erase 1).erase 0)⟩
  refine .exit ?_;obtain rfl:=sj h;exact ⟨nofun,(.inl ⟨_,w3,V,V,EI V,H⟩)⟩
 ·rintro x e σ (⟨a2,w17,rfl,rfl,he,H⟩ | ⟨r',rfl,rfl,hE⟩)
  ·replace h:=jgo h;obtain ⟨e,rfl⟩:=he.ex;refine .tR 3 V H fun b16 σ H => (.m1 w17 V V (.a1 w17 V V (.aV V (.nila H fun H => (.ret ?_)))));obtain rfl:=sj h;exact (Ends.H (xs:=[w17,(vb true)]) (.inr V) H (.tmp (v:=w17) V (.tmp (v:=(vb true)) V .nil)) (.two (.cons (.c (.s 0 V)) (.cons (.c (.v _)) .nil))))
  ·replace h:=jret h;obtain rfl:=sj h;exact hE
end Go.Dn

namespace Go.Dn
open Go Go.Proofs
set_option maxRecDepth 100000
set_option maxHeartbeats 4000000
theorem Z3f {n:Int} {d:(List (List Bound))} {ticks:(List Int)} {x':epactlaw24_Set} {r:Bool} (h:ZH n d ticks x' = some r):Fn CX 9 [(vi n),(vl (cL Bound.cs) d),(vl (cI .i64) ticks),(.agg (vs (epactlaw24_Set.cs x')))] (vb r):=by
 refine Fn.go Try.func9 V fun σ H => ?_;unfold ZH at h;refine .tR 2 V H fun b1 σ H => (.boxH (cs:=[(vi x'.I),(vi x'.J),(.v (.int .i8 x'.Most.Inf)),(vi x'.Most.N)]) H (by omega) (by omega) V V V fun σ H => (.aV V (.nila H fun H => (.then (.tR 3 V H fun b2 σ H => (.mV V (.nV V (.iV V ?_))))))));refine .nila H fun H => ?_;refine .wh h V ?_ ?_ <;> intro h
 ·refine .tR 2 V H fun b3 σ H => (.cV (Z0s V) V (.aV V (.nila H fun H => (.ret ?_))));obtain rfl:=sj h;exact Ends.eR V
 refine .skip (.then (.tR 3 V H fun b4 σ H => (.mV V (.nV V (.mV V (.nila H fun H => (.inBlock ?_)))))));obtain ⟨y1,hj1,h⟩:=bs h;obtain ⟨n1,hj1⟩:=ZS.1 hj1;refine .mono (Runs.loopO hj1 (fun s1 e σ => ZE e [(0,(vi n)),(1,(vl (cL Bound.cs) d)),(2,(vl (cI .i64) ticks)),(7,(.ptr (b1 + 0) 4 0)),(31,(vl (cL Bound.cs) d)),(32,(vi (d.length:Int))),(33,(vi s1))]∧Hs σ [.blk (b1 + 0) 42 [(vi x'.I),(vi x'.J),(.v (.int .i8 x'.Most.Inf)),(vi x'.Most.N)]]) (fun y1 x e σ => (∃ a1,y1 = (.go a1)∧x = .exit 0∧ZE e [(0,(vi n)),(1,(vl (cL Bound.cs) d)),(2,(vl (cI .i64) ticks)),(7,(.ptr (b1 + 0) 4 0))]∧Hs σ [.blk (b1 + 0) 42 [(vi x'.I),(vi x'.J),(.v (.int .i8 x'.Most.Inf)),(vi x'.Most.N)]])∨(∃ r',y1 = (.ret r')∧x = .ret∧Ends CX Try.f9.results.toList (vb r') x e σ)) ⟨EI V,H⟩ ?_) ?_
 ·intro s1 e σ hI z h;obtain ⟨he,H⟩:=hI;obtain ⟨e,rfl⟩:=he.ex;unfold ZH.s0 at h;refine .tR 1 V H fun b5 σ H => (.iV V (.nila H fun H => (.then ?_)));refine .wh h V ?_ ?_ <;> intro h
  ·refine .skip (.then (.inBlock (.tR 3 V H fun b6 σ H => ?_)));obtain ⟨x1,q1,h⟩:=bs h;refine .jV q1 V (.pV V (.aV V (.nila H fun H => (.tR 3 V H fun b7 σ H => (.mV V (.nV V (.iV V (.nila H fun H => ?_))))))));refine .wh h V ?_ ?_ <;> intro h
   ·refine .tR 2 V H fun b8 σ H => (.cV (Z0s V) V (.aV V (.nila H fun H => (.ret ?_))));obtain rfl:=sj h;exact ⟨nofun,(.inr ⟨_,V,V,(Ends.H (xs:=[(vb ZB)]) (.inr V) H (.tmp (v:=(vb ZB)) V .nil) (.one (.c (.v _))))⟩)⟩
   refine .skip (.Za 2 V H fun b9 σ H => (.iV V (.mV V (.nila H fun H => ?_))));obtain rfl:=sj h;exact ⟨V,EI V,H⟩
  refine .exit ?_;obtain rfl:=sj h;exact ⟨nofun,(.inl ⟨_,V,V,EI V,H⟩)⟩
 ·rintro x e σ (⟨a2,rfl,rfl,he,H⟩ | ⟨r',rfl,rfl,hE⟩)
  ·replace h:=jgo h;obtain ⟨e,rfl⟩:=he.ex;refine .tR 7 V H fun b10 σ H => (.mV V ?_);obtain ⟨x2,q2,h⟩:=bs h;refine .cV (Z4p q2) V (.m1 (.tup [(vl (cL Bound.cs) x2.1),(vi x2.2)]) V V (.xV V (.xV V (.aV V (.aV V (.nila H fun H => (.then (.tR 40 V H fun b11 σ H => ?_))))))));refine .mV V (.iV V (.mV V (.iV V (.mV V ?_))));refine .md H 3 [(54,(vb ((decide (n ≥ 0)) && (decide (n≤24))))),(0,(vi n)),(1,(vl (cL Bound.cs) d)),(2,(vl (cI .i64) ticks)),(7,(.ptr (b1 + 0) 4 0)),(11,(vl (cL Bound.cs) x2.1)),(12,(vi x2.2)),(48,(vb (x2.2 == 0)))] [.blk (b1 + 0) 42 [(vi x'.I),(vi x'.J),(.v (.int .i8 x'.Most.Inf)),(vi x'.Most.N)]] V ?_ fun e σ H => ?_
   ·refine .split V V ?_ ?_ <;> intro hc4
    ·refine .mV V (.iV V (.kT V (.nil ?_)));exact ⟨⟨Z13 hc4,V,V,V,V,V,V,V,U⟩,H.wk (by omega)⟩
    ·refine .ps 2 V (.kF V (.nil ?_));exact ⟨⟨Z11 hc4,V,V,V,V,V,V,V,U⟩,H.wk (by omega)⟩
   refine .neB (b:=(x2.2 == 0)) (b':=((decide (n ≥ 0)) && (decide (n≤24)))) V V V V (.mV V ?_);obtain ⟨y2,hj2,h⟩:=bs h;refine .md H 14 [(70,(vb y2)),(1,(vl (cL Bound.cs) d)),(2,(vl (cI .i64) ticks)),(7,(.ptr (b1 + 0) 4 0))] [.blk (b1 + 0) 42 [(vi x'.I),(vi x'.J),(.v (.int .i8 x'.Most.Inf)),(vi x'.Most.N)]] V ?_ fun e σ H => ?_
   ·refine .sp hj2 V ?_ ?_ <;> intro h
    ·refine .ps 13 V (.kT V (.nil ?_));obtain rfl:=sj h;exact ⟨EI V,H.wk (by omega)⟩
    refine .mV V (.iV V (.mV V ?_));obtain ⟨y3,hj3,h⟩:=bs h;refine .md H 10 [(69,(vb y3)),(1,(vl (cL Bound.cs) d)),(2,(vl (cI .i64) ticks)),(7,(.ptr (b1 + 0) 4 0)),(56,(vb false))] [.blk (b1 + 0) 42 [(vi x'.I),(vi x'.J),(.v (.int .i8 x'.Most.Inf)),(vi x'.Most.N)]] V ?_ fun e σ H => ?_
    ·refine .sp hj3 V ?_ ?_ <;> intro h
     ·refine .mV V (.nV V (.mV V (.iV V (.mV V ?_))));obtain ⟨y4,hj4,h⟩:=bs h;refine .md H 4 [(68,(vb y4)),(1,(vl (cL Bound.cs) d)),(2,(vl (cI .i64) ticks)),(7,(.ptr (b1 + 0) 4 0)),(56,(vb false)),(59,(vb true))] [.blk (b1 + 0) 42 [(vi x'.I),(vi x'.J),(.v (.int .i8 x'.Most.Inf)),(vi x'.Most.N)]] V ?_ fun e σ H => ?_
      ·refine .sp hj4 V ?_ ?_ <;> intro h
       ·refine .ps 3 V (.kT V (.nil ?_));obtain rfl:=sj h;exact ⟨EI V,H.wk (by omega)⟩
       refine .mV V (.wt V V ?_);obtain ⟨x3,q3,h⟩:=bs h;refine .cV (Z0V q3) V (.tV V (.kF V (.nil ?_)));obtain rfl:=sj h;exact ⟨EI V,H.wk (by omega)⟩
      refine .kT V (.nil ?_);obtain rfl:=sj h;exact ⟨EI V,H.wk (by omega)⟩
     refine .ps 9 V (.kF V (.nil ?_));obtain rfl:=sj h;exact ⟨EI V,H.wk (by omega)⟩
    refine .kF V (.nil ?_);obtain rfl:=sj h;exact ⟨EI V,H.wk (by omega)⟩
   refine .mV V ?_;obtain ⟨y5,hj5,h⟩:=bs h;refine .md H 6 [(77,(vb y5)),(1,(vl (cL Bound.cs) d)),(2,(vl (cI .i64) ticks)),(7,(.ptr (b1 + 0) 4 0))] [.blk (b1 + 0) 42 [(vi x'.I),(vi x'.J),(.v (.int .i8 x'.Most.Inf)),(vi x'.Most.N)]] V ?_ fun e σ H => ?_
   ·refine .sp hj5 V ?_ ?_ <;> intro h
    ·refine .ps 5 V (.kT V (.nil ?_));obtain rfl:=sj h;exact ⟨EI V,H.wk (by omega)⟩
    refine .mV V (.wt V V ?_);obtain ⟨x4,q4,h⟩:=bs h;refine .cV (Z2W q4) V (.mV V (.wt V V ?_));obtain ⟨x5,q5,h⟩:=bs h;refine .cV (Z0V q5) V (.wt V V (.neB (b:=x4) (b':=x5) V V V V (.kF V (.nil ?_))));obtain rfl:=sj h;exact ⟨EI V,H.wk (by omega)⟩
   refine .mV V ?_;obtain ⟨y6,hj6,h⟩:=bs h;refine .md H 8 [(86,(vb y6)),(1,(vl (cL Bound.cs) d)),(7,(.ptr (b1 + 0) 4 0))] [.blk (b1 + 0) 42 [(vi x'.I),(vi x'.J),(.v (.int .i8 x'.Most.Inf)),(vi x'.Most.N)]] V ?_ fun e σ H => ?_
   ·refine .sp hj6 V ?_ ?_ <;> intro h
    ·refine .ps 7 V (.kT V (.nil ?_));obtain rfl:=sj h;exact ⟨EI V,H.wk (by omega)⟩
    refine .mV V (.mV V (.wt V V ?_));obtain ⟨x6,q6,h⟩:=bs h;refine .cV (Z3j q6) V (.mV V (.mV V (.wt V V ?_)));obtain ⟨x7,q7,h⟩:=bs h;refine .cV (Z4T q7) V (.wt V V (.neB (b:=x6) (b':=x7) V V V V (.kF V (.nil ?_))));obtain rfl:=sj h;exact ⟨EI V,H.wk (by omega)⟩
   refine .nila H fun H => ?_;refine .wh h V ?_ ?_ <;> intro h
   ·refine .tR 1 V H fun b12 σ H => (.aV V (.nila H fun H => (.ret ?_)));obtain rfl:=sj h;exact Ends.eR V
   refine .skip (.tR 13 V H fun b13 σ H => (.mV V (.fV H 0 V (.lV H 0 V (.fV H 0 V (.lV H 0 V (.fV H 0 V (.LV [(.v (.int .i8 x'.Most.Inf)),(vi x'.Most.N)] H 0 V ?_))))))));obtain ⟨x8,q8,h⟩:=bs h;refine .cV (Z6P q8) V (.m1 (.tup [(vl (cL Bound.cs) x8.1),(vi x8.2)]) V V (.xV V (.xV V (.aV V (.aV V (.nila H fun H => (.then (.tR 32 V H fun b14 σ H => ?_))))))));refine .mV V ?_;obtain ⟨x9,q9,h⟩:=bs h;refine .cV (Z0V q9) V (.mV V ?_);refine .md H 4 [(104,(vb (x9 && (decide (x'.I ≥ 0))))),(1,(vl (cL Bound.cs) d)),(7,(.ptr (b1 + 0) 4 0)),(13,(vl (cL Bound.cs) x8.1)),(14,(vi x8.2))] [.blk (b1 + 0) 42 [(vi x'.I),(vi x'.J),(.v (.int .i8 x'.Most.Inf)),(vi x'.Most.N)]] V ?_ fun e σ H => ?_
   ·refine .split V V ?_ ?_ <;> intro hc11
    ·refine .fV H 0 V (.lV H 0 V (.iV V (.kT V (.nil ?_))));exact ⟨⟨Z13 hc11,V,V,V,V,U⟩,H.wk (by omega)⟩
    ·refine .ps 3 V (.kF V (.nil ?_));exact ⟨⟨Z11 hc11,V,V,V,V,U⟩,H.wk (by omega)⟩
   refine .mV V ?_;refine .md H 4 [(109,(vb ((x9 && (decide (x'.I ≥ 0))) && (decide (x'.J ≥ 0))))),(1,(vl (cL Bound.cs) d)),(7,(.ptr (b1 + 0) 4 0)),(13,(vl (cL Bound.cs) x8.1)),(14,(vi x8.2))] [.blk (b1 + 0) 42 [(vi x'.I),(vi x'.J),(.v (.int .i8 x'.Most.Inf)),(vi x'.Most.N)]] V ?_ fun e σ H => ?_
   ·refine .split V V ?_ ?_ <;> intro hc12
    ·refine .fV H 0 V (.lV H 0 V (.iV V (.kT V (.nil ?_))));exact ⟨⟨Z13 hc12,V,V,V,V,U⟩,H.wk (by omega)⟩
    ·refine .ps 3 V (.kF V (.nil ?_));exact ⟨⟨Z11 hc12,V,V,V,V,U⟩,H.wk (by omega)⟩
   refine .mV V ?_;refine .md H 6 [(116,(vb (((x9 && (decide (x'.I ≥ 0))) && (decide (x'.J ≥ 0))) && (decide (x'.I < (d.length:Int)))))),(1,(vl (cL Bound.cs) d)),(7,(.ptr (b1 + 0) 4 0)),(13,(vl (cL Bound.cs) x8.1)),(14,(vi x8.2))] [.blk (b1 + 0) 42 [(vi x'.I),(vi x'.J),(.v (.int .i8 x'.Most.Inf)),(vi x'.Most.N)]] V ?_ fun e σ H => ?_
   ·refine .split V V ?_ ?_ <;> intro hc13
    ·refine .fV H 0 V (.lV H 0 V (.mV V (.nV V (.iV V (.kT V (.nil ?_))))));exact ⟨⟨Z13 hc13,V,V,V,V,U⟩,H.wk (by omega)⟩
    ·refine .ps 5 V (.kF V (.nil ?_));exact ⟨⟨Z11 hc13,V,V,V,V,U⟩,H.wk (by omega)⟩
   refine .mV V ?_;refine .md H 6 [(123,(vb ((((x9 && (decide (x'.I ≥ 0))) && (decide (x'.J ≥ 0))) && (decide (x'.I < (d.length:Int)))) && (decide (x'.J < (d.length:Int)))))),(1,(vl (cL Bound.cs) d)),(7,(.ptr (b1 + 0) 4 0)),(13,(vl (cL Bound.cs) x8.1)),(14,(vi x8.2))] [.blk (b1 + 0) 42 [(vi x'.I),(vi x'.J),(.v (.int .i8 x'.Most.Inf)),(vi x'.Most.N)]] V ?_ fun e σ H => ?_
   ·refine .split V V ?_ ?_ <;> intro hc14
    ·refine .fV H 0 V (.lV H 0 V (.mV V (.nV V (.iV V (.kT V (.nil ?_))))));exact ⟨⟨Z13 hc14,V,V,V,V,U⟩,H.wk (by omega)⟩
    ·refine .ps 5 V (.kF V (.nil ?_));exact ⟨⟨Z11 hc14,V,V,V,V,U⟩,H.wk (by omega)⟩
   refine .mV V ?_;refine .md H 4 [(128,(vb (((((x9 && (decide (x'.I ≥ 0))) && (decide (x'.J ≥ 0))) && (decide (x'.I < (d.length:Int)))) && (decide (x'.J < (d.length:Int)))) && (Zk x'.Most)))),(1,(vl (cL Bound.cs) d)),(7,(.ptr (b1 + 0) 4 0)),(13,(vl (cL Bound.cs) x8.1)),(14,(vi x8.2))] [.blk (b1 + 0) 42 [(vi x'.I),(vi x'.J),(.v (.int .i8 x'.Most.Inf)),(vi x'.Most.N)]] V ?_ fun e σ H => ?_
   ·refine .split V V ?_ ?_ <;> intro hc15
    ·refine .fV H 0 V (.LV [(.v (.int .i8 x'.Most.Inf)),(vi x'.Most.N)] H 0 V (.cV (Z2x (V:Zk x'.Most = _)) V (.kT V (.nil ?_))));exact ⟨⟨Z13 hc15,V,V,V,V,U⟩,H.wk (by omega)⟩
    ·refine .ps 3 V (.kF V (.nil ?_));exact ⟨⟨Z11 hc15,V,V,V,V,U⟩,H.wk (by omega)⟩
   refine .aV V (.nila H fun H => (.tR 15 V H fun b15 σ H => (.mV V (.mV V (.iV V (.neB (b:=(((((x9 && (decide (x'.I ≥ 0))) && (decide (x'.J ≥ 0))) && (decide (x'.I < (d.length:Int)))) && (decide (x'.J < (d.length:Int)))) && (Zk x'.Most))) (b':=(x8.2 == 0)) V V V V (.mV V ?_)))))));obtain ⟨y7,hj7,h⟩:=bs h;refine .md H 10 [(143,(vb y7)),(1,(vl (cL Bound.cs) d))] [] V ?_ fun e σ H => ?_
   ·refine .sp hj7 V ?_ ?_ <;> intro h
    ·refine .ps 9 V (.kT V (.nil ?_));obtain rfl:=sj h;exact ⟨EI V,(H.erase 0).wk (by omega)⟩
    refine .mV V (.iV V (.mV V ?_));obtain ⟨y8,hj8,h⟩:=bs h;refine .md H 6 [(142,(vb y8)),(1,(vl (cL Bound.cs) d)),(133,(vb false))] [] V ?_ fun e σ H => ?_
    ·refine .sp hj8 V ?_ ?_ <;> intro h
     ·refine .mV V (.mV V (.LV [(vi x'.I),(vi x'.J),(.v (.int .i8 x'.Most.Inf)),(vi x'.Most.N)] H 0 V (.wt V V ?_)));obtain ⟨x10,q10,h⟩:=bs h;refine .cV (Z5E q10) V (.tV V (.kT V (.nil ?_)));obtain rfl:=sj h;exact ⟨EI V,(H.erase 0).wk (by omega)⟩
     refine .ps 5 V (.kF V (.nil ?_));obtain rfl:=sj h;exact ⟨EI V,(H.erase 0).wk (by omega)⟩
    refine .kF V (.nil ?_);obtain rfl:=sj h;exact ⟨EI V,H.wk (by omega)⟩
   refine .nila H fun H => ?_;refine .wh h V ?_ ?_ <;> intro h
   ·refine .tR 1 V H fun b16 σ H => (.aV V (.nila H fun H => (.ret ?_)));obtain rfl:=sj h;exact Ends.eR V
   refine .skip (.then (.tR 3 V H fun b17 σ H => (.mV V ?_)));obtain ⟨x11,q11,h⟩:=bs h;refine .cV (Z0V q11) V (.tV V (.nila H fun H => ?_));refine .wh h V ?_ ?_ <;> intro h
   ·refine .tR 9 V H fun b18 σ H => (.mV V ?_);obtain ⟨x12,q12,h⟩:=bs h;refine .cV (Z1P q12) V (.m1 (.tup [(vl (cL Bound.cs) x12.1),(vb x12.2.1),(vi x12.2.2)]) V V (.xV V (.xV V (.xV V (.aV V (.aV V (.aV V (.nila H fun H => ?_))))))));refine .tR 6 V H fun b19 σ H => (.mV V (.iV V (.mV V ?_)));refine .md H 2 [(157,(vb ((x12.2.2 == 2) && ZB)))] [] V ?_ fun e σ H => ?_
    ·refine .split V V ?_ ?_ <;> intro hc20
     ·refine .cV (Z0s V) V (.kT V (.nil ?_));exact ⟨⟨Z13 hc20,U⟩,H.wk (by omega)⟩
     ·refine .ps 1 V (.kF V (.nil ?_));exact ⟨⟨Z11 hc20,U⟩,H.wk (by omega)⟩
    refine .aV V (.nila H fun H => (.ret ?_));obtain rfl:=sj h;exact Ends.eR V
   refine .skip (.tR 1 V H fun b20 σ H => (.a1 .nils V V (.nila H fun H => (.then (.tR 7 V H fun b21 σ H => (.mV V (.mV V (.nV V ?_))))))));refine .min2 V V V ?_;obtain ⟨x13,q13,h⟩:=bs h;refine .sliceP01 (c:=(cL Bound.cs)) q13 V V V V (fun _ => V) V (.nV V (.mV V (.nila H fun H => (.inBlock ?_))));replace H:=H.pushNil 43 1 true;obtain ⟨y9,hj9,h⟩:=bs h;obtain ⟨n2,hj9⟩:=ZS.1 hj9;refine .mono (Runs.loopO hj9 (fun s3 e σ => ∃ (w3:PV),ZE e [(1,(vl (cL Bound.cs) d)),(19,w3),(162,(vl (cL Bound.cs) x13)),(163,(vi (x13.length:Int))),(164,(vi s3.1))]∧Hs σ [.sl w3 43 1 (s3.2.map (cL Bound.cs)) true]) (fun y9 x e σ => ∃ (w4:PV),x = .exit 2∧ZE e [(19,w4)]∧Hs σ [.sl w4 43 1 (y9.map (cL Bound.cs)) true]) ⟨.nils,EI V,H⟩ ?_) ?_
   ·intro s3 e σ hI z h;obtain ⟨w3,he,H⟩:=hI;obtain ⟨e,rfl⟩:=he.ex;unfold ZH.s1 at h;refine .tR 1 V H fun b22 σ H => (.iV V (.nila H fun H => (.then ?_)));refine .wh h V ?_ ?_ <;> intro h
    ·refine .skip (.then (.inBlock (.tR 3 V H fun b23 σ H => ?_)));obtain ⟨x14,q14,h⟩:=bs h;refine .jV q14 V (.pV V (.aV V (.nila H fun H => (.Za 9 V H fun b24 σ H => (.m1 w3 V V (.mV V (.mV V (.nV V ?_))))))));refine .min2 V V V ?_;obtain ⟨x15,q15,h⟩:=bs h;refine .sliceP01 (c:=Bound.cs) q15 V V V V (fun _ => V) V (.Z2O (sz:=1) ([x15].map (cL Bound.cs)) H (by omega) (by omega) V V V V V V V V V fun σ H => ?_);obtain ⟨x16,q16,h⟩:=bs h;refine .Z58 (c:=(cL Bound.cs)) (v:=w3) (w:=(.buf (b24 + 6) 1 1)) (xs:=s3.2) (ys:=[x15]) H (by omega) (by omega) 1 V V V (.s 0 V) q16 V V V V V nofun V fun w5 σ H => (.a1 w5 V V (.nila H fun H => (.Za 2 V H fun b25 σ H => (.iV V (.mV V (.nila H fun H => ?_))))));obtain rfl:=sj h;exact ⟨V,w5,EI V,(H.erase 0)⟩
    refine .exit ?_;obtain rfl:=sj h;exact ⟨nofun,⟨w3,V,EI V,H⟩⟩
   ·rintro x e σ ⟨w6,rfl,he,H⟩;obtain ⟨e,rfl⟩:=he.ex;refine .tR 9 V H fun b26 σ H => (.m1 w6 V V ?_);obtain ⟨x17,q17,h⟩:=bs h;refine .callXE (xs:=[w6]) (ys:=[(vl (cL Bound.cs) y9)]) H rfl (.cons (.c (.s 0 rfl)) .nil) (Z1P q17) (by rcases (H.sl (k:=0) rfl).2 with ⟨hw1,_⟩ | ⟨_,hw1,_⟩ <;> rw [hw1] <;> rfl) nofun rfl fun σ H => (.m1 (.tup [(vl (cL Bound.cs) x17.1),(vb x17.2.1),(vi x17.2.2)]) rfl rfl (.xV rfl (.xV rfl (.xV rfl (.aV rfl (.aV rfl (.aV rfl (.nila H fun H => ?_))))))));refine .tR 7 V H fun b27 σ H => (.m1 w6 V V ?_);obtain ⟨x18,q18,h⟩:=bs h;refine .callX (xs:=[w6]) (ys:=[(vl (cL Bound.cs) y9)]) H V (.cons (.c (.s 0 V)) .nil) (Z4S q18) V V nofun V fun σ H => (.m1 (.tup [(vl (cL Bound.cs) x18.1),(vb x18.2)]) V V (.xV V (.xV V (.aV V (.aV V (.nila H fun H => (.tR 16 V H fun b28 σ H => (.mV V ?_))))))));refine .iV V (.mV V ?_);refine .md H 4 [(194,(vb ((x17.2.2 == 0) && (x17.2.1 == x18.2)))),(22,(vl (cL Bound.cs) x17.1)),(25,(vl (cL Bound.cs) x18.1))] [] V ?_ fun e σ H => ?_
    ·refine .split V V ?_ ?_ <;> intro hc22
     ·refine .mV V (.mV V (.wt V V (.eqB (b:=x17.2.1) (b':=x18.2) V V V V (.kT V (.nil ?_)))));exact ⟨⟨Z13 hc22,V,V,U⟩,(H.erase 0).wk (by omega)⟩
     ·refine .ps 3 V (.kF V (.nil ?_));exact ⟨⟨Z11 hc22,V,V,U⟩,(H.erase 0).wk (by omega)⟩
    refine .mV V ?_;obtain ⟨y10,hj10,h⟩:=bs h;refine .md H 4 [(199,(vb y10))] [] V ?_ fun e σ H => ?_
    ·refine .sp hj10 V ?_ ?_ <;> intro h
     ·refine .mV V (.mV V (.wt V V ?_));obtain ⟨x19,q19,h⟩:=bs h;refine .cV (Z2j q19) V (.kT V (.nil ?_));obtain rfl:=sj h;exact ⟨EI V,H.wk (by omega)⟩
     refine .ps 3 V (.kF V (.nil ?_));obtain rfl:=sj h;exact ⟨EI V,H.wk (by omega)⟩
    refine .mV V ?_;refine .md H 2 [(202,(vb (y10 && ZB)))] [] V ?_ fun e σ H => ?_
    ·refine .split V V ?_ ?_ <;> intro hc24
     ·refine .cV (Z0s V) V (.kT V (.nil ?_));exact ⟨⟨Z13 hc24,U⟩,H.wk (by omega)⟩
     ·refine .ps 1 V (.kF V (.nil ?_));exact ⟨⟨Z11 hc24,U⟩,H.wk (by omega)⟩
    refine .aV V (.nila H fun H => (.ret ?_));obtain rfl:=sj h;exact Ends.eR V
  ·replace h:=jret h;obtain rfl:=sj h;exact hE
end Go.Dn

namespace Go.Dn
open Go
theorem Z1y {S R:Type} {step:S→Option (S ⊕ R)} (I:S→Prop) (m:S→Nat) (post:R→Prop)
  (h:∀ s,I s→(∃ s',step s = some (.inl s')∧I s'∧m s' < m s)∨(∃ r,step s = some (.inr r)∧post r)):∀ s,I s→∃ r,loopO step s = some r∧post r:=by
 have key:∀ n s,m s = n→I s→∃ r,loopO step s = some r∧post r:=by
  intro n
  induction n using Nat.strongRecOn with
  | _ n ih =>
   intro s hm hI
   rcases h s hI with ⟨s',h1,h2,h3⟩ | ⟨r,h1,h2⟩
   ·obtain ⟨r,q1,q2⟩:=ih (m s') (by omega) s' rfl h2
    exact ⟨r,by rw [loopO_eq,h1];exact q1,q2⟩
   ·exact ⟨r,by rw [loopO_eq,h1],h2⟩
 exact fun s hI => key _ s rfl hI
theorem Z0Q {S R:Type} {step:S→Option (S ⊕ R)} (I:S→R→Prop) (m:S→Nat)
  (h:∀ s r,I s r→(∃ s',step s = some (.inl s')∧I s' r∧m s' < m s)∨step s = some (.inr r)) {s:S} {r:R} (hI:I s r):loopO step s = some r:=by
 obtain ⟨r',h1,h2⟩:=Z1y (I:=fun s => I s r) m (fun r' => r' = r) (fun s hs => by
  rcases h s r hs with ⟨s',h1,h2,h3⟩ | h1
  ·exact .inl ⟨s',h1,h2,h3⟩
  ·exact .inr ⟨r,h1,rfl⟩) s hI
 rw [h1,h2]
theorem wrap_i64 (a:Int):IntKind.i64.wrap a = (a + 9223372036854775808) % 18446744073709551616 - 9223372036854775808:=by
 simp [IntKind.wrap,IntKind.bits,IntKind.signed]
 split <;> omega
theorem Z5A (a:Int):IntKind.u64.wrap a = a % 18446744073709551616:=by
 simp [IntKind.wrap,IntKind.bits,IntKind.signed]
theorem ZY {x:Int} (h : -9223372036854775808≤x∧x≤9223372036854775807):w64 x = x:=by
 unfold w64;rw [wrap_i64];omega
theorem Z3i:room = 140737488355328:=rfl
theorem at?_lt {α:Type} {l:List α} {i:Int} (h0:0≤i) (h:i < l.length):at? l i = some (l[i.toNat]'(by omega)):=by
 unfold at?;rw [if_pos h0,Y5]
theorem at?_nat {α:Type} {l:List α} {k:Nat} (h:k < l.length):at? l (k:Int) = some l[k]:=by
 rw [at?_lt (by omega) (by omega)];rfl
theorem app?_ok {α:Type} {b:Nat} {l m:List α} (h:(l.length + m.length) * b≤room):app? b l m = some (l ++ m):=if_pos h
theorem Z3l {a b:Int} (h:a = b):(a == b) = true:=by simp [h]
theorem Z4U {a b:Int} (h:a ≠ b):(a == b) = false:=by simp [h]
theorem bne_t {a b:Int} (h:a ≠ b):(a != b) = true:=by simp [h]
theorem Z4X {a b:Int} (h:a = b):(a != b) = false:=by simp [h]
theorem Zn {p:Prop} [Decidable p] (h:p):decide p = true:=by simp [h]
theorem Zr {p:Prop} [Decidable p] (h:¬ p):decide p = false:=by simp [h]
theorem first_bad {α:Type} {l:List α} {good:Nat→α→Prop} (h:¬ ∀ k x,l[k]? = some x→good k x):∃ (k:Nat) (x:α),l[k]? = some x∧¬ good k x∧∀ j y,j < k→l[j]? = some y→good j y:=by
 have hex:∃ k:Nat,∃ x,l[k]? = some x∧¬ good k x:=by
  apply Classical.byContradiction;intro hn;exact h fun k x hk => Classical.byContradiction fun hg => hn ⟨k,x,hk,hg⟩
 obtain ⟨k,hk⟩:=hex
 induction k using Nat.strongRecOn with
 | _ k ih =>
  by_cases h:∃ j,j < k∧∃ x,l[j]? = some x∧¬ good j x
  ·obtain ⟨j,hj,hx⟩:=h
   exact ih j hj hx
  ·obtain ⟨x,hx,hb⟩:=hk
   exact ⟨k,x,hx,hb,fun j y hj hy => Classical.byContradiction fun hg => h ⟨j,hj,y,hy,hg⟩⟩
theorem Z2K {α R:Type} {l:List α} {step:Int→Option (Int ⊕ R)} (good:Nat→α→Prop) {no yes:R}
  (hstep:∀ (k:Nat) (x:α),l[k]? = some x→(∀ j y,j < k→l[j]? = some y→good j y)→(step (k:Int) = some (.inl ((k:Int) + 1))∧good k x)∨(step (k:Int) = some (.inr no)∧¬ good k x))
  (hend:step (l.length:Int) = some (.inr yes)):(loopO step 0 = some yes∧∀ k x,l[k]? = some x→good k x)∨(loopO step 0 = some no∧¬ ∀ k x,l[k]? = some x→good k x):=by
 by_cases hall:∀ k x,l[k]? = some x→good k x
 ·refine .inl ⟨?_,hall⟩;refine Z0Q (I:=fun (s:Int) r => r = yes∧∃ k:Nat,s = k∧k≤l.length) (fun s => (l.length - s.toNat)) ?_ ⟨rfl,0,rfl,Ya _⟩
  rintro s r ⟨rfl,k,rfl,hk⟩
  by_cases hlt:k < l.length
  ·rcases hstep k l[k] (Y5 hlt) (fun j y _ hy => hall j y hy) with ⟨h1,_⟩ | ⟨_,h2⟩
   ·exact .inl ⟨_,h1,⟨rfl,k + 1,by push_cast;rfl,hlt⟩,by simp;omega⟩
   ·exact absurd (hall k _ (Y5 hlt)) h2
  ·have:k = l.length:=by omega
   subst this;exact .inr hend
 ·refine .inr ⟨?_,hall⟩;obtain ⟨k0,x0,hx0,hb0,hgood⟩:=first_bad hall
  have hlt0:=(List.getElem?_eq_some_iff.1 hx0).1
  refine Z0Q (I:=fun (s:Int) r => r = no∧∃ k:Nat,s = k∧k≤k0) (fun s => (l.length - s.toNat)) ?_ ⟨rfl,0,rfl,Ya _⟩
  rintro s r ⟨rfl,k,rfl,hk⟩
  by_cases hlt:k < k0
  ·have hkl:k < l.length:=by omega
   rcases hstep k l[k] (Y5 hkl) (fun j y hj hy => hgood j y (by omega) hy) with ⟨h1,_⟩ | ⟨_,h2⟩
   ·exact .inl ⟨_,h1,⟨rfl,k + 1,by push_cast;rfl,hlt⟩,by simp;omega⟩
   ·exact absurd (hgood k _ hlt (Y5 hkl)) h2
  ·have:k = k0:=by omega
   subst this
   rcases hstep k x0 hx0 hgood with ⟨_,h2⟩ | ⟨h1,_⟩
   ·exact absurd h2 hb0
   ·exact .inr h1
end Go.Dn

namespace Go.Dn
open Go
def In64 (a:Int):Prop:=-9223372036854775808≤a∧a≤9223372036854775807
def InU64 (a:Int):Prop:=0≤a∧a≤18446744073709551615
def fitS (a:Int):Int × Int:=if -9223372036854775808≤a∧a≤9223372036854775807 then (a,0) else (0,10)
theorem fitS_of {a:Int} (h:In64 a):fitS a = (a,0):=if_pos h
theorem fitS_not {a:Int} (h:¬ In64 a):fitS a = (0,10):=if_neg h
theorem fit_or (x:Int):(In64 x∧fitS x = (x,0))∨(¬ In64 x∧fitS x = (0,10)):=by
 by_cases h:In64 x
 ·exact .inl ⟨h,fitS_of h⟩
 ·exact .inr ⟨h,fitS_not h⟩
theorem and32 (x:Int) (h:InU64 x):(((BitVec.ofInt 64 x &&& BitVec.ofInt 64 4294967295).toNat:Nat):Int) = x % 4294967296:=by
 obtain ⟨n,rfl⟩:=Int.eq_ofNat_of_zero_le h.1
 have hn:n < 2 ^ 64:=by have:=h.2;omega
 have h1:(BitVec.ofInt 64 (n:Int)).toNat = n:=by simp [BitVec.toNat_ofInt];omega
 have h2:(BitVec.ofInt 64 4294967295).toNat = 2 ^ 32 - 1:=by decide
 rw [BitVec.toNat_and,h1,h2,Nat.and_two_pow_sub_one_eq_mod]
 omega
theorem mul64_fact {x y:Int} (hx:InU64 x) (hy:InU64 y) :
  (x / 4294967296 * (y / 4294967296) + (x / 4294967296 * (y % 4294967296) + x % 4294967296 * (y % 4294967296) / 4294967296) / 4294967296 +
   ((x / 4294967296 * (y % 4294967296) + x % 4294967296 * (y % 4294967296) / 4294967296) % 4294967296 + x % 4294967296 * (y / 4294967296)) / 4294967296) = x * y / 18446744073709551616 ∧
  0≤x % 4294967296 * (y % 4294967296)∧x % 4294967296 * (y % 4294967296)≤18446744065119617025 ∧
  0≤x / 4294967296 * (y % 4294967296)∧x / 4294967296 * (y % 4294967296)≤18446744065119617025 ∧
  0≤x % 4294967296 * (y / 4294967296)∧x % 4294967296 * (y / 4294967296)≤18446744065119617025 ∧
  0≤x / 4294967296 * (y / 4294967296)∧x / 4294967296 * (y / 4294967296)≤18446744065119617025:=by
 have b:∀ {u v:Int},0≤u→u≤4294967295→0≤v→v≤4294967295→0≤u * v∧u * v≤18446744065119617025:=by
  intro u v h1 h2 h3 h4;exact ⟨Int.mul_nonneg h1 h3,Int.le_trans (Int.mul_le_mul h2 h4 h3 (by omega)) (by decide)⟩
 obtain ⟨hx1,hx2⟩:=hx
 obtain ⟨hy1,hy2⟩:=hy
 obtain ⟨a1,a2⟩:=b (u:=x % 4294967296) (v:=y % 4294967296) (by omega) (by omega) (by omega) (by omega)
 obtain ⟨b1,b2⟩:=b (u:=x / 4294967296) (v:=y % 4294967296) (by omega) (by omega) (by omega) (by omega)
 obtain ⟨c1,c2⟩:=b (u:=x % 4294967296) (v:=y / 4294967296) (by omega) (by omega) (by omega) (by omega)
 obtain ⟨d1,d2⟩:=b (u:=x / 4294967296) (v:=y / 4294967296) (by omega) (by omega) (by omega) (by omega)
 refine ⟨?_,a1,a2,b1,b2,c1,c2,d1,d2⟩
 have e:x * y = x / 4294967296 * (y / 4294967296) * 18446744073709551616 + (x / 4294967296 * (y % 4294967296) + x % 4294967296 * (y / 4294967296)) * 4294967296 + x % 4294967296 * (y % 4294967296):=by
  have ex:x = x / 4294967296 * 4294967296 + x % 4294967296:=by omega
  have ey:y = y / 4294967296 * 4294967296 + y % 4294967296:=by omega
  clear a1 a2 b1 b2 c1 c2 d1 d2 b hx1 hx2 hy1 hy2
  generalize x / 4294967296 = x1 at *
  generalize x % 4294967296 = x0 at *
  generalize y / 4294967296 = y1 at *
  generalize y % 4294967296 = y0 at *
  subst ex ey;simp only [Int.add_mul,Int.mul_add];have h1:x1 * 4294967296 * (y1 * 4294967296) = x1 * y1 * 18446744073709551616:=by
   rw [Y0T,Int.mul_comm 4294967296,Y0T y1,← Y0T]
   rfl
  have h2:x1 * 4294967296 * y0 = x1 * y0 * 4294967296:=by rw [Y0T,Int.mul_comm 4294967296,← Y0T]
  have h3:x0 * (y1 * 4294967296) = x0 * y1 * 4294967296:=by rw [← Y0T]
  rw [h1,h2,h3];omega
 rw [e]
 generalize x / 4294967296 * (y / 4294967296) = d at *
 generalize x / 4294967296 * (y % 4294967296) = b' at *
 generalize x % 4294967296 * (y / 4294967296) = c at *
 generalize x % 4294967296 * (y % 4294967296) = a at *
 omega
theorem safe_Add_eq {a b:Int} (ha:In64 a) (hb:In64 b):Z0e a b = fitS (a + b):=by
 unfold In64 at ha hb
 unfold Z0e fitS w64
 rw [wrap_i64]
 cases h:((decide ((a + b + 9223372036854775808) % 18446744073709551616 - 9223372036854775808 > a) != decide (b > 0)) && b != 0)
 ·rw [cond_false];simp only [Y0G,bne_eq_false_iff_eq,decide_eq_decide] at h
  split <;> simp only [Y2,and_true] <;> omega
 ·rw [cond_true];simp only [Y7,bne_iff_ne,ne_eq,decide_eq_decide] at h
  split <;> simp only [Y2] <;> omega
theorem mul64_eq {x y:Int} (hx:InU64 x) (hy:InU64 y):Zv x y = (x * y / 18446744073709551616,x * y % 18446744073709551616):=by
 unfold Zv
 have hb:∀ z:Int,z.fdiv (2 ^ 32) = z / 4294967296:=fun z => Int.fdiv_eq_ediv_of_nonneg z (by decide)
 have hm:(IntKind.u64.bits) = 64:=rfl
 obtain ⟨h1,h2,h3,h4,h5,h6,h7,h8,h9⟩:=mul64_fact hx hy
 have hw:∀ z:Int,0≤z→z≤18446744073709551615→IntKind.u64.wrap z = z:=fun z q1 q2 => by rw [Z5A];omega
 simp only [hb,iAnd]
 rw [hm,and32 x hx,and32 y hy]
 have x0:0≤x % 4294967296∧x % 4294967296 < 4294967296:=by omega
 have y0:0≤y % 4294967296∧y % 4294967296 < 4294967296:=by omega
 rw [hw (x % 4294967296) (by omega) (by omega),hw (y % 4294967296) (by omega) (by omega),hw _ h2 (by omega),hw _ h4 (by omega),hw _ h6 (by omega),hw _ h8 (by omega)]
 rw [hw (x / 4294967296 * (y % 4294967296) + x % 4294967296 * (y % 4294967296) / 4294967296) (by omega) (by omega)]
 rw [and32 _ ⟨by omega,by omega⟩]
 have t0:0≤(x / 4294967296 * (y % 4294967296) + x % 4294967296 * (y % 4294967296) / 4294967296) % 4294967296∧(x / 4294967296 * (y % 4294967296) + x % 4294967296 * (y % 4294967296) / 4294967296) % 4294967296 < 4294967296:=by omega
 rw [hw ((x / 4294967296 * (y % 4294967296) + x % 4294967296 * (y % 4294967296) / 4294967296) % 4294967296) (by omega) (by omega)]
 rw [hw ((x / 4294967296 * (y % 4294967296) + x % 4294967296 * (y % 4294967296) / 4294967296) % 4294967296 + x % 4294967296 * (y / 4294967296)) (by omega) (by omega)]
 rw [hw (x / 4294967296 * (y / 4294967296) + (x / 4294967296 * (y % 4294967296) + x % 4294967296 * (y % 4294967296) / 4294967296) / 4294967296) (by omega) (by omega)]
 rw [hw _ (by omega) (by omega),h1,Z5A]
def floorS (a b:Int):Int × Int × Int:=if b = 0 then (0,0,11) else if b = -1∧a = -9223372036854775808 then (0,0,10) else (a.fdiv b,a.fmod b,0)
end Go.Dn

namespace Go.Dn
open Go
def bd:Option Int→Bound
 | none => ⟨1,0⟩
 | some k => ⟨0,k⟩
def ole (a b:Option Int):Prop:=match b with
 | none => True
 | some k => match a with
  | none => False
  | some l => l≤k
def oadd (a b:Option Int):Option Int:=match a,b with
 | some x,some y => some (x + y)
 | _,_ => none
def omin (a b:Option Int):Option Int:=match a,b with
 | none,b => b
 | a,none => a
 | some x,some y => some (if x < y then x else y)
def olt (a b:Option Int):Bool:=match a,b with
 | none,_ => false
 | some _,none => true
 | some x,some y => decide (x < y)
def inB (B:Int) (a:Option Int):Prop:=match a with
 | none => True
 | some x => -B≤x∧x≤B
theorem Z0U (a:Option Int):ole a a:=by cases a <;> simp [ole]
theorem Z0G {a b c:Option Int} (h1:ole a b) (h2:ole b c):ole a c:=by
 cases a <;> cases b <;> cases c <;> simp [ole] at * <;> omega
theorem Z2U {a b c d:Option Int} (h1:ole a c) (h2:ole b d):ole (oadd a b) (oadd c d):=by
 cases a <;> cases b <;> cases c <;> cases d <;> simp [ole,oadd] at * <;> omega
theorem ole_min {a b c:Option Int} (h1:ole c a) (h2:ole c b):ole c (omin a b):=by
 cases a <;> cases b <;> cases c <;> simp [ole,omin] at * <;> (try split) <;> omega
theorem omin_l (a b:Option Int):ole (omin a b) a:=by
 cases a <;> cases b <;> simp [ole,omin] <;> (try split) <;> omega
theorem omin_r (a b:Option Int):ole (omin a b) b:=by
 cases a <;> cases b <;> simp [ole,omin] <;> (try split) <;> omega
theorem omin_or (a b:Option Int):omin a b = a∨omin a b = b:=by
 cases a <;> cases b <;> simp [omin] <;> omega
theorem Z4P (a b:Option Int):omin a b = if olt a b = true then a else b:=by
 cases a <;> cases b <;> simp [omin,olt]
 split <;> rfl
theorem omin_self {a b:Option Int} (h:ole a b):omin a b = a:=by
 cases a <;> cases b <;> simp [omin,ole] at * <;> omega
theorem oadd_zero (a:Option Int):oadd a (some 0) = a:=by cases a <;> simp [oadd]
theorem Z5Y (a:Option Int):oadd (some 0) a = a:=by cases a <;> simp [oadd]
theorem Z2p (a b c:Option Int):oadd (oadd a b) c = oadd a (oadd b c):=by
 cases a <;> cases b <;> cases c <;> simp [oadd,Int.add_assoc]
theorem inB_add {B:Int} {a b:Option Int} (h1:inB B a) (h2:inB B b):inB (2 * B) (oadd a b):=by
 cases a <;> cases b <;> simp [inB,oadd] at * <;> omega
theorem Z3I {B C:Int} {a:Option Int} (h:inB B a) (hc:B≤C):inB C a:=by
 cases a <;> simp [inB] at * <;> omega
theorem inB_min {B:Int} {a b:Option Int} (h1:inB B a) (h2:inB B b):inB B (omin a b):=by
 rcases omin_or a b with h | h <;> rw [h] <;> assumption
theorem less_bd (a b:Option Int):Z0I (bd a) (bd b) = olt a b:=by
 cases a with
 | none => cases b <;> simp [bd,olt,Z0I,ZZ]
 | some x =>
  cases b with
  | none => simp [bd,olt,Z0I,ZZ]
  | some y => rfl
theorem sum_bd {a b:Option Int} {B:Int} (hB:B≤2305843009213693952) (h1:inB B a) (h2:inB B b):Zj (bd a) (bd b) = (bd (oadd a b),0):=by
 cases a with
 | none => cases b <;> simp [bd,oadd,Zj,ZZ]
 | some x =>
  cases b with
  | none => simp [bd,oadd,Zj,ZZ]
  | some y =>
   simp only [inB] at h1 h2;have e:Z0e x y = (x + y,0):=by
    rw [safe_Add_eq (by unfold In64;omega) (by unfold In64;omega),fitS_of (by unfold In64;omega)]
   simp [bd,oadd,Zj,ZZ,e]
theorem less_zero (a:Option Int):Z0I (bd a) (Bound.mk 0 0) = olt a (some 0):=less_bd a (some 0)
theorem may_bd {a:Option Int} (h:inB 1125899906842624 a):Z01 (bd a) = true:=by
 cases a with
 | none => rfl
 | some x =>
  simp only [inB] at h;unfold Z01 bd;simp only [];rw [Zn (p:=x ≥ _) (by omega),Zn (p:=x≤_) (by omega)]
  rfl
theorem subF {a b:Int} (ha:In64 a) (hb:In64 b):Z0u a b = fitS (a - b):=by
 unfold In64 at ha hb
 unfold Z0u fitS w64
 rw [wrap_i64]
 cases h:((decide ((a - b + 9223372036854775808) % 18446744073709551616 - 9223372036854775808 < a) != decide (b > 0)) && b != 0)
 ·rw [cond_false];simp only [Y0G,bne_eq_false_iff_eq,decide_eq_decide] at h
  split <;> simp only [Y2,and_true] <;> omega
 ·rw [cond_true];simp only [Y7,bne_iff_ne,ne_eq,decide_eq_decide] at h
  split <;> simp only [Y2] <;> omega
def rowM (n:Nat) (M:Nat→Nat→Option Int) (i:Nat):List Bound:=(List.range n).map fun j => bd (M i j)
def Mat (n:Nat) (M:Nat→Nat→Option Int):List (List Bound):=(List.range n).map fun i => rowM n M i
def updM (M:Nat→Nat→Option Int) (i j:Nat) (v:Option Int):Nat→Nat→Option Int:=fun a b => if a = i∧b = j then v else M a b
section
variable {n:Nat} {M A:Nat→Nat→Option Int}
theorem Zu:(Mat n M).length = n:=by simp [Mat]
theorem Z12 {i:Nat}:(rowM n M i).length = n:=by simp [rowM]
theorem Z15 {i:Nat} (h:i < n):at? (Mat n M) (i:Int) = some (rowM n M i):=by
 rw [at?_nat (by rw [Zu];exact h)];simp [Mat]
theorem Z0v {i j:Nat} (h:j < n):at? (rowM n M i) (j:Int) = some (bd (M i j)):=by
 rw [at?_nat (by rw [Z12];exact h)];simp [rowM]
theorem Z1x (h:∀ i j,i < n→j < n→M i j = A i j):Mat n M = Mat n A:=by
 unfold Mat rowM
 apply List.map_congr_left
 intro i hi
 apply List.map_congr_left
 intro j hj
 rw [h i j (by simpa using hi) (by simpa using hj)]
theorem Mat_set {i j:Nat} (v:Option Int):(Mat n M).set i ((rowM n M i).set j (bd v)) = Mat n (updM M i j v):=by
 apply List.ext_getElem
 ·simp [Mat]
 ·intro a h1 h2;have ha:a < n:=by simpa [Mat] using h2
  rw [List.getElem_set]
  by_cases hai:i = a
  ·subst hai;rw [if_pos rfl];apply List.ext_getElem
   ·simp [Mat,rowM]
   ·intro b g1 g2;rw [List.getElem_set]
    by_cases hbj:j = b
    ·subst hbj;simp [Mat,rowM,updM]
    ·rw [if_neg hbj];simp [Mat,rowM,updM,Ne.symm hbj]
  ·rw [if_neg hai];simp [Mat,rowM,updM,Ne.symm hai]
theorem Mat_set' {i j:Nat} (v:Option Int):(Mat n M).set ((i:Int)).toNat ((rowM n M i).set ((j:Int)).toNat (bd v)) = Mat n (updM M i j v):=Mat_set v
end
theorem repeat_eq {n:Nat} (h1:1≤n) (h2:n≤24) (a:Bound):ZD [a] (n:Int) = some (List.replicate n a):=by
 have hmul:ZJ (IntKind.u64.wrap (([a] : List Bound).length:Int)) (IntKind.u64.wrap (n:Int)) = (0,(n:Int)):=by
  have e1:IntKind.u64.wrap (([a] : List Bound).length:Int) = 1:=by rw [Z5A];rfl
  have e2:IntKind.u64.wrap (n:Int) = n:=by rw [Z5A];omega
  rw [e1,e2];unfold ZJ;rw [mul64_eq (by unfold InU64;omega) (by unfold InU64;omega)]
  simp only [Y2];omega
 unfold ZD
 rw [Zr (by omega),cond_false,hmul]
 simp only []
 rw [Zr (by omega),Zr (by omega),Bool.or_self,cond_false,ZY (by omega)]
 have hnew:new? 16 (n:Int) (Bound.mk 0 0) = some (List.replicate n ⟨0,0⟩):=by
  unfold new?;rw [if_pos ⟨by omega,by rw [Z3i];omega⟩,YK]
 rw [hnew,Y0]
 have hcp:cpy (List.replicate n (⟨0,0⟩ : Bound)) [a] = a :: List.replicate (n - 1) ⟨0,0⟩:=by
  unfold cpy;rw [Y06,List.length_singleton,Y0f h1,List.drop_replicate]
  rfl
 have hmin:(min ([a] : List Bound).length (List.replicate n (⟨0,0⟩ : Bound)).length:Nat) = 1:=by
  rw [Y06,List.length_singleton,Y0f h1]
 rw [hcp,hmin]
 have key:=Z0Q (step:=ZD.s0 [a] (n:Int)) (I:=fun s r => r = List.replicate n a∧∃ p:Nat,s.1 = (p:Int)∧1≤p∧p≤n∧s.2.length = n∧s.2.take p = List.replicate p a) (fun s => n - s.1.toNat) ?_ (s:=(((1:Nat):Int),a :: List.replicate (n - 1) ⟨0,0⟩)) (r:=List.replicate n a) ⟨rfl,1,rfl,Y9 _,h1,by simp;omega,rfl⟩
 ·rw [key];rfl
 ·rintro ⟨s1,xs⟩ r ⟨rfl,p,hp,hp1,hpn,hlen,htake⟩;simp only at hp hlen htake;subst hp;unfold ZD.s0;rw [hmul];simp only [hlen]
  by_cases hlt:p < n
  ·rw [Zn (by omega),cond_true,ZY (x:=(n:Int)) (by omega),YK,YK]
   have w1:winA (p:Int) n = some ():=if_pos ⟨by omega,by omega⟩
   have w2:winB (p:Int) n = some ():=if_pos ⟨by omega,by omega⟩
   rw [w1,w2,Y0,Y0];refine .inl ⟨_,rfl,⟨trivial,p + min p (n - p),?_,by omega,by omega,?_,?_⟩,?_⟩
   ·rw [ZY (by omega)];push_cast;rfl
   ·simp only [dbl,YM,YO,Yp,hlen];omega
   ·have hd:dbl xs p = List.replicate p a ++ List.replicate (min p (n - p)) a ++ xs.drop (p + min p (n - p)):=by
     unfold dbl;rw [htake,hlen,List.take_replicate,Nat.min_comm (n - p) p]
    simp only [hd];rw [List.replicate_append_replicate,Y08 (by simp),Yw (by simp)]
   ·simp only [YK];rw [ZY (by omega)]
    omega
  ·have hpe:p = n:=by omega
   subst hpe;rw [Zr (by omega),cond_false]
   refine .inr ?_;rw [Yw (by omega)] at htake
   rw [htake]
end Go.Dn

namespace Go.Dn
open Go
def newM:Nat→Nat→Option Int:=fun a b => if a = b then some 0 else none
def BdM (n:Nat) (M:Nat→Nat→Option Int) (B:Int):Prop:=∀ i j,i < n→j < n→inB B (M i j)
theorem stp_New_eq {n:Nat} (h1:1≤n) (h2:n≤24):Z0B (n:Int) = some (Mat n newM,0):=by
 unfold Z0B
 rw [Zr (by omega),Zr (by omega),Bool.or_self,cond_false]
 have hnew:new? 24 (n:Int) ([] : List Bound) = some (List.replicate n []):=by
  unfold new?;rw [if_pos ⟨by omega,by rw [Z3i];omega⟩,YK]
 rw [hnew,Y0]
 have key:=Z0Q (step:=Z0B.s0 (n:Int)) (I:=fun s r => r = Mat n newM∧∃ p:Nat,s.1 = (p:Int)∧p≤n∧s.2.length = n∧∀ a,a < p→s.2[a]? = some (rowM n newM a)) (fun s => n - s.1.toNat) ?_ (s:=(0,List.replicate n [])) (r:=Mat n newM) ⟨rfl,0,rfl,Ya _,by simp,fun a ha => absurd ha (Y0J _)⟩
 ·rw [key];rfl
 ·rintro ⟨s1,L⟩ r ⟨rfl,p,hp,hpn,hlen,hL⟩;simp only at hp hlen hL;subst hp;unfold Z0B.s0;simp only []
  by_cases hlt:p < n
  ·rw [Zn (by omega),cond_true,repeat_eq h1 h2,Y0,at?_nat (by omega),Y0,YK,at?_nat (by rw [Yf];omega),Y0,List.getElem_set_self]
   rw [at?_nat (by simpa using hlt),Y0]
   refine .inl ⟨_,rfl,⟨trivial,p + 1,?_,by omega,?_,?_⟩,?_⟩
   ·simp only [];rw [ZY (by omega)];push_cast;rfl
   ·simp [hlen]
   ·intro a ha;simp only [Y0K]
    by_cases hap:p = a
    ·subst hap;rw [if_pos rfl,if_pos (by simp;omega)]
     congr 1
     apply List.ext_getElem
     ·simp [rowM]
     ·intro b g1 g2;rw [List.getElem_set]
      by_cases hb:p = b
      ·subst hb;simp [rowM,newM,bd]
      ·rw [if_neg hb];simp [rowM,newM,bd,hb]
    ·rw [if_neg hap,if_neg hap];exact hL a (by omega)
   ·simp only [];rw [ZY (by omega)];omega
  ·have hpe:p = n:=by omega
   subst hpe;rw [Zr (by omega),cond_false]
   refine .inr ?_;have e:L = Mat p newM:=by
    apply Y09;intro a
    by_cases ha:a < p
    ·rw [hL a ha];simp [Mat,ha]
    ·rw [YS (by omega),YS (by rw [Zu];omega)]
   rw [e]
theorem Z6k {s:List Bound} {f:Bound→Option Bool} (hs:(s.length:Int) < 4611686018427387904) (h:∀ x ∈ s,f x = some false):ZF s f = some false:=by
 unfold ZF Z5
 have key:=Z0Q (step:=Z5.s0 s f) (I:=fun (i:Int) r => r = .go ()∧∃ k:Nat,i = k∧k≤s.length) (fun i => s.length - i.toNat) ?_ (s:=0) (r:=.go ()) ⟨rfl,0,rfl,Ya _⟩
 ·rw [key];rfl
 ·rintro i r ⟨rfl,k,rfl,hk⟩;unfold Z5.s0
  by_cases hlt:k < s.length
  ·rw [Zn (by omega),cond_true,at?_nat hlt,Y0,h _ (Yj hlt)]
   refine .inl ⟨_,rfl,⟨rfl,k + 1,by rw [ZY (by omega)];push_cast;rfl,hlt⟩,by rw [ZY (by omega)];omega⟩
  ·rw [Zr (by omega),cond_false];exact .inr rfl
theorem Z6m {s:List (List Bound)} {f:List Bound→Option Bool} (hs:(s.length:Int) < 4611686018427387904) (h:∀ x ∈ s,f x = some false):ZA s f = some false:=by
 unfold ZA Z3
 have key:=Z0Q (step:=Z3.s0 s f) (I:=fun (i:Int) r => r = .go ()∧∃ k:Nat,i = k∧k≤s.length) (fun i => s.length - i.toNat) ?_ (s:=0) (r:=.go ()) ⟨rfl,0,rfl,Ya _⟩
 ·rw [key];rfl
 ·rintro i r ⟨rfl,k,rfl,hk⟩;unfold Z3.s0
  by_cases hlt:k < s.length
  ·rw [Zn (by omega),cond_true,at?_nat hlt,Y0,h _ (Yj hlt)]
   refine .inl ⟨_,rfl,⟨rfl,k + 1,by rw [ZY (by omega)];push_cast;rfl,hlt⟩,by rw [ZY (by omega)];omega⟩
  ·rw [Zr (by omega),cond_false];exact .inr rfl
theorem Z36 {n:Nat} {M:Nat→Nat→Option Int} (h2:n≤24) (hB:BdM n M 1125899906842624):Z0K (Mat n M) = some true:=by
 unfold Z0K
 rw [Zu,Zn (by omega),cond_true,Z6m (by rw [Zu];omega)]
 ·rfl
 ·intro row hrow;simp only [Mat,Y0c,Y0F] at hrow;obtain ⟨i,hi,rfl⟩:=hrow
  unfold Z0i;rw [Z12,Z4X rfl,cond_false,Z6k (by rw [Z12];omega)]
  ·rfl
  ·intro b hb;simp only [rowM,Y0c,Y0F] at hb;obtain ⟨j,hj,rfl⟩:=hb
   unfold Z0z;rw [may_bd (hB i j hi hj)];rfl
theorem Z69 {n:Nat} {M:Nat→Nat→Option Int} (h1:1≤n) (h2:n≤24):Z2Z (Mat n M) = some (Mat n M):=by
 unfold Z2Z
 have ne:∀ {α:Type} {l:List α},l.length = n→l.isEmpty = false:=by
  intro α l hl;cases l with
  | nil => simp at hl;omega
  | cons a b => rfl
 have hr:=Z3i
 rw [ne Zu,Zu,Zn (by omega)]
 have:((Mat n M).all fun q => !q.isEmpty && decide (q.length * 16≤room)) = true:=by
  rw [YC];intro q hq;simp only [Mat,Y0c,Y0F] at hq;obtain ⟨i,hi,rfl⟩:=hq
  rw [ne Z12,Z12,Zn (by omega)];rfl
 rw [this];rfl
def setM (M:Nat→Nat→Option Int) (i j:Nat) (v:Option Int):Nat→Nat→Option Int:=updM M i j (omin v (M i j))
theorem stp_Set_mat {n i j:Nat} {M:Nat→Nat→Option Int} {v:Option Int} (h2:n≤24) (hB:BdM n M 1125899906842624) (hi:i < n) (hj:j < n) (hv:inB 1125899906842624 v):Z1u (Mat n M) (i:Int) (j:Int) (bd v) = some (Mat n (setM M i j v),0):=by
 unfold Z1u
 rw [Z36 h2 hB,Y0,Zu,may_bd hv,Zr (p:=(i:Int) < 0) (by omega),Zr (p:=(j:Int) < 0) (by omega),Zr (p:=(i:Int) ≥ _) (by omega),Zr (p:=(j:Int) ≥ _) (by omega)]
 simp only [Y0L,Bool.or_false,cond_false]
 rw [Z69 (by omega) h2,Y0,Z15 hi,Y0,Z0v hj,Y0,less_bd]
 unfold setM
 rw [Z4P]
 cases h:olt v (M i j) with
 | true =>
  simp only [cond_true,Y0,Z0v hj,if_true];rw [Mat_set']
 | false =>
  simp only [cond_false,Y0];have:(if false = true then v else M i j) = M i j:=by simp
  rw [this]
  congr 2
  refine Z1x fun a b _ _ => ?_
  unfold updM
  split
  ·rename_i hh;rw [hh.1,hh.2]
  ·rfl
def goodSet (n:Nat) (x:epactlaw24_Set):Prop:=∃ (i j:Nat) (v:Option Int),i < n∧j < n∧inB 1000 v∧x = ⟨i,j,bd v⟩
theorem newM_bd (n:Nat):BdM n newM 1000:=by
 intro i j _ _
 unfold newM
 split
 ·exact ⟨by omega,by omega⟩
 ·trivial
end Go.Dn

namespace Go.Dn
open Go
abbrev MF:=Nat→Nat→Option Int
def leM (n:Nat) (A M:MF):Prop:=∀ i j,i < n→j < n→ole (A i j) (M i j)
def TriM (n k:Nat) (A:MF):Prop:=∀ m,m < k→∀ i j,i < n→j < n→ole (A i j) (oadd (A i m) (A m j))
def DiagM (n:Nat) (A:MF):Prop:=∀ i,i < n→A i i = some 0
def fw (M:MF) (k:Nat):MF:=fun i j => omin (oadd (M i k) (M k j)) (M i j)
theorem fw_row {M:MF} {k j:Nat} (h:M k k = some 0):fw M k k j = M k j:=by
 unfold fw;rw [h,Z5Y];exact omin_self (Z0U _)
theorem fw_col {M:MF} {k i:Nat} (h:M k k = some 0):fw M k i k = M i k:=by
 unfold fw;rw [h,oadd_zero];exact omin_self (Z0U _)
theorem fw_le (M:MF) (k i j:Nat):ole (fw M k i j) (M i j):=omin_r _ _
theorem fw_tri {n k:Nat} {M:MF} (hk:k < n) (hd:M k k = some 0) (ht:TriM n k M):TriM n (k + 1) (fw M k):=by
 intro m hm i j hi hj
 by_cases hmk:m = k
 ·subst hmk;rw [fw_row hd,fw_col hd];exact omin_l _ _
 ·have hm':m < k:=by omega
  have T:=ht m hm'
  have t1:fw M k i m = oadd (M i k) (M k m)∨fw M k i m = M i m:=omin_or _ _
  have t2:fw M k m j = oadd (M m k) (M k j)∨fw M k m j = M m j:=omin_or _ _
  have hz:ole (some 0) (oadd (M k m) (M m k)):=by have:=T k k hk hk;rwa [hd] at this
  rcases t1 with e1 | e1 <;> rcases t2 with e2 | e2 <;> rw [e1,e2]
  ·refine Z0G (omin_l _ _) ?_;rw [Z2p,← Z2p (M k m)];refine Z2U (Z0U _) ?_;have:=Z2U hz (Z0U (M k j))
   rwa [Z5Y] at this
  ·refine Z0G (omin_l _ _) ?_;rw [Z2p];exact Z2U (Z0U _) (T k j hk hj)
  ·refine Z0G (omin_l _ _) ?_;rw [← Z2p];exact Z2U (T i k hi hk) (Z0U _)
  ·exact Z0G (omin_r _ _) (T i j hi hj)
theorem fw_gr {n k:Nat} {M Y:MF} (hk:k < n) (hY:TriM n n Y) (h:leM n Y M):leM n Y (fw M k):=by
 intro i j hi hj
 exact ole_min (Z0G (hY k hk i j hi hj) (Z2U (h i k hi hk) (h k j hk hj))) (h i j hi hj)
theorem fw_bd {n k:Nat} {M:MF} {B:Int} (hk:k < n) (h0:0≤B) (h:BdM n M B):BdM n (fw M k) (2 * B):=by
 intro i j hi hj
 exact inB_min (inB_add (h i k hi hk) (h k j hk hj)) (Z3I (h i j hi hj) (by omega))
def mid (M:MF) (k i j:Nat):MF:=fun a b => if a < i∨(a = i∧b < j) then fw M k a b else M a b
theorem mid_upd {M:MF} {k i j:Nat}:∀ a b,updM (mid M k i j) i j (fw M k i j) a b = mid M k i (j + 1) a b:=by
 intro a b
 unfold updM mid
 by_cases h:a = i∧b = j
 ·rw [if_pos h,if_pos (by omega),h.1,h.2]
 ·rw [if_neg h]
  by_cases h2:a < i∨(a = i∧b < j)
  ·rw [if_pos h2,if_pos (by omega)]
  ·rw [if_neg h2,if_neg (by omega)]
variable {n:Nat} {d:List (List Bound)}
theorem close_s3 {M:MF} {k i:Nat} {B:Int} {s2 s3:Int × List (List Bound)} (hn:n≤24) (hdl:d.length = n) (h2:s2.1 = (k:Int)) (h3:s3.1 = (i:Int)) (hk:k < n) (hi:i < n) (hd:M k k = some 0) (hB:BdM n M B) (hB1:B≤2305843009213693952) :
  loopO (Z9.s3 d s2 s3) (0,Mat n (mid M k i 0)) = some (Mat n (mid M k (i + 1) 0)):=by
 refine Z0Q (I:=fun s r => r = Mat n (mid M k (i + 1) 0)∧∃ j:Nat,s = ((j:Int),Mat n (mid M k i j))∧j≤n) (fun s => n - s.1.toNat) ?_ ⟨rfl,0,rfl,Ya _⟩
 rintro _ r ⟨rfl,j,rfl,hj⟩
 unfold Z9.s3
 simp only [h2,h3,hdl]
 by_cases hlt:j < n
 ·have e1:mid M k i j i k = M i k:=by
   unfold mid;split
   ·exact fw_col hd
   ·rfl
  have e2:mid M k i j k j = M k j:=by
   unfold mid;split
   ·exact fw_row hd
   ·rfl
  have e3:mid M k i j i j = M i j:=by unfold mid;rw [if_neg (by omega)]
  have hw:w64 ((j:Int) + 1) = ((j + 1:Nat):Int):=by rw [ZY (by omega)];push_cast;rfl
  rw [Zn (by omega),cond_true,Z15 hi,Y0,Z0v hk,Y0,Z15 hk,Y0,Z0v hlt,Y0,e1,e2,sum_bd hB1 (hB i k hi hk) (hB k j hk hlt)]
  simp only [Z3l,cond_true,Y0,Z15 hi,Z0v hlt,less_bd,e3,hw];refine .inl ?_;have hstep:∀ X,X = Mat n (mid M k i (j + 1))→(∃ s',some (Sum.inl (((j + 1:Nat):Int),X)) = some (Sum.inl s':(Int × List (List Bound)) ⊕ List (List Bound))∧(True∧∃ j:Nat,s' = ((j:Int),Mat n (mid M k i j))∧j≤n)∧n - s'.1.toNat < n - ((j:Int)).toNat):=by
   rintro X rfl;exact ⟨_,rfl,⟨trivial,j + 1,rfl,hlt⟩,by simp only [YK];omega⟩
  cases h:olt (oadd (M i k) (M k j)) (M i j) with
  | true =>
   simp only [cond_true,Y0];refine hstep _ ?_;rw [Mat_set'];refine Z1x fun a b _ _ => ?_
   rw [← mid_upd];have:oadd (M i k) (M k j) = fw M k i j:=by unfold fw;rw [Z4P,if_pos h]
   rw [this]
  | false =>
   simp only [cond_false,Y0];refine hstep _ ?_;refine Z1x fun a b _ _ => ?_
   rw [← mid_upd];unfold updM
   split
   ·rename_i hh;rw [hh.1,hh.2,e3];unfold fw;rw [Z4P,h];rfl
   ·rfl
 ·have:j = n:=by omega
  subst this;rw [Zr (by omega),cond_false]
  refine .inr ?_
  congr 2
  refine Z1x fun a b ha hb => ?_
  unfold mid
  by_cases h:a < i + 1
  ·rw [if_pos (by omega),if_pos (by omega)]
  ·rw [if_neg (by omega),if_neg (by omega)]
theorem close_s2 {M:MF} {k:Nat} {B:Int} {s2:Int × List (List Bound)} (hn:n≤24) (hdl:d.length = n) (h2:s2.1 = (k:Int)) (hk:k < n) (hd:M k k = some 0) (hB:BdM n M B) (hB1:B≤2305843009213693952) :
  loopO (Z9.s2 d s2) (0,Mat n M) = some (Mat n (fw M k)):=by
 have e0:Mat n M = Mat n (mid M k 0 0):=Z1x fun a b _ _ => by unfold mid;rw [if_neg (by omega)]
 have e1:Mat n (fw M k) = Mat n (mid M k n 0):=Z1x fun a b ha _ => by unfold mid;rw [if_pos (by omega)]
 rw [e0,e1]
 refine Z0Q (I:=fun s r => r = Mat n (mid M k n 0)∧∃ i:Nat,s = ((i:Int),Mat n (mid M k i 0))∧i≤n) (fun s => n - s.1.toNat) ?_ ⟨rfl,0,rfl,Ya _⟩
 rintro _ r ⟨rfl,i,rfl,hi⟩
 unfold Z9.s2
 simp only [hdl]
 by_cases hlt:i < n
 ·rw [Zn (by omega),cond_true,close_s3 hn hdl h2 rfl hk hlt hd hB hB1,Y0]
  have hw:w64 ((i:Int) + 1) = ((i + 1:Nat):Int):=by rw [ZY (by omega)];push_cast;rfl
  rw [hw];exact .inl ⟨_,rfl,⟨trivial,i + 1,rfl,hlt⟩,by simp only [YK];omega⟩
 ·have:i = n:=by omega
  subst this;rw [Zr (by omega),cond_false]
  exact .inr rfl
theorem close_s4 {M:MF} (hn:n≤24) (hdl:d.length = n) :
  (loopO (Z9.s4 d (Mat n M)) 0 = some (.go ())∧∀ i,i < n→olt (M i i) (some 0) = false)∨(loopO (Z9.s4 d (Mat n M)) 0 = some (.ret ())∧∃ i,i < n∧olt (M i i) (some 0) = true):=by
 have key:=Z2K (l:=List.range n) (step:=Z9.s4 d (Mat n M)) (good:=fun k x => olt (M x x) (some 0) = false) (yes:=.go ()) (no:=.ret ()) ?_ ?_
 ·rcases key with ⟨h1,h2⟩ | ⟨h1,h2⟩
  ·exact .inl ⟨h1,fun i hi => h2 i i (by simp [hi])⟩
  ·refine .inr ⟨h1,?_⟩;refine Classical.byContradiction fun hc => h2 fun k x hx => ?_
   have hx':x < n:=by have:=YB hx;simpa using this
   cases h:olt (M x x) (some 0) with
   | false => rfl
   | true => exact absurd ⟨x,hx',h⟩ hc
 ·intro k x hx _;obtain ⟨hk,rfl⟩ : k < n∧x = k:=by
   rw [Y0e] at hx;obtain ⟨h,e⟩:=hx
   simp at h e;exact ⟨h,e.symm⟩
  unfold Z9.s4;rw [hdl,Zn (by omega),cond_true,Z15 hk,Y0,Z0v hk,Y0,less_zero]
  cases h:olt (M x x) (some 0) with
  | true => exact .inr ⟨rfl,by simp⟩
  | false =>
   rw [cond_false,ZY (by omega)]
   exact .inl ⟨rfl,rfl⟩
 ·unfold Z9.s4;rw [hdl,Yt,Zr (by omega),cond_false]
theorem lt_neg {a:Option Int} (h:olt a (some 0) = true):¬ ole (some 0) a:=by
 cases a <;> simp [olt,ole] at * <;> omega
theorem lt_not {a:Option Int} (h:olt a (some 0) = false) (h2:ole a (some 0)):a = some 0:=by
 cases a <;> simp [olt,ole] at * <;> omega
structure InvC (n:Nat) (B:Int) (M:MF) (k:Nat) (C:MF):Prop where
 diag:DiagM n C
 tri:TriM n k C
 le:leM n C M
 gr:∀ Y,TriM n n Y→DiagM n Y→leM n Y M→leM n Y C
 bd:BdM n C (B * 2 ^ k)
def NoSol (n:Nat) (M:MF):Prop:=∀ Y,TriM n n Y→DiagM n Y→¬ leM n Y M
theorem pow_le24 {k:Nat} (h:k≤24):(2:Int) ^ k≤16777216∧1≤(2:Int) ^ k:=by
 have h1:(2:Nat) ^ k≤2 ^ 24:=Nat.pow_le_pow_right (by omega) h
 have h2:1≤(2:Nat) ^ k:=Nat.one_le_two_pow
 have h3:((2 ^ k:Nat):Int) = (2:Int) ^ k:=by push_cast;rfl
 omega
theorem close_s0 {M:MF} {B:Int} (hB0:0≤B) (hn:n≤24) (hdl:d.length = n) (hB:BdM n M B) :
  (∃ C,loopO (Z9.s0 d) (0,Mat n M) = some (.go (Mat n C))∧InvC n B M 0 C)∨(loopO (Z9.s0 d) (0,Mat n M) = some (.ret ([],false,0))∧NoSol n M):=by
 have key:=Z1y (step:=Z9.s0 d) (I:=fun s => ∃ (i:Nat) (C:MF),s = ((i:Int),Mat n C)∧i≤n∧(∀ a,a < i→C a a = some 0)∧leM n C M∧(∀ Y,DiagM n Y→leM n Y M→leM n Y C)∧BdM n C B∧∀ a,i≤a→C a a = M a a) (fun s => n - s.1.toNat)
  (fun r => (∃ C,r = .go (Mat n C)∧InvC n B M 0 C)∨(r = .ret ([],false,0)∧NoSol n M)) ?_ (0,Mat n M) ⟨0,M,rfl,Ya _,fun a ha => absurd ha (Y0J _),fun i j _ _ => Z0U _,fun Y _ h => h,hB,fun _ _ => rfl⟩
 ·obtain ⟨r,e,⟨C,rfl,h⟩ | ⟨rfl,h⟩⟩:=key
  ·exact .inl ⟨C,e,h⟩
  ·exact .inr ⟨e,h⟩
 ·rintro _ ⟨i,C,rfl,hi,hdg,hle,hgr,hbd,hrest⟩;unfold Z9.s0;simp only [hdl]
  by_cases hlt:i < n
  ·rw [Zn (by omega),cond_true]
   simp only [Z15 hlt,Z0v hlt,Y0,less_zero];cases h:olt (C i i) (some 0) with
   | true =>
    rw [cond_true];refine .inr ⟨_,rfl,.inr ⟨rfl,fun Y hY hD hYM => lt_neg h ?_⟩⟩
    have:=hgr Y hD hYM i i hlt hlt
    rwa [hD i hlt] at this
   | false =>
    rw [cond_false];refine .inl ⟨_,rfl,⟨i + 1,updM C i i (some 0),?_,hlt,?_,?_,?_,?_,?_⟩,?_⟩
    ·rw [ZY (by omega)]
     congr 1
     exact Mat_set' (some 0)
    ·intro a ha;unfold updM
     split
     ·rfl
     ·exact hdg a (by omega)
    ·intro a b ha hb;unfold updM
     split
     ·rename_i hh;rw [hh.1,hh.2,← hrest i (Y9 _)];cases hc:C i i with
      | none => trivial
      | some v => rw [hc] at h;simp [olt] at h;simpa [ole] using h
     ·exact hle a b ha hb
    ·intro Y hD hYM a b ha hb;unfold updM
     split
     ·rename_i hh;rw [hh.1,hh.2,hD i hlt];exact Z0U _
     ·exact hgr Y hD hYM a b ha hb
    ·intro a b ha hb;unfold updM
     split
     ·exact ⟨by omega,by omega⟩
     ·exact hbd a b ha hb
    ·intro a ha;unfold updM;rw [if_neg (by omega)]
     exact hrest a (by omega)
    ·simp only [];rw [ZY (by omega)];omega
  ·have:i = n:=by omega
   subst this;rw [Zr (by omega),cond_false]
   exact .inr ⟨_,rfl,.inl ⟨C,rfl,hdg,fun m hm => absurd hm (Y0J _),hle,fun Y _ hD => hgr Y hD,by simpa using hbd⟩⟩
theorem close_s1 {M C0:MF} {B:Int} (hB0:0≤B) (hB1:∀ k,k < n→B * 2 ^ k≤2305843009213693952) (hn:n≤24) (hdl:d.length = n) (h0:InvC n B M 0 C0) :
  (∃ C,loopO (Z9.s1 d) (0,Mat n C0) = some (.go (Mat n C))∧InvC n B M n C)∨(loopO (Z9.s1 d) (0,Mat n C0) = some (.ret ([],false,0))∧NoSol n M):=by
 have key:=Z1y (step:=Z9.s1 d) (I:=fun s => ∃ (k:Nat) (C:MF),s = ((k:Int),Mat n C)∧k≤n∧InvC n B M k C) (fun s => n - s.1.toNat)
  (fun r => (∃ C,r = .go (Mat n C)∧InvC n B M n C)∨(r = .ret ([],false,0)∧NoSol n M)) ?_ (0,Mat n C0) ⟨0,C0,rfl,Ya _,h0⟩
 ·obtain ⟨r,e,⟨C,rfl,h⟩ | ⟨rfl,h⟩⟩:=key
  ·exact .inl ⟨C,e,h⟩
  ·exact .inr ⟨e,h⟩
 ·rintro _ ⟨k,C,rfl,hk,hI⟩;unfold Z9.s1;simp only [hdl]
  by_cases hlt:k < n
  ·have hp:=pow_le24 (k:=k) (by omega)
   have hpB:0≤B * 2 ^ k∧B * 2 ^ k≤2305843009213693952:=⟨Int.mul_nonneg hB0 (by omega),hB1 k hlt⟩
   rw [Zn (by omega),cond_true,close_s2 hn hdl rfl hlt (hI.diag k hlt) hI.bd hpB.2,Y0]
   have hbd':BdM n (fw C k) (B * 2 ^ (k + 1)):=by
    have:=fw_bd hlt hpB.1 hI.bd
    have e:B * 2 ^ (k + 1) = 2 * (B * 2 ^ k):=by rw [Int.pow_succ,← Y0T,Int.mul_comm]
    rw [e];exact this
   have hgr':∀ Y,TriM n n Y→DiagM n Y→leM n Y M→leM n Y (fw C k):=fun Y hT hD hM => fw_gr hlt hT (hI.gr Y hT hD hM)
   rcases close_s4 (d:=d) (M:=fw C k) hn hdl with ⟨e4,h4⟩ | ⟨e4,i,hi,h4⟩
   ·rw [e4];refine .inl ⟨_,rfl,⟨k + 1,fw C k,?_,hlt,?_,fw_tri hlt (hI.diag k hlt) hI.tri,?_,hgr',hbd'⟩,?_⟩
    ·rw [ZY (by omega)];push_cast;rfl
    ·intro i hi;refine lt_not (h4 i hi) ?_;have:=fw_le C k i i
     rwa [hI.diag i hi] at this
    ·exact fun a b ha hb => Z0G (fw_le C k a b) (hI.le a b ha hb)
    ·simp only [];rw [ZY (by omega)];omega
   ·rw [e4];refine .inr ⟨_,rfl,.inr ⟨rfl,fun Y hT hD hM => lt_neg h4 ?_⟩⟩
    have:=hgr' Y hT hD hM i i hi hi
    rwa [hD i hi] at this
  ·have:k = n:=by omega
   subst this;rw [Zr (by omega),cond_false]
   exact .inr ⟨_,rfl,.inl ⟨C,rfl,hI⟩⟩
theorem close_eq2 {M:MF} {B:Int} (hB0:0≤B) (hB2:B≤1125899906842624) (hB1:∀ k,k < n→B * 2 ^ k≤2305843009213693952) (h1:1≤n) (hn:n≤24) (hB:BdM n M B) :
  (∃ C,Z9 (Mat n M) = some (Mat n C,true,0)∧InvC n B M n C)∨(Z9 (Mat n M) = some ([],false,0)∧NoSol n M):=by
 unfold Z9
 rw [Z36 hn (fun a b ha hb => Z3I (hB a b ha hb) hB2),Y0,Y0L,cond_false,Z69 h1 hn,Y0]
 rcases close_s0 (d:=Mat n M) hB0 hn Zu hB with ⟨C,e,h⟩ | ⟨e,h⟩
 ·rw [e];simp only [Y0,Jx.elim]
  rcases close_s1 (d:=Mat n M) hB0 hB1 hn Zu h with ⟨C',e',h'⟩ | ⟨e',h'⟩
  ·rw [e'];exact .inl ⟨C',rfl,h'⟩
  ·rw [e'];exact .inr ⟨rfl,h'⟩
 ·rw [e];exact .inr ⟨rfl,h⟩
end Go.Dn

namespace Go.Dn
open Go
def vec (n:Nat) (E:Nat→Int):List Int:=(List.range n).map E
def tm (E:Nat→Int):MF:=fun i j => some (E j - E i)
section
variable {n:Nat} {E:Nat→Int}
theorem vec_len:(vec n E).length = n:=by simp [vec]
theorem vec_get {i:Nat} (h:i < n):at? (vec n E) (i:Int) = some (E i):=by
 rw [at?_nat (by rw [vec_len];exact h)];simp [vec]
theorem vec_of (t:List Int):t = vec t.length (fun i => t.getD i 0):=by
 apply List.ext_getElem
 ·simp [vec]
 ·intro a h1 h2;simp [vec,h1]
end
theorem Z1g {n k x:Nat} (hx:(List.range n)[k]? = some x):k < n∧x = k:=by
 rw [Y0e] at hx
 obtain ⟨h,e⟩:=hx
 simp at h e
 exact ⟨h,e.symm⟩
variable {n:Nat}
theorem holds_s1 {C:MF} {E:Nat→Int} {i:Nat} (hn:n≤24) (hi:i < n) (hB:BdM n C 1125899906842624) (hE:∀ i,i < n→In64 (E i)) :
  (loopO (ZI.s1 (vec n E) (i:Int) (rowM n C i)) 0 = some (.go ())∧∀ j,j < n→ole (tm E i j) (C i j))∨(loopO (ZI.s1 (vec n E) (i:Int) (rowM n C i)) 0 = some (.ret false)∧¬ ∀ j,j < n→ole (tm E i j) (C i j)):=by
 have key:=Z2K (l:=List.range n) (step:=ZI.s1 (vec n E) (i:Int) (rowM n C i)) (good:=fun _ j => ole (tm E i j) (C i j)) (yes:=.go ()) (no:=.ret false) ?_ ?_
 ·rcases key with ⟨h1,h2⟩ | ⟨h1,h2⟩
  ·exact .inl ⟨h1,fun j hj => h2 j j (by simp [hj])⟩
  ·refine .inr ⟨h1,fun h => h2 fun k x hx => ?_⟩
   obtain ⟨hk,rfl⟩:=Z1g hx
   exact h x hk
 ·intro k x hx _;obtain ⟨hk,rfl⟩:=Z1g hx
  have h1:=hE x hk
  have h2:=hE i hi
  have hb:=hB i x hi hk
  unfold ZI.s1;rw [Z12,Zn (by omega),cond_true,Z0v hk,Y0,vec_get hk,Y0,vec_get hi,Y0]
  have hw:w64 ((x:Int) + 1) = (x:Int) + 1:=ZY (by omega)
  rw [subF h1 h2];cases hc:C i x with
  | none =>
   refine .inl ⟨?_,trivial⟩;simp only [bd,Z3l,cond_true,Y0,Jx.elim,hw]
  | some c =>
   rw [hc] at hb;simp only [inB] at hb;unfold In64 at h1 h2;have e0:((bd (some c)).Inf == 1) = false:=rfl
   have e1:(bd (some c)).N = c:=rfl
   rw [e0,e1,cond_false];simp only [tm,ole]
   rcases fit_or (E x - E i) with ⟨h3,h4⟩ | ⟨h3,h4⟩
   ·rw [h4];have e2:(((E x - E i,(0:Int)).2) != 0) = false:=rfl
    rw [e2,cond_false,Y0,cond_false];simp only [Z3l,Y0E]
    by_cases hlt:E x - E i > c
    ·rw [Zn hlt];exact .inr ⟨rfl,by omega⟩
    ·rw [Zr hlt];refine .inl ⟨?_,by omega⟩
     simp only [Y0,cond_false,Jx.elim,hw]
   ·rw [h4];have e2:((((0:Int),(10:Int)).2) != 0) = true:=rfl
    rw [e2,cond_true,Y0,Y0];unfold In64 at h3
    by_cases hlt:E x > E i
    ·rw [Zn hlt];exact .inr ⟨rfl,by omega⟩
    ·rw [Zr hlt];refine .inl ⟨?_,by omega⟩
     have e3:((((0:Int),(10:Int)).2) == 0) = false:=rfl
     simp only [Y0,cond_false,Jx.elim,hw,e3,Yh]
 ·unfold ZI.s1;rw [Z12,Yt,Zr (by omega),cond_false]
theorem holds_eq {C:MF} {E:Nat→Int} (hn:n≤24) (hB:BdM n C 1125899906842624) (hE:∀ i,i < n→In64 (E i)) :
  (ZI (Mat n C) (vec n E) = some true∧leM n (tm E) C)∨(ZI (Mat n C) (vec n E) = some false∧¬ leM n (tm E) C):=by
 unfold ZI
 rw [Z36 hn hB,Y0,Zu,vec_len,Z4X rfl]
 simp only [Y0L,Bool.or_false,cond_false]
 have key:=Z2K (l:=List.range n) (step:=ZI.s0 (Mat n C) (vec n E)) (good:=fun _ i => ∀ j,j < n→ole (tm E i j) (C i j)) (yes:=.go ()) (no:=.ret false) ?_ ?_
 ·rcases key with ⟨h1,h2⟩ | ⟨h1,h2⟩
  ·rw [h1];exact .inl ⟨rfl,fun i j hi hj => h2 i i (by simp [hi]) j hj⟩
  ·rw [h1];refine .inr ⟨rfl,fun h => h2 fun k x hx j hj => ?_⟩
   obtain ⟨hk,rfl⟩:=Z1g hx
   exact h x j hk hj
 ·intro k x hx _;obtain ⟨hk,rfl⟩:=Z1g hx
  unfold ZI.s0;rw [Zu,Zn (by omega),cond_true,Z15 hk,Y0]
  rcases holds_s1 (i:=x) hn hk hB hE with ⟨h1,h2⟩ | ⟨h1,h2⟩
  ·rw [h1];refine .inl ⟨?_,h2⟩;simp only [Y0,Jx.elim];rw [ZY (by omega)]
  ·rw [h1];exact .inr ⟨rfl,h2⟩
 ·unfold ZI.s0;rw [Zu,Yt,Zr (by omega),cond_false]
def Early (n:Nat) (C:MF) (E:Nat→Int) (i k:Nat):Prop:=(∀ j,j < k→ole (some (E i)) (C j i))∧(E i = 0∨∃ j,j < n∧C j i = some (E i))
noncomputable def sameTail (x1:List (List Bound)) (x2:List (List Bound) × Bool × Int) (t:List Int):Option Bool :=
 (ZI x1 t).bind fun x8 =>
 (bif ((x2.2.2 != 0) || (!x2.2.1)) then
  some ((((x2.2.2 == 0) && (!x8)) && ((x2.1.length:Int) == 0)) && ZB)
 else
  (ZI x2.1 t).bind fun x10 =>
  (bif (x10 != x8) then
   some false
  else
   (ZM x2.1 (x1.length:Int)).bind fun x11 =>
   (bif (!x11) then
    some false
   else
    (new? 8 (x1.length:Int) 0).bind fun x12 =>
    (loopO (Zf.s1 x1 x2) (0,x12)).bind fun (y2:(List Int)) =>
    (ZI x1 y2).bind fun x19 =>
    (
     (bif x19 then
      (ZI x2.1 y2).bind fun x20 =>
      some x20
     else
      some false)).bind fun (y6:Bool) =>
    some (y6 && ZB))))
theorem list_vec {t:List Int} (ht:t.length = n) (ok:∀ x ∈ t,In64 x):∃ E,t = vec n E∧∀ i,i < n→In64 (E i):=by
 refine ⟨fun i => t.getD i 0,by rw [← ht];exact vec_of t,fun i hi => ?_⟩
 have:t.getD i 0 = t[i]:=by simp [List.getD,show i < t.length by omega]
 show In64 (t.getD i 0)
 rw [this]
 exact ok _ (Yj _)
end Go.Dn

namespace Go.Dn
open Go
variable {n:Nat}
def lowered (C:MF) (i j:Nat) (w:Int):MF:=fun a b => omin (oadd (C a i) (oadd (some w) (C j b))) (C a b)
end Go.Dn

namespace Go.Dn
open Go
theorem may_eq (b:Bound):Zk b = Z01 b:=by
 unfold Zk Z01 ZZ
 by_cases h1:b.Inf = 1
 ·rw [Z3l h1,cond_true,Z4U (show b.Inf ≠ 0 by omega),Y0D,Y0S,Y0E,Zn (show b.Inf ≥ 0 by omega),Bool.and_true]
  by_cases h2:b.N = 0
  ·rw [Z3l h2,Zn (by omega),Zn (by omega)];rfl
  ·rw [Z4U h2];rfl
 ·rw [Z4U h1,cond_false,Y0D]
  by_cases h0:b.Inf = 0
  ·rw [Z3l h0,Y0S,Y0E,Y0E,Zn (show b.Inf ≥ 0 by omega),Y0E]
  ·rw [Z4U h0,Yh,Yh,Y0D]
   by_cases hm:b.Inf = -1
   ·rw [Zr (show ¬ b.Inf ≥ 0 by omega),Bool.and_false,Yh,Yh]
   ·rw [Z4U hm,Yh,Yh,Yh,Yh]
def Z3P (d:List (List Bound)):Prop:=d.length≤24∧∀ row ∈ d,row.length = d.length∧∀ b ∈ row,Z01 b = true
theorem ref24_s1 {d:List (List Bound)} {i:Nat} (hi:i < d.length) (hlen:d[i].length = d.length) (h30:d.length≤24) :
  (loopO (Z6.s1 d (i:Int)) 0 = some (.go ())∧∀ (k:Nat) (b:Bound),d[i][k]? = some b→Z01 b = true)∨(loopO (Z6.s1 d (i:Int)) 0 = some (.ret false)∧¬ ∀ (k:Nat) (b:Bound),d[i][k]? = some b→Z01 b = true):=by
 refine Z2K (l:=d[i]) (step:=Z6.s1 d (i:Int)) (good:=fun _ b => Z01 b = true) (yes:=.go ()) (no:=.ret false) (fun k b hk _ => ?_) ?_
 ·obtain ⟨hkl,rfl⟩:=List.getElem?_eq_some_iff.1 hk
  unfold Z6.s1;rw [Zn (by omega),cond_true,at?_nat hi,Y0,at?_nat hkl,Y0,may_eq,ZY (by omega)]
  cases hm:Z01 d[i][k] with
  | true => exact .inl ⟨rfl,rfl⟩
  | false => exact .inr ⟨rfl,by simp⟩
 ·unfold Z6.s1;rw [Zr (by omega),cond_false]
theorem Z0d (d:List (List Bound)):(Z6 d = some true∧Z3P d)∨(Z6 d = some false∧¬ Z3P d):=by
 unfold Z6
 by_cases h24:d.length≤24
 ·rw [Zr (by omega),cond_false]
  have key:=Z2K (l:=d) (step:=Z6.s0 d) (good:=fun _ row => row.length = d.length∧∀ b ∈ row,Z01 b = true) (yes:=.go ()) (no:=.ret false) ?_ ?_
  ·rcases key with ⟨h1,h2⟩ | ⟨h1,h2⟩
   ·rw [h1];refine .inl ⟨rfl,h24,fun row hr => ?_⟩
    obtain ⟨k,hk⟩:=Yr hr
    exact h2 k row hk
   ·rw [h1];exact .inr ⟨rfl,fun h => h2 fun k row hk => h.2 row (YB hk)⟩
  ·intro i row hi _;obtain ⟨hil,rfl⟩:=List.getElem?_eq_some_iff.1 hi
   unfold Z6.s0;rw [Zn (by omega),cond_true,at?_nat hil,Y0]
   by_cases hlen:d[i].length = d.length
   ·rw [Z4X (by omega),cond_false]
    rcases ref24_s1 hil hlen h24 with ⟨h1,h2⟩ | ⟨h1,h2⟩
    ·rw [h1];refine .inl ⟨?_,hlen,fun b hb => ?_⟩
     ·simp only [Y0,Jx.elim];rw [ZY (by omega)]
     ·obtain ⟨k,hk⟩:=Yr hb
      exact h2 k b hk
    ·rw [h1];exact .inr ⟨rfl,fun h => h2 fun k b hk => h.2 b (YB hk)⟩
   ·rw [bne_t (by omega),cond_true]
    exact .inr ⟨rfl,fun h => hlen h.1⟩
  ·unfold Z6.s0;rw [Zr (by omega),cond_false]
 ·rw [Zn (by omega),cond_true]
  exact .inr ⟨rfl,fun h => h24 h.1⟩
end Go.Dn

namespace Go.Dn
open Go
theorem containsB {s:List Bound} {f:Bound→Option Bool} {g:Bound→Bool} (hs:(s.length:Int) < 4611686018427387904) (h:∀ x ∈ s,f x = some (g x)) :
  (ZF s f = some true∧∃ x ∈ s,g x = true)∨(ZF s f = some false∧∀ x ∈ s,g x = false):=by
 by_cases hall:∀ x ∈ s,g x = false
 ·exact .inr ⟨Z6k hs fun x hx => by rw [h x hx,hall x hx],hall⟩
 ·refine .inl ⟨?_,Classical.byContradiction fun hn => hall fun x hx => by cases hg:g x with | false => rfl | true => exact absurd ⟨x,hx,hg⟩ hn⟩
  unfold ZF Z5;have key:=Z1y (step:=Z5.s0 s f) (I:=fun i => ∃ k:Nat,i = (k:Int)∧k≤s.length∧∀ x ∈ s.take k,g x = false) (fun i => s.length - i.toNat) (fun r => ∃ k:Nat,r = .ret (k:Int)) ?_ 0 ⟨0,rfl,Ya _,by simp⟩
  ·obtain ⟨_,e,k,rfl⟩:=key
   rw [e];simp only [Y0,Jx.elim];rw [Zn (by omega)]
  ·rintro _ ⟨k,rfl,hk,hp⟩;unfold Z5.s0
   by_cases hlt:k < s.length
   ·rw [Zn (by omega),cond_true,at?_nat hlt,Y0,h _ (Yj hlt),Y0]
    cases hg:g s[k] with
    | true => exact .inr ⟨_,rfl,k,rfl⟩
    | false =>
     rw [cond_false,ZY (by omega)]
     refine .inl ⟨_,rfl,⟨k + 1,by push_cast;rfl,hlt,fun x hx => ?_⟩,by omega⟩
     rw [List.take_add_one,Y5 hlt] at hx
     rcases List.mem_append.1 hx with hx | hx
     ·exact hp x hx
     ·have:x = s[k]:=List.mem_singleton.1 hx
      rw [this,hg]
   ·have:k = s.length:=by omega
    subst this;rw [List.take_length] at hp;exact absurd hp hall
theorem containsR {s:List (List Bound)} {f:List Bound→Option Bool} {g:List Bound→Bool} (hs:(s.length:Int) < 4611686018427387904) (h:∀ x ∈ s,f x = some (g x)) :
  (ZA s f = some true∧∃ x ∈ s,g x = true)∨(ZA s f = some false∧∀ x ∈ s,g x = false):=by
 by_cases hall:∀ x ∈ s,g x = false
 ·exact .inr ⟨Z6m hs fun x hx => by rw [h x hx,hall x hx],hall⟩
 ·refine .inl ⟨?_,Classical.byContradiction fun hn => hall fun x hx => by cases hg:g x with | false => rfl | true => exact absurd ⟨x,hx,hg⟩ hn⟩
  unfold ZA Z3;have key:=Z1y (step:=Z3.s0 s f) (I:=fun i => ∃ k:Nat,i = (k:Int)∧k≤s.length∧∀ x ∈ s.take k,g x = false) (fun i => s.length - i.toNat) (fun r => ∃ k:Nat,r = .ret (k:Int)) ?_ 0 ⟨0,rfl,Ya _,by simp⟩
  ·obtain ⟨_,e,k,rfl⟩:=key
   rw [e];simp only [Y0,Jx.elim];rw [Zn (by omega)]
  ·rintro _ ⟨k,rfl,hk,hp⟩;unfold Z3.s0
   by_cases hlt:k < s.length
   ·rw [Zn (by omega),cond_true,at?_nat hlt,Y0,h _ (Yj hlt),Y0]
    cases hg:g s[k] with
    | true => exact .inr ⟨_,rfl,k,rfl⟩
    | false =>
     rw [cond_false,ZY (by omega)]
     refine .inl ⟨_,rfl,⟨k + 1,by push_cast;rfl,hlt,fun x hx => ?_⟩,by omega⟩
     rw [List.take_add_one,Y5 hlt] at hx
     rcases List.mem_append.1 hx with hx | hx
     ·exact hp x hx
     ·have:x = s[k]:=List.mem_singleton.1 hx
      rw [this,hg]
   ·have:k = s.length:=by omega
    subst this;rw [List.take_length] at hp;exact absurd hp hall
theorem right2_eq {row:List Bound} {n:Int} (hs:(row.length:Int) < 4611686018427387904):∃ b,Z0i row n = some b∧(b = false ↔ (row.length:Int) = n∧∀ x ∈ row,Z01 x = true):=by
 unfold Z0i
 by_cases hn:(row.length:Int) = n
 ·rw [Z4X hn,cond_false]
  rcases containsB (g:=Z0z) hs (fun x _ => rfl) with ⟨e,x,hx,hg⟩ | ⟨e,hg⟩
  ·rw [e];refine ⟨true,rfl,fun h => (by cases h),fun h => ?_⟩
   have:=h.2 x hx
   unfold Z0z at hg;rw [this] at hg;cases hg
  ·rw [e];refine ⟨false,rfl,fun _ => ⟨hn,fun x hx => ?_⟩,fun _ => rfl⟩
   have:=hg x hx
   unfold Z0z at this
   simpa using this
 ·rw [bne_t hn,cond_true];exact ⟨true,rfl,fun h => (by cases h),fun h => absurd h.1 hn⟩
theorem Z3h (d:List (List Bound)) (hd:∀ row ∈ d,(row.length:Int) < 4611686018427387904):(Z0K d = some true∧Z3P d)∨(Z0K d = some false∧¬ Z3P d):=by
 unfold Z0K
 by_cases h24:d.length≤24
 ·rw [Zn (by omega),cond_true]
  have hf:∀ row ∈ d,Z0i row (d.length:Int) = some (decide (¬ ((row.length:Int) = d.length∧∀ x ∈ row,Z01 x = true))):=by
   intro row hr;obtain ⟨b,e,hb⟩:=right2_eq (n:=(d.length:Int)) (hd row hr)
   rw [e];cases b with
   | true =>
    have hh:¬ ((row.length:Int) = d.length∧∀ x ∈ row,Z01 x = true):=fun h => by have:=hb.2 h;cases this
    congr 1
    exact (decide_eq_true hh).symm
   | false =>
    have hh:¬ ¬ ((row.length:Int) = d.length∧∀ x ∈ row,Z01 x = true):=fun h => h (hb.1 rfl)
    congr 1
    exact (decide_eq_false hh).symm
  rcases containsR (g:=fun row => decide (¬ ((row.length:Int) = d.length∧∀ x ∈ row,Z01 x = true))) (by omega) hf with ⟨e,row,hr,hg⟩ | ⟨e,hg⟩
  ·rw [e];refine .inr ⟨rfl,fun h => ?_⟩
   simp only [decide_eq_true_eq] at hg;exact hg ⟨by have:=(h.2 row hr).1;omega,(h.2 row hr).2⟩
  ·rw [e];refine .inl ⟨rfl,h24,fun row hr => ?_⟩
   have:=hg row hr
   simp only [decide_eq_false_iff_not,Classical.not_not] at this;exact ⟨by omega,this.2⟩
 ·rw [Zr (by omega),cond_false]
  exact .inr ⟨rfl,fun h => h24 h.1⟩
end Go.Dn

namespace Go.Dn
open Go
def wl (M:MF):Nat→List Nat→Nat→Option Int
 | i,[],j => M i j
 | i,v :: p,j => oadd (M i v) (wl M v p j)
variable {M Y:MF} {n:Nat}
theorem Z2i:∀ (p q:List Nat) (i k j:Nat),wl M i (p ++ k :: q) j = oadd (wl M i p k) (wl M k q j)
 | [],q,i,k,j => rfl
 | v :: p,q,i,k,j => by
  show oadd (M i v) (wl M v (p ++ k :: q) j) = oadd (oadd (M i v) (wl M v p k)) (wl M k q j)
  rw [Z2i p q v k j,Z2p]
theorem wl_ge (ht:TriM n n Y) (hl:leM n Y M):∀ (p:List Nat) (i j:Nat),(∀ v ∈ p,v < n)→i < n→j < n→ole (Y i j) (wl M i p j)
 | [],i,j,_,hi,hj => hl i j hi hj
 | v :: p,i,j,hp,hi,hj => by
  have hv:=hp v (by simp)
  exact Z0G (ht v hv i j hi hj) (Z2U (hl i v hi hv) (wl_ge ht hl p v j (fun u hu => hp u (by simp [hu])) hv hj))
def NoRound (n:Nat) (M:MF):Prop:=∀ v p,v < n→(∀ u ∈ p,u < n)→ole (some 0) (wl M v p v)
theorem Z5a {a b:Option Int} (h:ole (some 0) a):ole b (oadd a b):=by
 cases a <;> cases b <;> simp [ole,oadd] at * <;> omega
theorem ole_add_r {a b:Option Int} (h:ole (some 0) b):ole a (oadd a b):=by
 cases a <;> cases b <;> simp [ole,oadd] at * <;> omega
theorem ole_add0 {a b:Option Int} (h1:ole (some 0) a) (h:ole (some 0) b):ole (some 0) (oadd a b):=by
 cases a <;> cases b <;> simp [ole,oadd] at * <;> omega
theorem dup_split {p:List Nat} (h:¬ p.Nodup):∃ a b c v,p = a ++ v :: (b ++ v :: c):=by
 induction p with
 | nil => exact absurd Y0k h
 | cons x p ih =>
  by_cases hx:x ∈ p
  ·obtain ⟨b,c,rfl⟩:=Y0R hx
   exact ⟨[],b,c,x,rfl⟩
  ·have:¬ p.Nodup:=fun hn => h (List.nodup_cons.2 ⟨hx,hn⟩)
   obtain ⟨a,b,c,v,rfl⟩:=ih this
   exact ⟨x :: a,b,c,v,rfl⟩
theorem wl_simple (hr:NoRound n M):∀ (k:Nat) (p:List Nat) (i j:Nat),p.length≤k→(∀ v ∈ p,v < n)→i < n→j < n →
  ∃ q,q.Nodup∧(∀ v ∈ q,v < n∧v ≠ i∧v ≠ j)∧ole (wl M i q j) (wl M i p j):=by
 intro k
 induction k with
 | zero =>
  intro p i j hk hp hi hj;have:p = []:=List.length_eq_zero_iff.1 (by omega)
  subst this;exact ⟨[],Y0k,by simp,Z0U _⟩
 | succ k ih =>
  intro p i j hk hp hi hj
  by_cases h1:i ∈ p
  ·obtain ⟨a,b,rfl⟩:=Y0R h1
   obtain ⟨q,q1,q2,q3⟩:=ih b i j (by simp at hk;omega) (fun v hv => hp v (by simp [hv])) hi hj
   refine ⟨q,q1,q2,Z0G q3 ?_⟩;rw [Z2i];exact Z5a (hr i a hi fun v hv => hp v (by simp [hv]))
  by_cases h2:j ∈ p
  ·obtain ⟨a,b,rfl⟩:=Y0R h2
   obtain ⟨q,q1,q2,q3⟩:=ih a i j (by simp at hk;omega) (fun v hv => hp v (by simp [hv])) hi hj
   refine ⟨q,q1,q2,Z0G q3 ?_⟩;rw [Z2i];exact ole_add_r (hr j b hj fun v hv => hp v (by simp [hv]))
  by_cases h3:p.Nodup
  ·exact ⟨p,h3,fun v hv => ⟨hp v hv,fun e => h1 (e ▸ hv),fun e => h2 (e ▸ hv)⟩,Z0U _⟩
  ·obtain ⟨a,b,c,v,rfl⟩:=dup_split h3
   have hv:v < n:=hp v (by simp)
   obtain ⟨q,q1,q2,q3⟩:=ih (a ++ v :: c) i j (by simp at hk ⊢;omega) (fun u hu => hp u (by
    rcases List.mem_append.1 hu with h | h
    ·simp [h]
    ·rcases List.mem_cons.1 h with h | h <;> simp [h])) hi hj
   refine ⟨q,q1,q2,Z0G q3 ?_⟩;rw [Z2i,Z2i,Z2i];exact Z2U (Z0U _) (Z5a (hr v b hv fun u hu => hp u (by simp [hu])))
theorem noRound_of (h:∀ v p,v < n→p.Nodup→(∀ u ∈ p,u < n∧u ≠ v)→ole (some 0) (wl M v p v)):NoRound n M:=by
 have key:∀ (k:Nat) (p:List Nat) (v:Nat),p.length≤k→v < n→(∀ u ∈ p,u < n)→ole (some 0) (wl M v p v):=by
  intro k
  induction k with
  | zero =>
   intro p v hk hv hp;have:p = []:=List.length_eq_zero_iff.1 (by omega)
   subst this;exact h v [] hv Y0k (by simp)
  | succ k ih =>
   intro p v hk hv hp
   by_cases h1:v ∈ p
   ·obtain ⟨a,b,rfl⟩:=Y0R h1
    rw [Z2i];exact ole_add0 (ih a v (by simp at hk;omega) hv fun u hu => hp u (by simp [hu])) (ih b v (by simp at hk;omega) hv fun u hu => hp u (by simp [hu]))
   by_cases h3:p.Nodup
   ·exact h v p hv h3 fun u hu => ⟨hp u hu,fun e => h1 (e ▸ hu)⟩
   ·obtain ⟨a,b,c,w,rfl⟩:=dup_split h3
    have hw:w < n:=hp w (by simp)
    have e1:=ih (a ++ w :: c) v (by simp at hk ⊢;omega) hv (fun u hu => hp u (by
     rcases List.mem_append.1 hu with h | h
     ·simp [h]
     ·rcases List.mem_cons.1 h with h | h <;> simp [h]))
    have e2:=ih b w (by simp at hk ⊢;omega) hw (fun u hu => hp u (by simp [hu]))
    refine Z0G e1 ?_;rw [Z2i,Z2i,Z2i];exact Z2U (Z0U _) (Z5a e2)
 exact fun v p hv hp => key p.length p v (Y9 _) hv hp
structure Short (n:Nat) (M:MF) (i j:Nat) (x:Option Int):Prop where
 low:∀ p,p.Nodup→(∀ v ∈ p,v < n∧v ≠ i∧v ≠ j)→ole x (wl M i p j)
 real:∃ p,(∀ v ∈ p,v < n)∧wl M i p j = x
noncomputable def shM (W:MF):MF:=fun i j => if i = j then some 0 else W i j
theorem sh_round {W:MF} (hW:∀ i j,i < n→j < n→Short n M i j (W i j)) (h0:∀ i,i < n→ole (some 0) (W i i)):NoRound n M :=
 noRound_of fun v p hv hn hp => Z0G (h0 v hv) ((hW v v hv hv).low p hn fun u hu => ⟨(hp u hu).1,(hp u hu).2,(hp u hu).2⟩)
theorem sh_closed {W:MF} (hW:∀ i j,i < n→j < n→Short n M i j (W i j)) (h0:∀ i,i < n→ole (some 0) (W i i)):TriM n n (shM W)∧DiagM n (shM W)∧leM n (shM W) M:=by
 have hr:=sh_round hW h0
 refine ⟨fun m hm i j hi hj => ?_,fun i hi => by simp [shM],fun i j hi hj => ?_⟩
 ·by_cases h1:i = m
  ·subst h1;have:shM W i i = some 0:=by simp [shM]
   rw [this,Z5Y];exact Z0U _
  by_cases h2:m = j
  ·subst h2;have:shM W m m = some 0:=by simp [shM]
   rw [this,oadd_zero];exact Z0U _
  obtain ⟨p,p1,p2⟩:=(hW i m hi hm).real
  obtain ⟨q,q1,q2⟩:=(hW m j hm hj).real
  have e1:shM W i m = wl M i p m:=by rw [p2];simp [shM,h1]
  have e2:shM W m j = wl M m q j:=by rw [q2];simp [shM,h2]
  rw [e1,e2,← Z2i];have hpq:∀ v ∈ p ++ m :: q,v < n:=fun v hv => by
   rcases List.mem_append.1 hv with h | h
   ·exact p1 v h
   ·rcases List.mem_cons.1 h with rfl | h
    ·exact hm
    ·exact q1 v h
  by_cases h3:i = j
  ·subst h3;have:shM W i i = some 0:=by simp [shM]
   rw [this];exact hr i _ hi hpq
  ·obtain ⟨r,r1,r2,r3⟩:=wl_simple hr _ _ i j (Y9 _) hpq hi hj
   have:shM W i j = W i j:=by simp [shM,h3]
   rw [this];exact Z0G ((hW i j hi hj).low r r1 r2) r3
 ·by_cases h3:i = j
  ·subst h3;have:shM W i i = some 0:=by simp [shM]
   rw [this];exact hr i [] hi (by simp)
  ·have:shM W i j = W i j:=by simp [shM,h3]
   rw [this];exact (hW i j hi hj).low [] Y0k (by simp)
theorem ole_antisymm {a b:Option Int} (h1:ole a b) (h2:ole b a):a = b:=by
 cases a <;> cases b <;> simp [ole] at * <;> omega
theorem sh_eq {W C:MF} {B:Int} (hW:∀ i j,i < n→j < n→Short n M i j (W i j)) (hC:InvC n B M n C):(∀ i,i < n→ole (some 0) (W i i))∧∀ i j,i < n→j < n→C i j = shM W i j:=by
 have lower:∀ i j,i < n→j < n→ole (C i j) (W i j):=fun i j hi hj => by
  obtain ⟨p,p1,p2⟩:=(hW i j hi hj).real
  rw [← p2];exact wl_ge hC.tri hC.le p i j p1 hi hj
 have h0:∀ i,i < n→ole (some 0) (W i i):=fun i hi => by
  have:=lower i i hi hi
  rwa [hC.diag i hi] at this
 refine ⟨h0,fun i j hi hj => ?_⟩
 obtain ⟨c1,c2,c3⟩:=sh_closed hW h0
 by_cases h:i = j
 ·subst h;rw [hC.diag i hi];simp [shM]
 ·refine ole_antisymm ?_ (hC.gr _ c1 c2 c3 i j hi hj);have:shM W i j = W i j:=by simp [shM,h]
  rw [this];exact lower i j hi hj
theorem sh_none {W:MF} (hW:∀ i j,i < n→j < n→Short n M i j (W i j)) (hN:NoSol n M):¬ ∀ i,i < n→ole (some 0) (W i i):=fun h0 => by
 obtain ⟨c1,c2,c3⟩:=sh_closed hW h0
 exact hN _ c1 c2 c3
end Go.Dn

namespace Go.Dn
open Go
variable {M:MF} {n:Nat}
theorem below_bd (a b:Option Int):Z0L (bd a) (bd b) = olt a b:=by
 cases a <;> cases b <;> rfl
theorem sum24_bd {a b:Option Int} {B:Int} (hB:B≤4611686018427387903) (h1:inB B a) (h2:inB B b):ZT (bd a) (bd b) = bd (oadd a b):=by
 cases a with
 | none => rfl
 | some x =>
  cases b with
  | none => rfl
  | some y =>
   have h3 : -B≤x∧x≤B:=h1
   have h4 : -B≤y∧y≤B:=h2
   have e:ZT (bd (some x)) (bd (some y)) = ⟨0,w64 (x + y)⟩:=rfl
   rw [e,ZY (by omega)]
   rfl
theorem wl_bd {B:Int} (hB0:0≤B) (hB:BdM n M B):∀ (p:List Nat) (i j:Nat),(∀ v ∈ p,v < n)→i < n→j < n→inB (B * (p.length + 1:Nat)) (wl M i p j)
 | [],i,j,_,hi,hj => by
  have:=hB i j hi hj
  simpa [wl] using this
 | v :: p,i,j,hp,hi,hj => by
  have hv:=hp v (by simp)
  have h1:=hB i v hi hv
  have h2:=wl_bd hB0 hB p v j (fun u hu => hp u (by simp [hu])) hv hj
  show inB _ (oadd (M i v) (wl M v p j))
  have e:B * (((v :: p).length + 1:Nat):Int) = B * ((p.length + 1:Nat):Int) + B:=by
   rw [Yi];have:((p.length + 1 + 1:Nat):Int) = ((p.length + 1:Nat):Int) + 1:=by omega
   rw [this,Int.mul_add,Int.mul_one]
  rw [e];generalize B * ((p.length + 1:Nat):Int) = C at h2 ⊢;cases h:M i v with
  | none => trivial
  | some x =>
   cases h':wl M v p j with
   | none => trivial
   | some y =>
    rw [h] at h1;rw [h'] at h2;have h3 : -B≤x∧x≤B:=h1
    have h4 : -C≤y∧y≤C:=h2
    show -(C + B)≤x + y∧x + y≤C + B
    omega
structure Srch (n:Nat) (M:MF) (g:Nat) (met:List Bool) (i j:Nat) (x:Option Int):Prop where
 low:∀ p,p.Nodup→(∀ v ∈ p,met[v]? = some false∧v ≠ j)→ole x (wl M i p j)
 real:∃ p,p.length < g∧(∀ v ∈ p,v < n)∧wl M i p j = x
theorem Srch.inB {g i j:Nat} {met:List Bool} {x:Option Int} {B:Int} (h:Srch n M g met i j x) (hB0:0≤B) (hB:BdM n M B) (hi:i < n) (hj:j < n):inB (B * (g:Nat)) x:=by
 obtain ⟨p,h1,h2,rfl⟩:=h.real
 refine Z3I (wl_bd hB0 hB p i j h2 hi hj) (Y0Q (by omega) hB0)
theorem count_set {met:List Bool} {k:Nat} (h:met[k]? = some false):(met.set k true).count false + 1 = met.count false:=by
 induction met generalizing k with
 | nil => simp at h
 | cons b met ih =>
  cases k with
  | zero =>
   simp only [Yq,Y4] at h;subst h
   simp
  | succ k =>
   have:=ih (k:=k) (by simpa using h)
   cases b <;> simp <;> omega
theorem least_spec {B:Int} (hB0:0≤B) (hB2:B≤288230376151711744) (hn:n≤6) (hB:BdM n M B):∀ (g:Nat) (met:List Bool) (i j:Nat),g≤8→i < n→j < n→met.length = n→met.count false < g →
  ∃ x,ZP g (Mat n M) (i:Int) (j:Int) met = some (bd x)∧Srch n M g met i j x:=by
 intro g
 induction g with
 | zero => intro met i j _ _ _ _ h;omega
 | succ g ih =>
  intro met i j hg hi hj hlen hcnt
  show ∃ x,ZP.b (ZP g) (Mat n M) (i:Int) (j:Int) met = some (bd x)∧_
  unfold ZP.b;simp only [Z15 hi,Z0v hj,Y0];have key:=Z1y (step:=ZP.s0 (ZP g) (Mat n M) (i:Int) (j:Int) met)
   (I:=fun s => ∃ (k:Nat) (y:Option Int),s = ((k:Int),(bd y).Inf,(bd y).N)∧k≤n∧(∀ p,p.Nodup→(∀ v ∈ p,met[v]? = some false∧v ≠ j)→(∀ v ∈ p.head?,v < k)→ole y (wl M i p j))∧∃ p,p.length < g + 1∧(∀ v ∈ p,v < n)∧wl M i p j = y)
   (fun s => n - s.1.toNat) (fun r => ∃ y,r = ((bd y).Inf,(bd y).N)∧Srch n M (g + 1) met i j y) ?_ (0,(bd (M i j)).Inf,(bd (M i j)).N) ⟨0,M i j,rfl,Ya _,?_,[],by simp,by simp,rfl⟩
  ·obtain ⟨r,e,y,rfl,h⟩:=key
   exact ⟨y,by rw [e];rfl,h⟩
  ·rintro _ ⟨k,y,rfl,hk,hlow,hreal⟩;unfold ZP.s0;simp only [Zu]
   by_cases hlt:k < n
   ·rw [Zn (by omega),cond_true]
    have hkm:k < met.length:=by omega
    simp only [at?_nat hkm,Y0]
    by_cases hskip:(met[k] || ((k:Int) == (j:Int))) = true
    ·rw [hskip,cond_true];refine .inl ⟨_,rfl,⟨k + 1,y,?_,hlt,fun p hp hgood hh => hlow p hp hgood fun v hv => ?_,hreal⟩,?_⟩
     ·simp only [];rw [ZY (by omega)];push_cast;rfl
     ·have h1:=hh v hv
      rcases YV v k with h | h
      ·exact h
      ·exfalso
       have e:v = k:=by omega
       subst e;obtain ⟨h2,h3⟩:=hgood v (List.mem_of_mem_head? hv)
       rw [Y5 hkm,Y4] at h2;rw [h2,Y0D] at hskip;have:(v:Int) = (j:Int):=by simpa using hskip
       omega
     ·simp only [];rw [ZY (by omega)];omega
    ·rw [Y0b] at hskip;rw [hskip,cond_false];rw [Bool.or_eq_false_iff] at hskip;obtain ⟨hmk,hkj⟩:=hskip
     have hkj':k ≠ j:=by
      rintro rfl;simp at hkj
     have hmk':met[k]? = some false:=by rw [Y5 hkm,hmk]
     have hc:=count_set hmk'
     have hlen':(met.set k true).length = n:=by simpa using hlen
     obtain ⟨z,e1,hz⟩:=ih (met.set k true) k j (by omega) hlt hj hlen' (by omega)
     have zB:=hz.inB hB0 hB hlt hj
     have hB8:B * (g:Int)≤B * 8:=Y0Q (by omega) hB0
     have zB':inB (B * 8) z:=Z3I zB hB8
     have mB':inB (B * 8) (M i k):=Z3I (hB i k hi hlt) (by omega)
     have hat:at? (met.set k true) (k:Int) = some true:=by
      rw [at?_nat (by simpa using hkm)]
      simp
     have hbk:back? met (k:Int) = some ():=by
      unfold back?;rw [at?_nat hkm,hmk,if_pos rfl]
     have hbe:(Bound.mk (bd y).Inf (bd y).N) = bd y:=by cases y <;> rfl
     simp only [Z15 hi,Z0v hlt,Y0,YK,e1,sum24_bd (by omega) mB' zB',hbe,below_bd,hat,hbk]
     have fin:∀ y',y' = omin (oadd (M i k) z) y→(∀ p,p.Nodup→(∀ v ∈ p,met[v]? = some false∧v ≠ j)→(∀ v ∈ p.head?,v < k + 1)→ole y' (wl M i p j))∧∃ p,p.length < g + 1∧(∀ v ∈ p,v < n)∧wl M i p j = y':=by
      rintro y' rfl;refine ⟨fun p hp hgood hh => ?_,?_⟩
      ·cases p with
       | nil => exact Z0G (omin_r _ _) (hlow [] hp hgood (by simp))
       | cons v q =>
        rcases YV v k with h | h
        ·exact Z0G (omin_r _ _) (hlow (v :: q) hp hgood (by simpa using h))
        ·have hv:v = k:=by
          have:=hh v (by simp)
          omega
         subst hv;obtain ⟨p1,p2⟩:=List.nodup_cons.1 hp
         refine Z0G (omin_l _ _) (Z2U (Z0U _) (hz.low q p2 fun u hu => ?_))
         obtain ⟨u1,u2⟩:=hgood u (by simp [hu])
         refine ⟨?_,u2⟩;rw [Y0Z (fun e => p1 (by rw [e];exact hu))]
         exact u1
      ·rcases omin_or (oadd (M i k) z) y with h | h
       ·obtain ⟨q,q1,q2,q3⟩:=hz.real
        rw [h];refine ⟨k :: q,by simp;omega,fun u hu => ?_,by rw [← q3];rfl⟩
        rcases List.mem_cons.1 hu with rfl | hu
        ·exact hlt
        ·exact q2 u hu
       ·rw [h];exact hreal
     have hpick:=Z4P (oadd (M i k) z) y
     cases hol:olt (oadd (M i k) z) y with
     | true =>
      rw [hol,if_pos rfl] at hpick;obtain ⟨f1,f2⟩:=fin _ rfl
      refine .inl ⟨_,rfl,⟨k + 1,omin (oadd (M i k) z) y,?_,hlt,f1,f2⟩,?_⟩
      ·rw [hpick];simp only [];rw [ZY (by omega)];push_cast;rfl
      ·simp only [];rw [ZY (by omega)];omega
     | false =>
      rw [hol,if_neg (by simp)] at hpick
      obtain ⟨f1,f2⟩:=fin _ rfl
      refine .inl ⟨_,rfl,⟨k + 1,omin (oadd (M i k) z) y,?_,hlt,f1,f2⟩,?_⟩
      ·rw [hpick];simp only [];rw [ZY (by omega)];push_cast;rfl
      ·simp only [];rw [ZY (by omega)];omega
   ·have:k = n:=by omega
    subst this;rw [Zr (by omega),cond_false]
    refine .inr ⟨_,rfl,y,rfl,fun p hp hgood => hlow p hp hgood fun v hv => ?_,hreal⟩
    have:=(hgood v (List.mem_of_mem_head? hv)).1
    have:=(List.getElem?_eq_some_iff.1 this).1
    omega
  ·intro p hp hgood hh;cases p with
   | nil => exact Z0U _
   | cons v q => exact absurd (hh v (by simp)) (Y0J _)
theorem way_spec {B:Int} (hB0:0≤B) (hB2:B≤288230376151711744) (hn:n≤6) (hB:BdM n M B) {i j:Nat} (hi:i < n) (hj:j < n):∃ x,Z04 (Mat n M) (i:Int) (j:Int) = some (bd x)∧Short n M i j x:=by
 unfold Z04
 have hnew:new? 1 ((Mat n M).length:Int) false = some (List.replicate n false):=by
  unfold new?;rw [Zu,if_pos ⟨by omega,by rw [Z3i];omega⟩,YK]
 rw [hnew,Y0,at?_nat (by simpa using hi),Y0,YK,Yf,Y06]
 have hlen:((List.replicate n false).set i true).length = n:=by simp
 obtain ⟨x,e,h⟩:=least_spec hB0 hB2 hn hB (n + 1) ((List.replicate n false).set i true) i j (by omega) hi hj hlen (by
  have:=List.count_le_length (a:=false) (l:=(List.replicate n false).set i true)
  omega)
 refine ⟨x,by rw [e];rfl,⟨fun p hp hgood => h.low p hp fun v hv => ?_,?_⟩⟩
 ·obtain ⟨h1,h2,h3⟩:=hgood v hv
  refine ⟨?_,h3⟩;rw [Y0Z (fun e => h2 e.symm)]
  simp [h1]
 ·obtain ⟨p,p1,p2,p3⟩:=h.real
  exact ⟨p,p2,p3⟩
theorem ways_spec {B:Int} (hB0:0≤B) (hB2:B≤288230376151711744) (hn:n≤6) (hB:BdM n M B):∃ W:MF,∀ i j,i < n→j < n→Z04 (Mat n M) (i:Int) (j:Int) = some (bd (W i j))∧Short n M i j (W i j):=by
 have h:∀ i j,∃ x,i < n→j < n→Z04 (Mat n M) (i:Int) (j:Int) = some (bd x)∧Short n M i j x:=fun i j => by
  by_cases hi:i < n
  ·by_cases hj:j < n
   ·obtain ⟨x,h⟩:=way_spec hB0 hB2 hn hB hi hj
    exact ⟨x,fun _ _ => h⟩
   ·exact ⟨none,fun _ h => absurd h hj⟩
  ·exact ⟨none,fun h => absurd h hi⟩
 exact ⟨fun i j => Classical.choose (h i j),fun i j => Classical.choose_spec (h i j)⟩
theorem refClose_row {W:MF} (hn:n≤6) (hW:∀ i j,i < n→j < n→Z04 (Mat n M) (i:Int) (j:Int) = some (bd (W i j))) {i:Nat} (hi:i < n) (acc:List (List Bound)) :
  loopO (ZN.s1 (Mat n M) ((i:Int),acc)) (0,[]) = some (rowM n (shM W) i):=by
 refine Z0Q (I:=fun s r => r = rowM n (shM W) i∧∃ j:Nat,s = ((j:Int),(List.range j).map fun b => bd (shM W i b))∧j≤n) (fun s => n - s.1.toNat) ?_ ⟨rfl,0,rfl,Ya _⟩
 rintro _ r ⟨rfl,j,rfl,hj⟩
 unfold ZN.s1
 simp only [Zu]
 by_cases hlt:j < n
 ·rw [Zn (by omega),cond_true]
  have happ:∀ b:Bound,app? 16 ((List.range j).map fun b => bd (shM W i b)) [b] = some (((List.range j).map fun b => bd (shM W i b)) ++ [b]):=fun b => app?_ok (by simp [Z3i];omega)
  have hs:∀ b:Bound,b = bd (shM W i j)→((List.range j).map fun b => bd (shM W i b)) ++ [b] = (List.range (j + 1)).map fun b => bd (shM W i b):=by
   rintro b rfl;rw [List.range_succ,Yo]
   rfl
  by_cases hij:i = j
  ·subst hij;rw [Z3l rfl,cond_true,happ];simp only [Y0];refine .inl ⟨_,rfl,⟨trivial,i + 1,?_,hlt⟩,?_⟩
   ·rw [ZY (by omega),hs _ (by simp [shM,bd])];push_cast;rfl
   ·simp only [];rw [ZY (by omega)];omega
  ·rw [Z4U (by omega),cond_false,hW i j hi hlt,Y0,happ]
   simp only [Y0];refine .inl ⟨_,rfl,⟨trivial,j + 1,?_,hlt⟩,?_⟩
   ·rw [ZY (by omega),hs _ (by simp [shM,hij])];push_cast;rfl
   ·simp only [];rw [ZY (by omega)];omega
 ·have:j = n:=by omega
  subst this;rw [Zr (by omega),cond_false]
  exact .inr rfl
theorem Z4B {W:MF} (hn:n≤6) (hW:∀ i j,i < n→j < n→Z04 (Mat n M) (i:Int) (j:Int) = some (bd (W i j))) :
  ((∀ i,i < n→olt (W i i) (some 0) = false)∧ZN (Mat n M) = some (Mat n (shM W),true))∨((∃ i,i < n∧olt (W i i) (some 0) = true)∧ZN (Mat n M) = some ([],false)):=by
 have key:=Z1y (step:=ZN.s0 (Mat n M)) (I:=fun s => ∃ i:Nat,s = ((i:Int),(List.range i).map fun a => rowM n (shM W) a)∧i≤n∧∀ a,a < i→olt (W a a) (some 0) = false) (fun s => n - s.1.toNat)
  (fun r => (r = .go (Mat n (shM W))∧∀ i,i < n→olt (W i i) (some 0) = false)∨(r = .ret ([],false)∧∃ i,i < n∧olt (W i i) (some 0) = true)) ?_ (0,[]) ⟨0,rfl,Ya _,fun a ha => absurd ha (Y0J _)⟩
 ·unfold ZN;obtain ⟨r,e,⟨rfl,h⟩ | ⟨rfl,h⟩⟩:=key
  ·exact .inl ⟨h,by rw [e];rfl⟩
  ·exact .inr ⟨h,by rw [e];rfl⟩
 ·rintro _ ⟨i,rfl,hi,hpos⟩;unfold ZN.s0;simp only [Zu]
  by_cases hlt:i < n
  ·rw [Zn (by omega),cond_true,hW i i hlt hlt,Y0]
   have hz:(Bound.mk 0 0) = bd (some 0):=rfl
   rw [hz,below_bd];cases hol:olt (W i i) (some 0) with
   | true => rw [cond_true];exact .inr ⟨_,rfl,.inr ⟨rfl,i,hlt,hol⟩⟩
   | false =>
    rw [cond_false,refClose_row hn hW hlt,Y0,app?_ok (by simp [Z3i];omega),Y0]
    refine .inl ⟨_,rfl,⟨i + 1,?_,hlt,fun a ha => ?_⟩,?_⟩
    ·rw [ZY (by omega),List.range_succ,Yo];push_cast;rfl
    ·rcases YV a i with h | h
     ·exact hpos a h
     ·have:a = i:=by omega
      rw [this];exact hol
    ·simp only [];rw [ZY (by omega)];omega
  ·have:i = n:=by omega
   subst this;rw [Zr (by omega),cond_false]
   exact .inr ⟨_,rfl,.inl ⟨rfl,hpos⟩⟩
theorem olt_zero {a:Option Int}:olt a (some 0) = false ↔ ole (some 0) a:=by
 cases a <;> simp [olt,ole]
theorem closes_eq {B:Int} (hB0:0≤B) (hB2:B≤1125899906842624) (h1:1≤n) (hn:n≤6) (hB:BdM n M B) :
  ∃ r b,Z9 (Mat n M) = some (r,b,0)∧ZN (Mat n M) = some (r,b)∧(r = []∨∃ C,r = Mat n C):=by
 obtain ⟨W,hW⟩:=ways_spec hB0 (by omega) hn hB
 have hS:∀ i j,i < n→j < n→Short n M i j (W i j):=fun i j hi hj => (hW i j hi hj).2
 have hpow:∀ k,k < n→B * 2 ^ k≤2305843009213693952:=fun k hk => by
  have h3:(2:Nat) ^ k≤2 ^ 6:=Nat.pow_le_pow_right (by omega) (by omega)
  have h4:((2 ^ k:Nat):Int) = (2:Int) ^ k:=by push_cast;rfl
  have h5:(2:Int) ^ k≤64:=by omega
  have:=Y0Q h5 hB0
  omega
 rcases close_eq2 hB0 hB2 hpow h1 (by omega) hB with ⟨C,e,hC⟩ | ⟨e,hN⟩
 ·obtain ⟨h0,hCW⟩:=sh_eq hS hC
  rcases Z4B hn (fun i j hi hj => (hW i j hi hj).1) with ⟨_,e2⟩ | ⟨⟨i,hi,h⟩,_⟩
  ·refine ⟨_,_,e,?_,.inr ⟨C,rfl⟩⟩;rw [e2,Z1x hCW]
  ·rw [olt_zero.2 (h0 i hi)] at h;cases h
 ·rcases Z4B hn (fun i j hi hj => (hW i j hi hj).1) with ⟨h0,_⟩ | ⟨_,e2⟩
  ·exact absurd (fun i hi => olt_zero.1 (h0 i hi)) (sh_none hS hN)
  ·exact ⟨_,_,e,e2,.inl rfl⟩
end Go.Dn

namespace Go.Dn
open Go
variable {n:Nat}
theorem may_of {b:Bound} (h:Z01 b = true):∃ a,b = bd a∧inB 1125899906842624 a:=by
 rw [← may_eq] at h
 unfold Zk at h
 obtain ⟨I,N⟩:=b
 by_cases h1:I = 1
 ·subst h1;rw [Z3l rfl,cond_true] at h;have:N = 0:=by simpa using h
  subst this;exact ⟨none,rfl,trivial⟩
 ·rw [Z4U h1,cond_false] at h;simp only [Y7,decide_eq_true_eq,beq_iff_eq] at h;obtain ⟨⟨h2,h3⟩,h4⟩:=h
  subst h2;exact ⟨some N,rfl,by show -1125899906842624≤N∧N≤1125899906842624;omega⟩
theorem Z5w {d:List (List Bound)} (h:Z3P d):∃ M,d = Mat d.length M∧BdM d.length M 1125899906842624:=by
 have hx:∀ i j,∃ a,i < d.length→j < d.length→(∃ row,d[i]? = some row∧row.length = d.length∧row[j]? = some (bd a))∧inB 1125899906842624 a:=fun i j => by
  by_cases hi:i < d.length
  ·by_cases hj:j < d.length
   ·obtain ⟨h1,h2⟩:=h.2 d[i] (Yj hi)
    have hj':j < d[i].length:=by omega
    obtain ⟨a,h3,h4⟩:=may_of (h2 d[i][j] (Yj hj'))
    exact ⟨a,fun _ _ => ⟨⟨d[i],Y5 hi,h1,by rw [← h3];exact Y5 hj'⟩,h4⟩⟩
   ·exact ⟨none,fun _ h => absurd h hj⟩
  ·exact ⟨none,fun h => absurd h hi⟩
 refine ⟨fun i j => Classical.choose (hx i j),?_,fun i j hi hj => (Classical.choose_spec (hx i j) hi hj).2⟩
 apply Y09
 intro i
 by_cases hi:i < d.length
 ·have e:(Mat d.length fun i j => Classical.choose (hx i j))[i]? = some (rowM d.length (fun i j => Classical.choose (hx i j)) i):=by simp [Mat,hi]
  rw [e,Y5 hi]
  congr 1
  obtain ⟨h1,_⟩:=h.2 d[i] (Yj hi)
  apply Y09;intro j
  by_cases hj:j < d.length
  ·obtain ⟨⟨row,r1,r2,r3⟩,_⟩:=Classical.choose_spec (hx i j) hi hj
   rw [Y5 hi,Y4] at r1;rw [r1,r3];simp [rowM,hj]
  ·rw [YS (by omega),YS (by rw [Z12];omega)]
 ·rw [YS (by omega),YS (by rw [Zu];omega)]
theorem rightN_mat {M:MF} (hn:n≤24) (hB:BdM n M 1125899906842624):Z3P (Mat n M):=by
 refine ⟨by rw [Zu];exact hn,fun row hr => ?_⟩
 simp only [Mat,Y0c,Y0F] at hr
 obtain ⟨i,hi,rfl⟩:=hr
 refine ⟨by rw [Z12,Zu],fun b hb => ?_⟩
 simp only [rowM,Y0c,Y0F] at hb
 obtain ⟨j,hj,rfl⟩:=hb
 exact may_bd (hB i j hi hj)
theorem Z3o {M:MF} (hn:n≤24) (hB:BdM n M 1125899906842624):Z6 (Mat n M) = some true:=by
 rcases Z0d (Mat n M) with ⟨h,_⟩ | ⟨_,h⟩
 ·exact h
 ·exact absurd (rightN_mat hn hB) h
theorem holds24_s1 {C:MF} {E:Nat→Int} {i:Nat} (hn:n≤24) (hi:i < n) (hB:BdM n C 1125899906842624) (hE:∀ i,i < n→In64 (E i)) :
  (loopO (ZC.s1 (Mat n C) (vec n E) (i:Int)) 0 = some (.go ())∧∀ j,j < n→ole (tm E i j) (C i j))∨(loopO (ZC.s1 (Mat n C) (vec n E) (i:Int)) 0 = some (.ret false)∧¬ ∀ j,j < n→ole (tm E i j) (C i j)):=by
 have key:=Z2K (l:=List.range n) (step:=ZC.s1 (Mat n C) (vec n E) (i:Int)) (good:=fun _ j => ole (tm E i j) (C i j)) (yes:=.go ()) (no:=.ret false) ?_ ?_
 ·rcases key with ⟨h1,h2⟩ | ⟨h1,h2⟩
  ·exact .inl ⟨h1,fun j hj => h2 j j (by simp [hj])⟩
  ·refine .inr ⟨h1,fun h => h2 fun k x hx => ?_⟩
   obtain ⟨hk,rfl⟩:=Z1g hx
   exact h x hk
 ·intro k x hx _;obtain ⟨hk,rfl⟩:=Z1g hx
  have h1:=hE x hk
  have h2:=hE i hi
  have hb:=hB i x hi hk
  unfold ZC.s1;rw [Zu,Zn (by omega),cond_true,Z15 hi,Y0,Z0v hk,Y0]
  have hw:w64 ((x:Int) + 1) = (x:Int) + 1:=ZY (by omega)
  cases hc:C i x with
  | none =>
   refine .inl ⟨?_,trivial⟩;simp only [bd,Z3l,cond_true,Y0,Jx.elim,hw]
  | some c =>
   rw [hc] at hb;simp only [inB] at hb;unfold In64 at h1 h2;have e0:((bd (some c)).Inf == 1) = false:=rfl
   have e1:(bd (some c)).N = c:=rfl
   rw [e0,e1,cond_false,vec_get hk,vec_get hi];simp only [Y0,tm,ole]
   by_cases ha:E i < 0
   ·by_cases hc0:E x ≥ 0
    ·rw [Zn ha,Zn hc0,Yl,cond_true,ZY (x:=9223372036854775807 + E i) (by omega)]
     by_cases g1:E x > 9223372036854775807 + E i
     ·rw [Zn g1,Y0S,Y0S,cond_true];exact .inr ⟨rfl,by omega⟩
     ·rw [Zr g1,Y0D]
      by_cases g2:E i = -9223372036854775808
      ·rw [Z3l g2,Y0S,cond_true];exact .inr ⟨rfl,by omega⟩
      ·rw [Z4U g2,Y0D,ZY (x:=E x - E i) (by omega)]
       by_cases g3:E x - E i > c
       ·rw [Zn g3,cond_true];exact .inr ⟨rfl,by omega⟩
       ·rw [Zr g3,cond_false];refine .inl ⟨?_,by omega⟩
        simp only [Y0,Jx.elim,hw]
    ·rw [Zn ha,Zr hc0,Bool.and_false,cond_false,Zr (show ¬ E i ≥ 0 by omega),Yh,cond_false]
     simp only [Y0,Jx.elim];rw [ZY (x:=E x - E i) (by omega)]
     by_cases g3:E x - E i > c
     ·rw [Zn g3,cond_true];exact .inr ⟨rfl,by omega⟩
     ·rw [Zr g3,cond_false];refine .inl ⟨?_,by omega⟩
      simp only [Y0,Jx.elim,hw]
   ·rw [Zr ha,Yh,cond_false,Zn (show E i ≥ 0 by omega),Y0E]
    by_cases hc0:E x < 0
    ·rw [Zn hc0,cond_true,ZY (x:=-9223372036854775808 + E i) (by omega)]
     by_cases g1:E x < -9223372036854775808 + E i
     ·rw [Zn g1,cond_true];refine .inl ⟨?_,by omega⟩
      simp only [Y0,Jx.elim,hw]
     ·rw [Zr g1,cond_false];simp only [Y0,Jx.elim];rw [ZY (x:=E x - E i) (by omega)]
      by_cases g3:E x - E i > c
      ·rw [Zn g3,cond_true];exact .inr ⟨rfl,by omega⟩
      ·rw [Zr g3,cond_false];refine .inl ⟨?_,by omega⟩
       simp only [Y0,Jx.elim,hw]
    ·rw [Zr hc0,cond_false];simp only [Y0,Jx.elim];rw [ZY (x:=E x - E i) (by omega)]
     by_cases g3:E x - E i > c
     ·rw [Zn g3,cond_true];exact .inr ⟨rfl,by omega⟩
     ·rw [Zr g3,cond_false];refine .inl ⟨?_,by omega⟩
      simp only [Y0,Jx.elim,hw]
 ·unfold ZC.s1;rw [Zu,Yt,Zr (by omega),cond_false]
theorem Z6M {C:MF} {E:Nat→Int} (hn:n≤24) (hB:BdM n C 1125899906842624) (hE:∀ i,i < n→In64 (E i)) :
  (ZC (Mat n C) (vec n E) = some true∧leM n (tm E) C)∨(ZC (Mat n C) (vec n E) = some false∧¬ leM n (tm E) C):=by
 unfold ZC
 rw [Z3o hn hB,Y0,Zu,vec_len,Z4X rfl]
 simp only [Y0L,Bool.or_false,cond_false]
 have key:=Z2K (l:=List.range n) (step:=ZC.s0 (Mat n C) (vec n E)) (good:=fun _ i => ∀ j,j < n→ole (tm E i j) (C i j)) (yes:=.go ()) (no:=.ret false) ?_ ?_
 ·rcases key with ⟨h1,h2⟩ | ⟨h1,h2⟩
  ·rw [h1];exact .inl ⟨rfl,fun i j hi hj => h2 i i (by simp [hi]) j hj⟩
  ·rw [h1];refine .inr ⟨rfl,fun h => h2 fun k x hx j hj => ?_⟩
   obtain ⟨hk,rfl⟩:=Z1g hx
   exact h x j hk hj
 ·intro k x hx _;obtain ⟨hk,rfl⟩:=Z1g hx
  unfold ZC.s0;rw [Zu,Zn (by omega),cond_true]
  rcases holds24_s1 (i:=x) hn hk hB hE with ⟨h1,h2⟩ | ⟨h1,h2⟩
  ·rw [h1];refine .inl ⟨?_,h2⟩;simp only [Y0,Jx.elim];rw [ZY (by omega)]
  ·rw [h1];exact .inr ⟨rfl,h2⟩
 ·unfold ZC.s0;rw [Zu,Yt,Zr (by omega),cond_false]
theorem holds_alike {d:List (List Bound)} (hd:∀ row ∈ d,(row.length:Int) < 4611686018427387904) {t:List Int} (ok:∀ x ∈ t,In64 x):∃ b,ZI d t = some b∧ZC d t = some b:=by
 rcases Z3h d hd with ⟨e1,hR⟩ | ⟨e1,hR⟩
 ·by_cases hl:t.length = d.length
  ·obtain ⟨M,hM,hB⟩:=Z5w hR
   obtain ⟨E,rfl,hE⟩:=list_vec hl ok
   have hn:d.length≤24:=hR.1
   generalize d.length = m at hM hB hE hn;subst hM
   rcases holds_eq hn hB hE with ⟨h1,h2⟩ | ⟨h1,h2⟩
   ·rcases Z6M hn hB hE with ⟨h3,h4⟩ | ⟨h3,h4⟩
    ·exact ⟨_,h1,h3⟩
    ·exact absurd h2 h4
   ·rcases Z6M hn hB hE with ⟨h3,h4⟩ | ⟨h3,h4⟩
    ·exact absurd h4 h2
    ·exact ⟨_,h1,h3⟩
  ·refine ⟨false,?_,?_⟩
   ·unfold ZI;rw [e1,Y0,bne_t (by omega)]
    rfl
   ·unfold ZC
    rcases Z0d d with ⟨e2,_⟩ | ⟨_,h⟩
    ·rw [e2,Y0,bne_t (by omega)]
     rfl
    ·exact absurd hR h
 ·refine ⟨false,?_,?_⟩
  ·unfold ZI;rw [e1,Y0,Y0Y,Y0S,cond_true]
  ·unfold ZC
   rcases Z0d d with ⟨_,h⟩ | ⟨e2,_⟩
   ·exact absurd h hR
   ·rw [e2,Y0,Y0Y,Y0S,cond_true]
theorem set24_eq {M:MF} {i j:Nat} {v:Option Int} (hn:n≤24) (hi:i < n) (hj:j < n):ZU (Mat n M) (Mat n (setM M i j v)) ⟨(i:Int),(j:Int),bd v⟩ = some true:=by
 unfold ZU
 rw [Zu,Zu,Z4X rfl,cond_false]
 have inner:∀ a,a < n→loopO (ZU.s1 (Mat n M) (Mat n (setM M i j v)) ⟨(i:Int),(j:Int),bd v⟩ (a:Int)) 0 = some (.go ()):=fun a ha => by
  refine Z0Q (I:=fun s r => r = .go ()∧∃ b:Nat,s = (b:Int)∧b≤n) (fun s => n - s.toNat) ?_ ⟨rfl,0,rfl,Ya _⟩
  rintro _ r ⟨rfl,b,rfl,hb⟩;unfold ZU.s1;rw [Zu]
  by_cases hlt:b < n
  ·rw [Zn (by omega),cond_true]
   simp only [Z15 ha,Z0v hlt,Y0];have want:(bif (((((a:Int) == (i:Int)) && ((b:Int) == (j:Int))) && ((bd v).Inf == 0)) && (((bd (M a b)).Inf == 1) || (decide ((bd v).N < (bd (M a b)).N)))) then some ((bd v).Inf,(bd v).N) else some ((bd (M a b)).Inf,(bd (M a b)).N)) = some ((bd (setM M i j v a b)).Inf,(bd (setM M i j v a b)).N):=by
    unfold setM updM
    by_cases hab:a = i∧b = j
    ·obtain ⟨rfl,rfl⟩:=hab
     rw [Z3l rfl,Z3l rfl,if_pos ⟨rfl,rfl⟩];cases v with
     | none => cases M a b <;> rfl
     | some x =>
      cases hm:M a b with
      | none => rfl
      | some y =>
       by_cases hxy:x < y
       ·simp [bd,omin,hxy]
       ·simp [bd,omin,hxy]
    ·rw [if_neg hab];have:(((a:Int) == (i:Int)) && ((b:Int) == (j:Int))) = false:=by
      rw [Y0G]
      by_cases h1:a = i
      ·exact .inr (Z4U (by omega))
      ·exact .inl (Z4U (by omega))
     rw [this]
     rfl
   refine .inl ⟨((b + 1:Nat):Int),?_,⟨trivial,b + 1,rfl,hlt⟩,?_⟩
   ·rw [want];simp only [Y0,beq_self_eq_true,Yl,Y0L,cond_false,Jx.elim];rw [ZY (by omega)]
    push_cast
    rfl
   ·omega
  ·have:b = n:=by omega
   subst this;rw [Zr (by omega),cond_false]
   exact .inr rfl
 have key:loopO (ZU.s0 (Mat n M) (Mat n (setM M i j v)) ⟨(i:Int),(j:Int),bd v⟩) 0 = some (.go ()):=by
  refine Z0Q (I:=fun s r => r = .go ()∧∃ b:Nat,s = (b:Int)∧b≤n) (fun s => n - s.toNat) ?_ ⟨rfl,0,rfl,Ya _⟩
  rintro _ r ⟨rfl,b,rfl,hb⟩;unfold ZU.s0;rw [Zu]
  by_cases hlt:b < n
  ·rw [Zn (by omega),cond_true,Z15 hlt,Y0,Z12,Z4X rfl,cond_false,inner b hlt]
   refine .inl ⟨((b + 1:Nat):Int),?_,⟨rfl,b + 1,rfl,hlt⟩,?_⟩
   ·simp only [Y0,Jx.elim];rw [ZY (by omega)]
    push_cast
    rfl
   ·omega
  ·have:b = n:=by omega
   subst this;rw [Zr (by omega),cond_false]
   exact .inr rfl
 rw [key]
 rfl
theorem Z6j {C:MF} (hn:n≤24):ZG (Mat n C) (Mat n C) = some true:=by
 unfold ZG
 rw [Z4X rfl,cond_false]
 have inner:∀ a,a < n→loopO (ZG.s1 (Mat n C) (Mat n C) (a:Int)) 0 = some (.go ()):=fun a ha => by
  refine Z0Q (I:=fun s r => r = .go ()∧∃ b:Nat,s = (b:Int)∧b≤n) (fun s => n - s.toNat) ?_ ⟨rfl,0,rfl,Ya _⟩
  rintro _ r ⟨rfl,b,rfl,hb⟩;unfold ZG.s1;rw [Z15 ha,Y0,Z12]
  by_cases hlt:b < n
  ·rw [Zn (by omega),cond_true]
   simp only [Y0,Z0v hlt,beq_self_eq_true,Yl,Y0L,cond_false];refine .inl ⟨((b + 1:Nat):Int),?_,⟨trivial,b + 1,rfl,hlt⟩,?_⟩
   ·rw [ZY (by omega)]
    push_cast
    rfl
   ·omega
  ·have:b = n:=by omega
   subst this;rw [Zr (by omega),cond_false]
   exact .inr rfl
 have key:loopO (ZG.s0 (Mat n C) (Mat n C)) 0 = some (.go ()):=by
  refine Z0Q (I:=fun s r => r = .go ()∧∃ b:Nat,s = (b:Int)∧b≤n) (fun s => n - s.toNat) ?_ ⟨rfl,0,rfl,Ya _⟩
  rintro _ r ⟨rfl,b,rfl,hb⟩;unfold ZG.s0;rw [Zu]
  by_cases hlt:b < n
  ·rw [Zn (by omega),cond_true,Z15 hlt,Y0,Y0,Z4X rfl,cond_false,inner b hlt]
   refine .inl ⟨((b + 1:Nat):Int),?_,⟨rfl,b + 1,rfl,hlt⟩,?_⟩
   ·simp only [Y0,Jx.elim];rw [ZY (by omega)]
    push_cast
    rfl
   ·omega
  ·have:b = n:=by omega
   subst this;rw [Zr (by omega),cond_false]
   exact .inr rfl
 rw [key]
 rfl
end Go.Dn
