/- Part 5 of what the row stands on. -/
import Derived.Test.YtobglidemkpmaaaGreatM4
set_option linter.unusedVariables false
set_option linter.unusedSimpArgs false
namespace Go.Dn
open Go Go.Proofs
set_option maxRecDepth 100000
set_option maxHeartbeats 4000000
theorem stp_Close_fn {d:(List (List Bound))} {r:(List (List Bound)) × Bool × Int} (hne:CX.intr 55 [(vl (cL Bound.cs) d)] = none) (h:ZS d = some r):Fn CX 55 [(vl (cL Bound.cs) d)] (.tup [(vl (cL Bound.cs) r.1),(vb r.2.1),(vi r.2.2)]):=by
 refine Fn.ends Tryz.func55 V hne V V V V ?_;have H:Hs (⟨0,fun _ => .none⟩ : Heap) []:=Has.nil (YB _)
 generalize (⟨0,fun _ => .none⟩ : Heap) = σ at H ⊢
 unfold ZS at h;refine .tR 3 V H fun b1 σ H => (.a1 .nils V V (.aV V (.aV V (.nila H fun H => (.then (.tR 3 V H fun b2 σ H => (.mV V ?_)))))));obtain ⟨x1,q1,h⟩:=bs h;refine .cV (stp_Right_fn q1) V (.tV V (.nila H fun H => ?_));refine .wh h V ?_ ?_ <;> intro h
 ·refine .tR 3 V H fun b3 σ H => (.a1 .nils V V (.aV V (.aV V (.nila H fun H => (.ret ?_)))));obtain rfl:=sj h;exact (Ends.H (xs:=[.nils,(vb false),(vi 2)]) (.inr V) H (.tmp (v:=.nils) V (.tmp (v:=(vb false)) V (.tmp (v:=(vi 2)) V .nil))) (.two (.cons (.c .n) (.cons (.c (.v _)) (.cons (.c (.v _)) .nil)))))
 refine .skip (.tR 3 V H fun b4 σ H => (.mV V ?_));obtain ⟨x2,q2,h⟩:=bs h;refine .ZBt (ys:=[(vl (cL Bound.cs) d)]) H rfl (stp_own_fn q2) nofun rfl ?_;rintro _ _ σ ⟨id1,ids1,hMids1,hNids1,rfl,rfl⟩ H;replace H:Has σ _ _ (.blk id1 58 ids1 :: (famL 57 2 Bound.cs ids1 x2 ++ [])):=H;refine .aB V (.nila H fun H => (.then (.tR 3 V H fun b5 σ H => (.mB V (.lenM H 0 V hNids1 V V nofun V (.mV V (.nila H fun H => (.inBlock ?_))))))));obtain ⟨y1,hj1,h⟩:=bs h;obtain ⟨n1,hj1⟩:=ZW.1 hj1;refine .mono (Runs.loopO hj1 (fun s1 e σ => ∃ (ids4:List PV),ids4.length = s1.2.length∧ids4.length = d.length∧Z9 e [(5,(.buf id1 d.length 1)),(14,(vi ((d.length:Nat):Int))),(15,(vi s1.1))]∧Hs σ (.blk id1 58 ids4 :: (famL 57 2 Bound.cs ids4 s1.2 ++ []))) (fun y1 x e σ => (∃ a1,∃ (ids5:List PV),ids5.length = a1.length∧ids5.length = d.length∧y1 = (.go a1)∧x = .exit 0∧Z9 e [(5,(.buf id1 d.length 1))]∧Hs σ (.blk id1 58 ids5 :: (famL 57 2 Bound.cs ids5 a1 ++ [])))∨(∃ r',y1 = (.ret r')∧x = .ret∧Ends CX Tryz.f55.results.toList (.tup [(vl (cL Bound.cs) r'.1),(vb r'.2.1),(vi r'.2.2)]) x e σ)) ⟨ids1,hMids1,hNids1,EI V,H⟩ ?_) ?_
 ·intro s1 e σ hI z h;obtain ⟨ids4,hMids4,hNids4,he,H⟩:=hI;obtain ⟨e,rfl⟩:=he.ex;unfold ZS.s0 at h;refine .tR 1 V H fun b6 σ H => (.iV V (.nila H fun H => (.then ?_)));refine .wh h V ?_ ?_ <;> intro h
  ·refine .skip (.then (.inBlock (.tR 2 V H fun b7 σ H => (.mV V (.aV V (.nila H fun H => (.then (.tR 9 V H fun b8 σ H => ?_))))))));refine .mB V (.mV V ?_);obtain ⟨x3,q3,h⟩:=bs h;obtain ⟨v1,hv1,hr1⟩:=Z4u (rt:=57) (sz:=2) (c:=Bound.cs) hMids4 q3;refine .Z4C H 0 V hNids4 V V (at?_nn q3) (hNids4 ▸ Z3M hv1) V V nofun V ?_;refine .ld v1 H 0 V hNids4 V V hv1 nofun V (.mV V ?_);obtain ⟨x4,q4,h⟩:=bs h;refine .Z2J H (1 + (s1.1).toNat) (Z1G 1 V hr1) V V (at?_map q4) V V nofun V ?_;intro id2 hv2;refine .Z7t (id:=id2) H (1 + (s1.1).toNat) (Z1G 1 V hr1) hv2 (by simp) (at?_map q4) V V V V nofun V ?_;refine .bV [(.v (.int .i8 0)),(vi 0)] V (.cV (Z4c (V:Z0K x4 (Bound.mk 0 0) = _)) V (.nila H fun H => ?_));refine .wh h V ?_ ?_ <;> intro h
   ·refine .tR 3 V H fun b9 σ H => (.a1 .nils V V (.aV V (.aV V (.nila H fun H => (.ret ?_)))));obtain rfl:=sj h;exact ⟨nofun,(.inr ⟨_,V,V,(Ends.H (xs:=[.nils,(vb false),(vi 0)]) (.inr V) H (.tmp (v:=.nils) V (.tmp (v:=(vb false)) V (.tmp (v:=(vi 0)) V .nil))) (.two (.cons (.c .n) (.cons (.c (.v _)) (.cons (.c (.v _)) .nil)))))⟩)⟩
   refine .skip (.ZB 8 V H fun b10 σ H => (.mB V (.mV V ?_)));obtain ⟨x5,q5,h⟩:=bs h;obtain ⟨v2,hv3,hr2⟩:=Z4u (rt:=57) (sz:=2) (c:=Bound.cs) hMids4 q5;refine .Z4C H 0 V hNids4 V V (at?_nn q5) (hNids4 ▸ Z3M hv3) V V nofun V ?_;refine .ld v2 H 0 V hNids4 V V hv3 nofun V (.mV V (.bV [(.v (.int .i8 0)),(vi 0)] V ?_));obtain ⟨x6,q6,h⟩:=bs h;refine .Z2J H (1 + (s1.1).toNat) (Z1G 1 V hr2) V V (at?_map q6) V V nofun V ?_;intro id3 hv4;refine .Z9P (id:=id3) (j:=0) (zs:=[(.int .i8 0),(.int .i64 0)]) (u:=x6) (u':=(Bound.mk 0 0)) H (1 + (s1.1).toNat) (Z1G 1 V hr2) hv4 (by simp) q6 V (by simp) V V V V V V nofun fun σ H => ?_;have hMs1:ids4.length = (s1.2.set (s1.1).toNat (x5.set (s1.1).toNat (Bound.mk 0 0))).length:=hMids4.trans (Yt ..).symm;replace H:Has σ _ _ (.blk id1 58 ids4 :: (famL 57 2 Bound.cs ids4 (s1.2.set (s1.1).toNat (x5.set (s1.1).toNat (Bound.mk 0 0))) ++ [])):=H.famSet (k:=1) rfl hMids4 hv3;refine .nila H fun H => (.ZB 2 V H fun b11 σ H => (.iV V (.mV V (.nila H fun H => ?_))));obtain rfl:=sj h;exact ⟨V,ids4,hMs1,hNids4,EI V,H⟩
  refine .exit ?_;obtain rfl:=sj h;exact ⟨nofun,(.inl ⟨_,ids4,hMids4,hNids4,V,V,EI V,H⟩)⟩
 ·rintro x e σ (⟨a2,ids6,hMids6,hNids6,rfl,rfl,he,H⟩ | ⟨r',rfl,rfl,hE⟩)
  ·replace h:=jgo h;obtain ⟨e,rfl⟩:=he.ex;refine .then (.tR 3 V H fun b12 σ H => (.mB V (.lenM H 0 V hNids6 V V nofun V (.mV V (.nila H fun H => (.inBlock ?_))))));obtain ⟨y2,hj2,h⟩:=bs h;obtain ⟨n2,hj2⟩:=ZW.1 hj2;refine .mono (Runs.loopO hj2 (fun s2 e σ => ∃ (ids9:List PV),ids9.length = s2.2.length∧ids9.length = d.length∧Z9 e [(5,(.buf id1 d.length 1)),(36,(vi ((d.length:Nat):Int))),(37,(vi s2.1))]∧Hs σ (.blk id1 58 ids9 :: (famL 57 2 Bound.cs ids9 s2.2 ++ []))) (fun y2 x e σ => (∃ a3,∃ (ids10:List PV),ids10.length = a3.length∧ids10.length = d.length∧y2 = (.go a3)∧x = .exit 2∧Z9 e [(5,(.buf id1 d.length 1))]∧Hs σ (.blk id1 58 ids10 :: (famL 57 2 Bound.cs ids10 a3 ++ [])))∨(∃ r',y2 = (.ret r')∧x = .ret∧Ends CX Tryz.f55.results.toList (.tup [(vl (cL Bound.cs) r'.1),(vb r'.2.1),(vi r'.2.2)]) x e σ)) ⟨ids6,hMids6,hNids6,EI V,H⟩ ?_) ?_
   ·intro s2 e σ hI z h;obtain ⟨ids9,hMids9,hNids9,he,H⟩:=hI;obtain ⟨e,rfl⟩:=he.ex;unfold ZS.s1 at h;refine .tR 1 V H fun b13 σ H => (.iV V (.nila H fun H => (.then ?_)));refine .wh h V ?_ ?_ <;> intro h
    ·refine .skip (.then (.inBlock (.tR 2 V H fun b14 σ H => (.mV V (.aV V (.nila H fun H => (.tR 4 V H fun b15 σ H => (.mB V ?_))))))));refine .mV V ?_;obtain ⟨y3,hj3,h⟩:=bs h;refine .callI (PostA:=fun r A => ∃ (ids11:List PV),ids11.length = y3.2.length∧ids11.length = d.length∧r = (vb y3.1)∧A = (.blk id1 58 ids11 :: famL 57 2 Bound.cs ids11 y3.2)) (cv:=(.v (.fn 85))) (ys:=[(.buf id1 d.length 1),(vi s2.1)]) (L:=[]) (.blk id1 58 ids9 :: famL 57 2 Bound.cs ids9 s2.2) H V V (fun T1 hT H => Z7e Tryz.func85 V (fun _ => V) V V V V ?_) nofun V ?_
     ·replace h:=hj3;refine .tR 1 V H fun b16 σ H => (.aV V (.nila H fun H => (.then (.tR 3 V H fun b17 σ H => (.mB V (.lenM H 0 V hNids9 V V nofun V (.mV V (.nila H fun H => ?_))))))));refine .inBlock ?_;obtain ⟨y4,hj4,h⟩:=bs h;obtain ⟨n3,hj4⟩:=ZW.1 hj4;refine .mono (Runs.loopO hj4 (fun s3 e σ => ∃ (ids14:List PV),ids14.length = s3.2.length∧ids14.length = d.length∧Z9 e [(0,(.buf id1 d.length 1)),(1,(vi s2.1)),(11,(vi ((d.length:Nat):Int))),(12,(vi s3.1))]∧Hs σ (.blk id1 58 ids14 :: (famL 57 2 Bound.cs ids14 s3.2 ++ T1))) (fun y4 x e σ => ∃ (ids15:List PV),ids15.length = y4.length∧ids15.length = d.length∧x = .exit 0∧Z9 e [(0,(.buf id1 d.length 1))]∧Hs σ (.blk id1 58 ids15 :: (famL 57 2 Bound.cs ids15 y4 ++ T1))) ⟨ids9,hMids9,hNids9,EI V,H⟩ ?_) ?_
      ·intro s3 e σ hI z h;obtain ⟨ids14,hMids14,hNids14,he,H⟩:=hI;obtain ⟨e,rfl⟩:=he.ex;unfold ZS.s2 at h;refine .tR 1 V H fun b18 σ H => (.iV V (.nila H fun H => (.then ?_)));refine .wh h V ?_ ?_ <;> intro h
       ·refine .skip (.then (.inBlock (.tR 2 V H fun b19 σ H => (.mV V (.aV V (.nila H fun H => (.tR 3 V H fun b20 σ H => (.mB V ?_))))))));refine .lenM H 0 V hNids14 V V nofun V (.mV V (.nila H fun H => (.inBlock ?_)));obtain ⟨y5,hj5,h⟩:=bs h;obtain ⟨n4,hj5⟩:=ZW.1 hj5;refine .mono (Runs.loopO hj5 (fun s4 e σ => ∃ (ids18:List PV),ids18.length = s4.2.length∧ids18.length = d.length∧Z9 e [(0,(.buf id1 d.length 1)),(1,(vi s2.1)),(5,(vi s3.1)),(11,(vi ((d.length:Nat):Int))),(12,(vi s3.1)),(16,(vi ((d.length:Nat):Int))),(17,(vi s4.1))]∧Hs σ (.blk id1 58 ids18 :: (famL 57 2 Bound.cs ids18 s4.2 ++ T1))) (fun y5 x e σ => ∃ (ids19:List PV),ids19.length = y5.length∧ids19.length = d.length∧x = .exit 2∧Z9 e [(0,(.buf id1 d.length 1)),(1,(vi s2.1)),(11,(vi ((d.length:Nat):Int))),(12,(vi s3.1))]∧Hs σ (.blk id1 58 ids19 :: (famL 57 2 Bound.cs ids19 y5 ++ T1))) ⟨ids14,hMids14,hNids14,EI V,H⟩ ?_) ?_
        ·intro s4 e σ hI z h;obtain ⟨ids18,hMids18,hNids18,he,H⟩:=hI;obtain ⟨e,rfl⟩:=he.ex;unfold ZS.s3 at h;refine .tR 1 V H fun b21 σ H => (.iV V (.nila H fun H => (.then ?_)));refine .wh h V ?_ ?_ <;> intro h
         ·refine .skip (.then ?_);obtain ⟨y6,hj6,h⟩:=bs h;refine .mono (Q:=fun x e σ => ∃ (ids20:List PV),ids20.length = y6.length∧ids20.length = d.length∧x = .normal∧Z9 e [(0,(.buf id1 d.length 1)),(1,(vi s2.1)),(5,(vi s3.1)),(11,(vi ((d.length:Nat):Int))),(12,(vi s3.1)),(16,(vi ((d.length:Nat):Int))),(17,(vi s4.1))]∧Hs σ (.blk id1 58 ids20 :: (famL 57 2 Bound.cs ids20 y6 ++ T1))) ?_ ?_
          ·replace h:=hj6;refine .inBlock ?_;obtain ⟨y7,hj7,h⟩:=bs h;refine .mono (Q:=fun x e σ => ∃ (ids21:List PV),ids21.length = y7.length∧ids21.length = d.length∧x = .normal∧Z9 e [(0,(.buf id1 d.length 1)),(1,(vi s2.1)),(5,(vi s3.1)),(11,(vi ((d.length:Nat):Int))),(12,(vi s3.1)),(16,(vi ((d.length:Nat):Int))),(17,(vi s4.1))]∧Hs σ (.blk id1 58 ids21 :: (famL 57 2 Bound.cs ids21 y7 ++ T1))) ?_ ?_
           ·replace h:=hj7;refine .tR 2 V H fun b22 σ H => (.mV V (.aV V (.nila H fun H => (.then (.Z0h 21 V (by kernel_rfl) H fun b23 σ H B23 => (.mB V (.mV V ?_)))))));obtain ⟨x7,q7,h⟩:=bs h;obtain ⟨v3,hv5,hr3⟩:=Z4u (rt:=57) (sz:=2) (c:=Bound.cs) hMids18 q7;refine .Z4C H 0 V hNids18 V V (at?_nn q7) (hNids18 ▸ Z3M hv5) V V (fun _ => .inl ⟨B23 0 _ V _ V,nofun,(fun _ => by kernel_rfl)⟩) V ?_;refine .ld v3 H 0 V hNids18 V V hv5 (fun _ => .inl ⟨B23 0 _ V _ V,nofun,(fun _ => by kernel_rfl)⟩) V (.mV V ?_);obtain ⟨x8,q8,h⟩:=bs h;refine .Z2J H (1 + (s3.1).toNat) (Z1G 1 V hr3) V V (at?_map q8) V V (fun _ id ho => .inl ⟨B23 (1 + (s3.1).toNat) _ (Z1G 1 V hr3) id ho,nofun,(fun _ => by kernel_rfl)⟩) V ?_;intro id4 hv6;refine .Z7t (id:=id4) H (1 + (s3.1).toNat) (Z1G 1 V hr3) hv6 (by simp) (at?_map q8) V V V V (fun _ => .inl ⟨B23 (1 + (s3.1).toNat) _ (Z1G 1 V hr3) _ (by rw [(hv6:(v3:PV) = _)];rfl),nofun,(fun _ => by kernel_rfl)⟩) V ?_;refine .mB V (.mV V ?_);obtain ⟨x9,q9,h⟩:=bs h;obtain ⟨v4,hv7,hr4⟩:=Z4u (rt:=57) (sz:=2) (c:=Bound.cs) hMids18 q9;refine .Z4C H 0 V hNids18 V V (at?_nn q9) (hNids18 ▸ Z3M hv7) V V (fun _ => .inl ⟨B23 0 _ V _ V,nofun,(fun _ => by kernel_rfl)⟩) V ?_;refine .ld v4 H 0 V hNids18 V V hv7 (fun _ => .inl ⟨B23 0 _ V _ V,nofun,(fun _ => by kernel_rfl)⟩) V (.mV V ?_);obtain ⟨x10,q10,h⟩:=bs h;refine .Z2J H (1 + (s2.1).toNat) (Z1G 1 V hr4) V V (at?_map q10) V V (fun _ id ho => .inl ⟨B23 (1 + (s2.1).toNat) _ (Z1G 1 V hr4) id ho,nofun,(fun _ => by kernel_rfl)⟩) V ?_;intro id5 hv8
            refine .Z7t (id:=id5) H (1 + (s2.1).toNat) (Z1G 1 V hr4) hv8 (by simp) (at?_map q10) V V V V (fun _ => .inl ⟨B23 (1 + (s2.1).toNat) _ (Z1G 1 V hr4) _ (by rw [(hv8:(v4:PV) = _)];rfl),nofun,(fun _ => by kernel_rfl)⟩) V ?_;refine .cV (safe_Sum_fn (V:Z0I x8 x10 = _)) V (.m1 (.tup [(.agg [(.v (.int .i8 (Z0I x8 x10).1.Inf)),(vi (Z0I x8 x10).1.N)]),(vi (Z0I x8 x10).2)]) V V (.xV V (.xV V (.ZX (cs:=[(.v (.int .i8 0)),(vi 0)]) H (by omega) (by omega) V V fun σ H => (.Z3E (cells':=[(.v (.int .i8 (Z0I x8 x10).1.Inf)),(vi (Z0I x8 x10).1.N)]) H 0 V V V V V V V V V (fun _ => .inr ⟨18,V,by kernel_rfl,by decide⟩) fun σ H => (.aV V (.nila H fun H => (.then ?_))))))));refine .Z0h 13 V (by kernel_rfl) H fun b24 σ H B24 => (.mV V (.iV V (.mV V ?_)));obtain ⟨y8,hj8,h⟩:=bs h;refine .md H 10 [(50,(vb y8)),(0,(.buf id1 d.length 1)),(1,(vi s2.1)),(5,(vi s3.1)),(6,(vi s4.1)),(7,(.ptr (b23 + 18) 2 0)),(11,(vi ((d.length:Nat):Int))),(12,(vi s3.1)),(16,(vi ((d.length:Nat):Int))),(17,(vi s4.1))] (.blk (b23 + 18) 57 [(.v (.int .i8 (Z0I x8 x10).1.Inf)),(vi (Z0I x8 x10).1.N)] :: .blk id1 58 ids18 :: (famL 57 2 Bound.cs ids18 s4.2 ++ T1)) V ?_ fun e σ H => ?_
            ·refine .sp hj8 V ?_ ?_ <;> intro h
             ·refine .wt V V (.Z5B (cs:=[(.v (.int .i8 (Z0I x8 x10).1.Inf)),(vi (Z0I x8 x10).1.N)]) H 0 V V V V V V V (fun _ => .inl ⟨B24 0 _ V _ V,nofun,(fun _ => by kernel_rfl)⟩) V (.mB V (.mV V (.wt V V ?_))));obtain ⟨x11,q11,h⟩:=bs h;obtain ⟨v5,hv9,hr5⟩:=Z4u (rt:=57) (sz:=2) (c:=Bound.cs) hMids18 q11;refine .Z4C H 1 V hNids18 V V (at?_nn q11) (hNids18 ▸ Z3M hv9) V V (fun _ => .inl ⟨B24 1 _ V _ V,nofun,(fun _ => by kernel_rfl)⟩) V ?_;refine .wt V V (.ld v5 H 1 V hNids18 V V hv9 (fun _ => .inl ⟨B24 1 _ V _ V,nofun,(fun _ => by kernel_rfl)⟩) V (.mV V (.wt V V ?_)));obtain ⟨x12,q12,h⟩:=bs h;refine .Z2J H (2 + (s3.1).toNat) (Z1G 2 V hr5) V V (at?_map q12) V V (fun _ id ho => .inl ⟨B24 (2 + (s3.1).toNat) _ (Z1G 2 V hr5) id ho,nofun,(fun _ => by kernel_rfl)⟩) V ?_;intro id6 hv10;refine .wt V V ?_;refine .Z7t (id:=id6) H (2 + (s3.1).toNat) (Z1G 2 V hr5) hv10 (by simp) (at?_map q12) V V V V (fun _ => .inl ⟨B24 (2 + (s3.1).toNat) _ (Z1G 2 V hr5) _ (by rw [(hv10:(v5:PV) = _)];rfl),nofun,(fun _ => by kernel_rfl)⟩) V ?_;refine .cV (Z4c (V:Z0K ((Z0I x8 x10).1) x12 = _)) V (.kT V (.nil ?_));obtain rfl:=sj h;exact ⟨EI V,H.wk (by omega)⟩
             refine .ps 9 V (.kF V (.nil ?_));obtain rfl:=sj h;exact ⟨EI V,H.wk (by omega)⟩
            refine .nila H fun H => ?_;refine .wh h V ?_ ?_ <;> intro h
            ·refine .Z0h 8 V (by kernel_rfl) H fun b25 σ H B25 => (.mB V (.mV V ?_));obtain ⟨x13,q13,h⟩:=bs h;obtain ⟨v6,hv11,hr6⟩:=Z4u (rt:=57) (sz:=2) (c:=Bound.cs) hMids18 q13;refine .Z4C H 1 V hNids18 V V (at?_nn q13) (hNids18 ▸ Z3M hv11) V V (fun _ => .inl ⟨B25 1 _ V _ V,nofun,(fun _ => by kernel_rfl)⟩) V ?_;refine .ld v6 H 1 V hNids18 V V hv11 (fun _ => .inl ⟨B25 1 _ V _ V,nofun,(fun _ => by kernel_rfl)⟩) V (.mV V (.Z5B (cs:=[(.v (.int .i8 (Z0I x8 x10).1.Inf)),(vi (Z0I x8 x10).1.N)]) H 0 V V V V V V V (fun _ => .inl ⟨B25 0 _ V _ V,nofun,(fun _ => by kernel_rfl)⟩) V ?_));obtain ⟨x14,q14,h⟩:=bs h;refine .Z2J H (2 + (s3.1).toNat) (Z1G 2 V hr6) V V (at?_map q14) V V (fun _ id ho => .inl ⟨B25 (2 + (s3.1).toNat) _ (Z1G 2 V hr6) id ho,nofun,(fun _ => by kernel_rfl)⟩) V ?_;intro id7 hv12;refine .Z9P (id:=id7) (j:=0) (zs:=[(.int .i8 (Z0I x8 x10).1.Inf),(.int .i64 (Z0I x8 x10).1.N)]) (u:=x14) (u':=((Z0I x8 x10).1)) H (2 + (s3.1).toNat) (Z1G 2 V hr6) hv12 (by simp) q14 V (by simp) V V V V V V (fun _ => .inl ⟨B25 (2 + (s3.1).toNat) _ (Z1G 2 V hr6) _ (by rw [(hv12:(v6:PV) = _)];rfl),(fun _ => by kernel_rfl),nofun⟩) fun σ H => ?_;have hMs2:ids18.length = (s4.2.set (s3.1).toNat (x13.set (s4.1).toNat ((Z0I x8 x10).1))).length:=hMids18.trans (Yt ..).symm;replace H:Has σ _ _ (.blk (b23 + 18) 57 [(.v (.int .i8 (Z0I x8 x10).1.Inf)),(vi (Z0I x8 x10).1.N)] :: .blk id1 58 ids18 :: (famL 57 2 Bound.cs ids18 (s4.2.set (s3.1).toNat (x13.set (s4.1).toNat ((Z0I x8 x10).1))) ++ T1)):=H.famSet (k:=2) rfl hMids18 hv11
             refine .nila H fun H => ?_;obtain rfl:=sj h;exact ⟨ids18,hMs2,hNids18,V,EI V,(H.erase 0)⟩
            refine .skip ?_;obtain rfl:=sj h;exact ⟨ids18,hMids18,hNids18,V,EI V,(H.erase 0)⟩
           ·rintro x e σ ⟨ids22,hMids22,hNids22,rfl,he,H⟩;obtain ⟨e,rfl⟩:=he.ex;obtain rfl:=sj h;exact ⟨ids22,hMids22,hNids22,V,EI V,H⟩
          ·rintro x e σ ⟨ids23,hMids23,hNids23,rfl,he,H⟩;obtain ⟨e,rfl⟩:=he.ex;refine .ZB 2 V H fun b26 σ H => (.iV V (.mV V (.nila H fun H => ?_)));obtain rfl:=sj h;exact ⟨V,ids23,hMids23,hNids23,EI V,H⟩
         refine .exit ?_;obtain rfl:=sj h;exact ⟨nofun,⟨ids18,hMids18,hNids18,V,EI V,H⟩⟩
        ·rintro x e σ ⟨ids24,hMids24,hNids24,rfl,he,H⟩;obtain ⟨e,rfl⟩:=he.ex;refine .ZB 2 V H fun b27 σ H => (.iV V (.mV V (.nila H fun H => ?_)));obtain rfl:=sj h;exact ⟨V,ids24,hMids24,hNids24,EI V,H⟩
       refine .exit ?_;obtain rfl:=sj h;exact ⟨nofun,⟨ids14,hMids14,hNids14,V,EI V,H⟩⟩
      ·rintro x e σ ⟨ids25,hMids25,hNids25,rfl,he,H⟩;obtain ⟨e,rfl⟩:=he.ex;refine .then (.tR 3 V H fun b28 σ H => (.mB V (.lenM H 0 V hNids25 V V nofun V (.mV V (.nila H fun H => (.inBlock ?_))))));obtain ⟨y9,hj9,h⟩:=bs h;obtain ⟨n5,hj9⟩:=ZW.1 hj9;refine .mono (Runs.loopO hj9 (fun s5 e σ => Z9 e [(0,(.buf id1 d.length 1)),(61,(vi ((d.length:Nat):Int))),(62,(vi s5))]∧Hs σ (.blk id1 58 ids25 :: (famL 57 2 Bound.cs ids25 y4 ++ T1))) (fun y9 x e σ => (∃ a4,y9 = (.go a4)∧x = .exit 4∧Z9 e []∧Hs σ (.blk id1 58 ids25 :: (famL 57 2 Bound.cs ids25 y4 ++ T1)))∨(∃ a5,y9 = (.ret a5)∧x = .ret∧Z9 e [(4,(vb false))]∧Hs σ (.blk id1 58 ids25 :: (famL 57 2 Bound.cs ids25 y4 ++ T1)))) ⟨EI V,H⟩ ?_) ?_
       ·intro s5 e σ hI z h;obtain ⟨he,H⟩:=hI;obtain ⟨e,rfl⟩:=he.ex;unfold ZS.s4 at h;refine .tR 1 V H fun b29 σ H => (.iV V (.nila H fun H => (.then ?_)));refine .wh h V ?_ ?_ <;> intro h
        ·refine .skip (.then (.inBlock (.tR 2 V H fun b30 σ H => (.mV V (.aV V (.nila H fun H => (.tR 9 V H fun b31 σ H => (.mB V ?_))))))));refine .mV V ?_;obtain ⟨x15,q15,h⟩:=bs h;obtain ⟨v7,hv13,hr7⟩:=Z4u (rt:=57) (sz:=2) (c:=Bound.cs) hMids25 q15;refine .Z4C H 0 V hNids25 V V (at?_nn q15) (hNids25 ▸ Z3M hv13) V V nofun V ?_;refine .ld v7 H 0 V hNids25 V V hv13 nofun V (.mV V ?_);obtain ⟨x16,q16,h⟩:=bs h;refine .Z2J H (1 + (s5).toNat) (Z1G 1 V hr7) V V (at?_map q16) V V nofun V ?_;intro id8 hv14;refine .Z7t (id:=id8) H (1 + (s5).toNat) (Z1G 1 V hr7) hv14 (by simp) (at?_map q16) V V V V nofun V ?_;refine .bV [(.v (.int .i8 0)),(vi 0)] V (.cV (Z4c (V:Z0K x16 (Bound.mk 0 0) = _)) V (.nila H fun H => ?_));refine .wh h V ?_ ?_ <;> intro h
         ·refine .tR 1 V H fun b32 σ H => (.aV V (.nila H fun H => (.ret ?_)));obtain rfl:=sj h;exact ⟨nofun,(.inr ⟨_,V,V,EI V,H⟩)⟩
         refine .skip (.ZB 2 V H fun b33 σ H => (.iV V (.mV V (.nila H fun H => ?_))));obtain rfl:=sj h;exact ⟨V,EI V,H⟩
        refine .exit ?_;obtain rfl:=sj h;exact ⟨nofun,(.inl ⟨_,V,V,U,H⟩)⟩
       ·rintro x e σ (⟨a6,rfl,rfl,he,H⟩ | ⟨a7,rfl,rfl,he,H⟩)
        ·replace h:=jgo h;obtain ⟨e,rfl⟩:=he.ex;refine .tR 1 V H fun b34 σ H => (.aV V (.nila H fun H => (.ret ?_)));obtain rfl:=sj h;exact ⟨.inr V,_,Z2H H (.tmp (v:=(vb true)) V .nil),_,⟨ids25,hMids25,hNids25,V,V⟩,H⟩
        ·replace h:=jret h;obtain ⟨e,rfl⟩:=he.ex;obtain rfl:=sj h;exact ⟨.inr V,_,Z2H H (.tmp (v:=(vb false)) V .nil),_,⟨ids25,hMids25,hNids25,V,V⟩,H⟩
     ·rintro _ _ σ ⟨ids11,hMids11,hNids11,rfl,rfl⟩ H;refine .tV V (.nila H fun H => ?_);refine .wh h V ?_ ?_ <;> intro h
      ·refine .tR 3 V H fun b35 σ H => (.a1 .nils V V (.aV V (.aV V (.nila H fun H => (.ret ?_)))));obtain rfl:=sj h;exact ⟨nofun,(.inr ⟨_,V,V,(Ends.H (xs:=[.nils,(vb false),(vi 0)]) (.inr V) H (.tmp (v:=.nils) V (.tmp (v:=(vb false)) V (.tmp (v:=(vi 0)) V .nil))) (.two (.cons (.c .n) (.cons (.c (.v _)) (.cons (.c (.v _)) .nil)))))⟩)⟩
      refine .skip (.ZB 2 V H fun b36 σ H => (.iV V (.mV V (.nila H fun H => ?_))));obtain rfl:=sj h;exact ⟨V,ids11,hMids11,hNids11,EI V,H⟩
    refine .exit ?_;obtain rfl:=sj h;exact ⟨nofun,(.inl ⟨_,ids9,hMids9,hNids9,V,V,EI V,H⟩)⟩
   ·rintro x e σ (⟨a8,ids26,hMids26,hNids26,rfl,rfl,he,H⟩ | ⟨r',rfl,rfl,hE⟩)
    ·replace h:=jgo h;obtain ⟨e,rfl⟩:=he.ex;refine .tR 4 V H fun b37 σ H => (.mB V (.aB V (.aV V (.aV V (.nila H fun H => (.ret ?_))))));obtain rfl:=sj h;exact (Ends.M (c:=Bound.cs) (T:=[]) (.inr V) H 0 V V hMids26 hNids26 (Z2H H (.tmp (v:=(.buf id1 d.length 1)) V (.tmp (v:=(vb true)) V (.tmp (v:=(vi 0)) V .nil)))) V V)
    ·replace h:=jret h;obtain rfl:=sj h;exact hE
  ·replace h:=jret h;obtain rfl:=sj h;exact hE
theorem stp_CloseE_fn {d:(List (List Bound))} {r:(List (List Bound)) × Bool × Int} (h:Z48 d = some r):Fn CX 55 [(vl (cL Bound.cs) d)] (.tup [(vl (cL Bound.cs) r.1),(vb r.2.1),(vi r.2.2)]):=by
 cases d with
 | nil => cases Option.some.inj h;exact Fn.intr rfl rfl rfl rfl
 | cons a0 d0 => exact stp_Close_fn rfl h
theorem Z7M {s:(List Con)} {r:(List Con)} (h:Z0i s = some r):FnO CX 57 [(vl Con.cs s)] (fun q A => ∃ (w2:PV),w2 = q∧A = [.sl w2 42 7 (r.map Con.cs) true]):=by
 refine FnO.of Tryz.func57 rfl (by cases s with | nil => simp [Z0i,some?] at h | cons _ _ => rfl) rfl rfl rfl rfl ?_;intro σ T H;unfold Z0i at h;refine .tR 1 V H fun b1 σ H => (.a1 .nils V V (.nila H fun H => (.then (.tR 2 V H fun b2 σ H => (.mV V ?_)))));obtain ⟨u1,q1,h⟩:=bs h;refine .isNilV (c:=Con.cs) q1 V V V V (.nila H fun H => (.no V (.skip (.tR 4 V H fun b3 σ H => (.Z3S (sz:=7) ([].map Con.cs) H (by omega) (by omega) V V V V V V V V V fun σ H => (.mV V ?_))))));obtain ⟨x1,q2,h⟩:=bs h;refine .ZBA (c:=Con.cs) (w:=(vl Con.cs s)) (xs:=[]) (ys:=s) H (by omega) (by omega) 0 V V V (.m (fun _ => V)) q2 V V V V V nofun V fun σ H => (.aB V (.nila H fun H => (.ret ?_)));obtain rfl:=sj h;exact ⟨.inr V,_,Z2H H (.tmp (v:=(.buf (b3 + 0) x1.length 7)) V .nil),_,⟨(.buf (b3 + 0) x1.length 7),V,V⟩,H⟩
theorem cloneNil57 {l:(List Con)} (h:l.isEmpty = true):FnO CX 57 [(vl Con.cs l)] (fun q A => q = (vl Con.cs l)∧A = []):=by
 cases l with
 | nil => exact FnO.intr rfl rfl
 | cons a l => cases h
theorem size_Up_fn {f:Form} {d:Int} {r:Int × Bool × Int} (h:Z86 f d = some r):Fn CX 47 [(.agg (vs (Form.cs f))),(vi d)] (.tup [(vi r.1),(vb r.2.1),(vi r.2.2)]):=by
 refine Fn.go Tryz.func47 V fun σ H => ?_;unfold Z86 at h;refine .tR 4 V H fun b1 σ H => (.boxH (cs:=(vF f)) H (by omega) (by omega) V V V fun σ H => (.aV V (.aV V (.aV V (.nila H fun H => (.tR 9 V H fun b2 σ H => (.LV (vF f) H 0 V (.mV V ?_))))))));obtain ⟨x1,q1,h⟩:=bs h;refine .cV (ZCM q1) V (.xV V (.xV V (.xV V (.aV V (.aV V (.aV V (.nila H fun H => (.ret ?_))))))));obtain rfl:=sj h;exact Ends.eR V
theorem ZDI {f:Form} {low:Bound} {high:Bound} {r:Range × Bool × Int} (h:Z0g f low high = some r):Fn CX 21 [(.agg (vs (Form.cs f))),(.agg (vs (Bound.cs low))),(.agg (vs (Bound.cs high)))] (.tup [(.agg (vs (Range.cs r.1))),(vb r.2.1),(vi r.2.2)]):=by
 refine Fn.go Tryz.func21 V fun σ H => ?_;unfold Z0g at h;refine .tR 6 V H fun b1 σ H => (.boxH (cs:=(vF f)) H (by omega) (by omega) V V V fun σ H => (.boxH (cs:=[(.v (.int .i8 low.Inf)),(vi low.N)]) H (by omega) (by omega) V V V fun σ H => (.boxH (cs:=[(.v (.int .i8 high.Inf)),(vi high.N)]) H (by omega) (by omega) V V V fun σ H => (.ZX (cs:=[(vi 0),(vi 0),(vb false),(vb false)]) H (by omega) (by omega) V V fun σ H => (.aV V (.aV V (.nila H fun H => (.then ?_))))))));refine .tR 18 V H fun b2 σ H => (.LV [(.v (.int .i8 low.Inf)),(vi low.N)] H 2 V (.cV (Z20 (V:ZF low = _)) V (.tV V (.mV V ?_))));refine .md H 4 [(23,(vb ((!(ZF low)) || (!(ZF high))))),(3,(.ptr (b1 + 0) 4 0)),(4,(.ptr (b1 + 1) 2 0)),(5,(.ptr (b1 + 2) 2 0)),(6,(.ptr (b1 + 3) 4 0))] [.blk (b1 + 3) 27 [(vi 0),(vi 0),(vb false),(vb false)],.blk (b1 + 2) 57 [(.v (.int .i8 high.Inf)),(vi high.N)],.blk (b1 + 1) 57 [(.v (.int .i8 low.Inf)),(vi low.N)],.blk (b1 + 0) 64 (vF f)] rfl ?_ fun e σ H => ?_
 ·refine .split V V ?_ ?_ <;> intro hc1
  ·refine .ps 3 V (.kT V (.nil ?_));exact ⟨⟨or_T hc1,V,V,V,V,U⟩,H.wk (by omega)⟩
  ·refine .LV [(.v (.int .i8 high.Inf)),(vi high.N)] H 1 V (.cV (Z20 (V:ZF high = _)) V (.tV V (.kF V (.nil ?_))));exact ⟨⟨or_F hc1,V,V,V,V,U⟩,H.wk (by omega)⟩
 refine .mV V ?_;refine .md H 4 [(28,(vb (((!(ZF low)) || (!(ZF high))) || (low.Inf == 1)))),(3,(.ptr (b1 + 0) 4 0)),(4,(.ptr (b1 + 1) 2 0)),(5,(.ptr (b1 + 2) 2 0)),(6,(.ptr (b1 + 3) 4 0))] [.blk (b1 + 3) 27 [(vi 0),(vi 0),(vb false),(vb false)],.blk (b1 + 2) 57 [(.v (.int .i8 high.Inf)),(vi high.N)],.blk (b1 + 1) 57 [(.v (.int .i8 low.Inf)),(vi low.N)],.blk (b1 + 0) 64 (vF f)] rfl ?_ fun e σ H => ?_
 ·refine .split V V ?_ ?_ <;> intro hc2
  ·refine .ps 3 V (.kT V (.nil ?_));exact ⟨⟨or_T hc2,V,V,V,V,U⟩,H.wk (by omega)⟩
  ·refine .fV H 2 V (.lV H 2 V (.iV V (.kF V (.nil ?_))));exact ⟨⟨or_F hc2,V,V,V,V,U⟩,H.wk (by omega)⟩
 refine .mV V ?_;refine .md H 4 [(33,(vb ((((!(ZF low)) || (!(ZF high))) || (low.Inf == 1)) || (high.Inf == (-1))))),(3,(.ptr (b1 + 0) 4 0)),(4,(.ptr (b1 + 1) 2 0)),(5,(.ptr (b1 + 2) 2 0)),(6,(.ptr (b1 + 3) 4 0))] [.blk (b1 + 3) 27 [(vi 0),(vi 0),(vb false),(vb false)],.blk (b1 + 2) 57 [(.v (.int .i8 high.Inf)),(vi high.N)],.blk (b1 + 1) 57 [(.v (.int .i8 low.Inf)),(vi low.N)],.blk (b1 + 0) 64 (vF f)] rfl ?_ fun e σ H => ?_
 ·refine .split V V ?_ ?_ <;> intro hc3
  ·refine .ps 3 V (.kT V (.nil ?_));exact ⟨⟨or_T hc3,V,V,V,V,U⟩,H.wk (by omega)⟩
  ·refine .fV H 1 V (.lV H 1 V (.iV V (.kF V (.nil ?_))));exact ⟨⟨or_F hc3,V,V,V,V,U⟩,H.wk (by omega)⟩
 refine .nila H fun H => ?_;refine .wh h V ?_ ?_ <;> intro h
 ·refine .tR 4 V H fun b3 σ H => (.bV [(vi 0),(vi 0),(vb false),(vb false)] V (.sV [(vi 0),(vi 0),(vb false),(vb false)] H 0 V fun σ H => (.aV V (.aV V (.nila H fun H => (.ret ?_))))));obtain rfl:=sj h;exact (Ends.H (xs:=[(.agg [(vi 0),(vi 0),(vb false),(vb false)]),(vb false),(vi 2)]) (.inr V) H (.agg (cs:=[(vi 0),(vi 0),(vb false),(vb false)]) 0 V V V V V V V (.tmp (v:=(vb false)) V (.tmp (v:=(vi 2)) V .nil))) (.two (.cons (.p V) (.cons (.c (.v _)) (.cons (.c (.v _)) .nil)))))
 refine .skip (.tR 1 V H fun b4 σ H => (.ZX (cs:=[(vi 0),(vi 0),(vb false),(vb false)]) H (by omega) (by omega) V V fun σ H => (.nila H fun H => (.then ?_))));obtain ⟨y1,hj1,h⟩:=bs h;refine .mono (Q:=fun x e σ => (∃ a1,y1 = (.go a1)∧x = .normal∧Z9 e [(3,(.ptr (b1 + 0) 4 0)),(4,(.ptr (b1 + 1) 2 0)),(6,(.ptr (b1 + 3) 4 0)),(9,(.ptr (b4 + 0) 4 0))]∧Hs σ [.blk (b4 + 0) 27 [(vi 0),(vi a1.1),(vb false),(vb a1.2)],.blk (b1 + 3) 27 [(vi 0),(vi 0),(vb false),(vb false)],.blk (b1 + 1) 57 [(.v (.int .i8 low.Inf)),(vi low.N)],.blk (b1 + 0) 64 (vF f)])∨(∃ r',y1 = (.ret r')∧x = .ret∧Ends CX Tryz.f21.results.toList (.tup [(.agg (vs (Range.cs r'.1))),(vb r'.2.1),(vi r'.2.2)]) x e σ)) ?_ ?_
 ·replace h:=hj1;refine .tR 8 V H fun b5 σ H => (.fV H 2 V (.lV H 2 V (.iV V (.mV V ?_))));refine .md H 4 [(42,(vb ((high.Inf == 0) && (decide (high.N≤1099511627776))))),(3,(.ptr (b1 + 0) 4 0)),(4,(.ptr (b1 + 1) 2 0)),(5,(.ptr (b1 + 2) 2 0)),(6,(.ptr (b1 + 3) 4 0)),(9,(.ptr (b4 + 0) 4 0))] [.blk (b4 + 0) 27 [(vi 0),(vi 0),(vb false),(vb false)],.blk (b1 + 3) 27 [(vi 0),(vi 0),(vb false),(vb false)],.blk (b1 + 2) 57 [(.v (.int .i8 high.Inf)),(vi high.N)],.blk (b1 + 1) 57 [(.v (.int .i8 low.Inf)),(vi low.N)],.blk (b1 + 0) 64 (vF f)] V ?_ fun e σ H => ?_
  ·refine .split V V ?_ ?_ <;> intro hc5
   ·refine .fV H 2 V (.lV H 2 V (.iV V (.kT V (.nil ?_))));exact ⟨⟨Z0q hc5,V,V,V,V,V,U⟩,H.wk (by omega)⟩
   ·refine .ps 3 V (.kF V (.nil ?_));exact ⟨⟨Z0p hc5,V,V,V,V,V,U⟩,H.wk (by omega)⟩
  refine .nila H fun H => ?_;refine .wh h V ?_ ?_ <;> intro h
  ·refine .tR 12 V H fun b6 σ H => (.LV (vF f) H 4 V (.fV H 2 V (.lV H 2 V (.max2 V V V ?_))));obtain ⟨x1,q1,h⟩:=bs h;refine .cV (ZAy q1) V (.m1 (.tup [(vi x1.1),(vb x1.2.1),(vi x1.2.2)]) V V (.xV V (.xV V (.xV V (.aV V (.aV V (.aV V (.nila H fun H => ?_))))))));refine .then (.tR 2 V H fun b7 σ H => (.mV V (.tV V (.nila H fun H => ?_))));refine .wh h V ?_ ?_ <;> intro h
   ·refine .tR 4 V H fun b8 σ H => (.bV [(vi 0),(vi 0),(vb false),(vb false)] V (.sV [(vi 0),(vi 0),(vb false),(vb false)] H 1 V fun σ H => (.aV V (.aV V (.nila H fun H => (.ret ?_))))));obtain rfl:=sj h;exact (.inr ⟨_,V,V,(Ends.H (xs:=[(.agg [(vi 0),(vi 0),(vb false),(vb false)]),(vb false),(vi 0)]) (.inr V) H (.agg (cs:=[(vi 0),(vi 0),(vb false),(vb false)]) 1 V V V V V V V (.tmp (v:=(vb false)) V (.tmp (v:=(vi 0)) V .nil))) (.two (.cons (.p V) (.cons (.c (.v _)) (.cons (.c (.v _)) .nil)))))⟩)
   refine .skip (.ZB 5 V H fun b9 σ H => (.mV V (.fV H 0 V (.sV [(vi 0),(vi x1.1),(vb false),(vb false)] H 0 V fun σ H => (.fV H 0 V (.sV [(vi 0),(vi x1.1),(vb false),(vb true)] H 0 V fun σ H => (.nila H fun H => ?_)))))));obtain rfl:=sj h;exact (.inl ⟨_,V,V,EI V,(H.erase 2)⟩)
  refine .skip ?_;obtain rfl:=sj h;exact (.inl ⟨_,V,V,EI V,(H.erase 2)⟩)
 ·rintro x e σ (⟨a2,rfl,rfl,he,H⟩ | ⟨r',rfl,rfl,hE⟩)
  ·replace h:=jgo h;obtain ⟨e,rfl⟩:=he.ex;refine .then ?_;obtain ⟨y2,hj2,h⟩:=bs h;refine .mono (Q:=fun x e σ => (∃ a3,y2 = (.go a3)∧x = .normal∧Z9 e [(6,(.ptr (b1 + 3) 4 0)),(9,(.ptr (b4 + 0) 4 0))]∧Hs σ [.blk (b4 + 0) 27 [(vi a3.1),(vi a2.1),(vb a3.2),(vb a2.2)],.blk (b1 + 3) 27 [(vi 0),(vi 0),(vb false),(vb false)]])∨(∃ r',y2 = (.ret r')∧x = .ret∧Ends CX Tryz.f21.results.toList (.tup [(.agg (vs (Range.cs r'.1))),(vb r'.2.1),(vi r'.2.2)]) x e σ)) ?_ ?_
   ·replace h:=hj2;refine .tR 8 V H fun b10 σ H => (.fV H 2 V (.lV H 2 V (.iV V (.mV V ?_))));refine .md H 4 [(65,(vb ((low.Inf == 0) && (decide (low.N ≥ (-1099511627776)))))),(3,(.ptr (b1 + 0) 4 0)),(4,(.ptr (b1 + 1) 2 0)),(6,(.ptr (b1 + 3) 4 0)),(9,(.ptr (b4 + 0) 4 0))] [.blk (b4 + 0) 27 [(vi 0),(vi a2.1),(vb false),(vb a2.2)],.blk (b1 + 3) 27 [(vi 0),(vi 0),(vb false),(vb false)],.blk (b1 + 1) 57 [(.v (.int .i8 low.Inf)),(vi low.N)],.blk (b1 + 0) 64 (vF f)] V ?_ fun e σ H => ?_
    ·refine .split V V ?_ ?_ <;> intro hc8
     ·refine .fV H 2 V (.lV H 2 V (.iV V (.kT V (.nil ?_))));exact ⟨⟨Z0q hc8,V,V,V,V,U⟩,H.wk (by omega)⟩
     ·refine .ps 3 V (.kF V (.nil ?_));exact ⟨⟨Z0p hc8,V,V,V,V,U⟩,H.wk (by omega)⟩
    refine .nila H fun H => ?_;refine .wh h V ?_ ?_ <;> intro h
    ·refine .tR 12 V H fun b11 σ H => (.LV (vF f) H 3 V (.fV H 2 V (.lV H 2 V (.min2 V V V ?_))));obtain ⟨x2,q2,h⟩:=bs h;refine .cV (size_Up_fn q2) V (.m1 (.tup [(vi x2.1),(vb x2.2.1),(vi x2.2.2)]) V V (.xV V (.xV V (.xV V (.aV V (.aV V (.aV V (.nila H fun H => ?_))))))));refine .then (.tR 2 V H fun b12 σ H => (.mV V (.tV V (.nila H fun H => ?_))));refine .wh h V ?_ ?_ <;> intro h
     ·refine .tR 4 V H fun b13 σ H => (.bV [(vi 0),(vi 0),(vb false),(vb false)] V (.sV [(vi 0),(vi 0),(vb false),(vb false)] H 1 V fun σ H => (.aV V (.aV V (.nila H fun H => (.ret ?_))))));obtain rfl:=sj h;exact (.inr ⟨_,V,V,(Ends.H (xs:=[(.agg [(vi 0),(vi 0),(vb false),(vb false)]),(vb false),(vi 0)]) (.inr V) H (.agg (cs:=[(vi 0),(vi 0),(vb false),(vb false)]) 1 V V V V V V V (.tmp (v:=(vb false)) V (.tmp (v:=(vi 0)) V .nil))) (.two (.cons (.p V) (.cons (.c (.v _)) (.cons (.c (.v _)) .nil)))))⟩)
     refine .skip (.ZB 5 V H fun b14 σ H => (.mV V (.fV H 0 V (.sV [(vi x2.1),(vi a2.1),(vb false),(vb a2.2)] H 0 V fun σ H => (.fV H 0 V (.sV [(vi x2.1),(vi a2.1),(vb true),(vb a2.2)] H 0 V fun σ H => (.nila H fun H => ?_)))))));obtain rfl:=sj h;exact (.inl ⟨_,V,V,EI V,((H.erase 3).erase 2)⟩)
    refine .skip ?_;obtain rfl:=sj h;exact (.inl ⟨_,V,V,EI V,((H.erase 3).erase 2)⟩)
   ·rintro x e σ (⟨a4,rfl,rfl,he,H⟩ | ⟨r',rfl,rfl,hE⟩)
    ·replace h:=jgo h;obtain ⟨e,rfl⟩:=he.ex;refine .tR 4 V H fun b15 σ H => (.LV [(vi a4.1),(vi a2.1),(vb a4.2),(vb a2.2)] H 0 V (.sV [(vi a4.1),(vi a2.1),(vb a4.2),(vb a2.2)] H 1 V fun σ H => (.aV V (.aV V (.nila H fun H => (.ret ?_))))));obtain rfl:=sj h;exact (Ends.H (xs:=[(.agg [(vi a4.1),(vi a2.1),(vb a4.2),(vb a2.2)]),(vb true),(vi 0)]) (.inr V) H (.agg (cs:=[(vi a4.1),(vi a2.1),(vb a4.2),(vb a2.2)]) 1 V V V V V V V (.tmp (v:=(vb true)) V (.tmp (v:=(vi 0)) V .nil))) (.two (.cons (.p V) (.cons (.c (.v _)) (.cons (.c (.v _)) .nil)))))
    ·replace h:=jret h;obtain rfl:=sj h;exact hE
  ·replace h:=jret h;obtain rfl:=sj h;exact hE
theorem prop_back_fn {n:Net} {c:Con} {d:(List (List Bound))} {r:Range × Bool} (h:Z4P n c d = some r):Fn CX 58 [(.agg (vs (Net.cs n))),(.agg (vs (Con.cs c))),(vl (cL Bound.cs) d)] (.tup [(.agg (vs (Range.cs r.1))),(vb r.2)]):=by
 refine Fn.go Tryz.func58 V fun σ H => ?_;unfold Z4P at h;refine .tR 4 V H fun b1 σ H => (.boxH (cs:=[(vi n.Vars),(vl Form.cs n.Forms),(vl Con.cs n.Cons)]) H (by omega) (by omega) V V V fun σ H => (.boxH (cs:=[(vi c.X),(vi c.Y),(vi c.Form),(vi c.Range.Low),(vi c.Range.High),(vb c.Range.HasLow),(vb c.Range.HasHigh)]) H (by omega) (by omega) V V V fun σ H => (.ZX (cs:=[(vi 0),(vi 0),(vb false),(vb false)]) H (by omega) (by omega) V V fun σ H => (.aV V (.nila H fun H => (.then (.Z0h 16 V (by kernel_rfl) H fun b2 σ H B2 => (.mV V ?_))))))));refine .Z3 H 1 V V V V V (fun _ => .inl ⟨B2 1 _ V _ V,nofun,(fun _ => by kernel_rfl)⟩) V (.ld (vi c.Y) H 1 V V V V V (fun _ => .inl ⟨B2 1 _ V _ V,nofun,(fun _ => by kernel_rfl)⟩) V ?_);obtain ⟨x1,q1,h⟩:=bs h;refine .jV q1 V (.pV V (.Z3 H 1 V V V V V (fun _ => .inl ⟨B2 1 _ V _ V,nofun,(fun _ => by kernel_rfl)⟩) V (.ld (vi c.X) H 1 V V V V V (fun _ => .inl ⟨B2 1 _ V _ V,nofun,(fun _ => by kernel_rfl)⟩) V ?_)));obtain ⟨x2,q2,h⟩:=bs h;refine .jV q2 V (.qV [(.int .i8 x2.Inf),(.int .i64 x2.N)] V (.cV (Z75 (V:Z5 x2 = _)) V (.m1 (.tup [(.agg [(.v (.int .i8 (Z5 x2).1.Inf)),(vi (Z5 x2).1.N)]),(vi (Z5 x2).2)]) V V (.xV V (.xV V (.ZX (cs:=[(.v (.int .i8 0)),(vi 0)]) H (by omega) (by omega) V V fun σ H => (.Z3E (cells':=[(.v (.int .i8 (Z5 x2).1.Inf)),(vi (Z5 x2).1.N)]) H 0 V V V V V V V V V (fun _ => .inr ⟨13,V,by kernel_rfl,by decide⟩) fun σ H => (.aV V ?_))))))))
 refine .nila H fun H => (.then (.Z0h 25 V (by kernel_rfl) H fun b3 σ H B3 => (.Z3 H 3 V V V V V (fun _ => .inl ⟨B3 3 _ V _ V,nofun,(fun _ => by kernel_rfl)⟩) V (.ld (vl Form.cs n.Forms) H 3 V V V V V (fun _ => .inl ⟨B3 3 _ V _ V,nofun,(fun _ => by kernel_rfl)⟩) V (.Z3 H 2 V V V V V (fun _ => .inl ⟨B3 2 _ V _ V,nofun,(fun _ => by kernel_rfl)⟩) V (.ld (vi c.Form) H 2 V V V V V (fun _ => .inl ⟨B3 2 _ V _ V,nofun,(fun _ => by kernel_rfl)⟩) V ?_))))));obtain ⟨x3,q3,h⟩:=bs h;refine .jV q3 V (.qV [(.int .i64 x3.Period),(.int .i64 x3.Count),(.sl (x3.Core.map (cL Span.cs))),(.sl (x3.Odd.map Granule.cs))] V (.Z5B (cs:=[(.v (.int .i8 (Z5 x2).1.Inf)),(vi (Z5 x2).1.N)]) H 0 V V V V V V V (fun _ => .inl ⟨B3 0 _ V _ V,nofun,(fun _ => by kernel_rfl)⟩) V (.mV V (.Z3 H 2 V V V V V (fun _ => .inl ⟨B3 2 _ V _ V,nofun,(fun _ => by kernel_rfl)⟩) V (.ld (vi c.X) H 2 V V V V V (fun _ => .inl ⟨B3 2 _ V _ V,nofun,(fun _ => by kernel_rfl)⟩) V ?_)))));obtain ⟨x4,q4,h⟩:=bs h;refine .jV q4 V (.pV V (.Z3 H 2 V V V V V (fun _ => .inl ⟨B3 2 _ V _ V,nofun,(fun _ => by kernel_rfl)⟩) V (.ld (vi c.Y) H 2 V V V V V (fun _ => .inl ⟨B3 2 _ V _ V,nofun,(fun _ => by kernel_rfl)⟩) V ?_)));obtain ⟨x5,q5,h⟩:=bs h;refine .jV q5 V (.qV [(.int .i8 x5.Inf),(.int .i64 x5.N)] V ?_);obtain ⟨x6,q6,h⟩:=bs h;refine .cV (ZDI q6) V (.m1 (.tup [(.agg [(vi x6.1.Low),(vi x6.1.High),(vb x6.1.HasLow),(vb x6.1.HasHigh)]),(vb x6.2.1),(vi x6.2.2)]) V V (.xV V (.xV V (.xV V (.ZX (cs:=[(vi 0),(vi 0),(vb false),(vb false)]) H (by omega) (by omega) V V fun σ H => (.Z3E (cells':=[(vi x6.1.Low),(vi x6.1.High),(vb x6.1.HasLow),(vb x6.1.HasHigh)]) H 0 V V V V V V V V V (fun _ => .inr ⟨21,V,by kernel_rfl,by decide⟩) fun σ H => (.aV V (.aV V ?_))))))))
 refine .nila H fun H => (.then (.tR 6 V H fun b4 σ H => (.mV V (.tV V (.mV V ?_)))));refine .md H 3 [(52,(vb ((!x6.2.1) || (x6.2.2 != 0)))),(4,(.ptr (b1 + 1) 7 0)),(6,(.ptr (b1 + 2) 4 0)),(10,(.ptr (b3 + 21) 4 0))] [.blk (b3 + 21) 27 [(vi x6.1.Low),(vi x6.1.High),(vb x6.1.HasLow),(vb x6.1.HasHigh)],.blk (b1 + 2) 27 [(vi 0),(vi 0),(vb false),(vb false)],.blk (b1 + 1) 42 [(vi c.X),(vi c.Y),(vi c.Form),(vi c.Range.Low),(vi c.Range.High),(vb c.Range.HasLow),(vb c.Range.HasHigh)]] rfl ?_ fun e σ H => ?_
 ·refine .split V V ?_ ?_ <;> intro hc1
  ·refine .ps 2 V (.kT V (.nil ?_));exact ⟨⟨or_T hc1,V,V,V,U⟩,((H.erase 4).erase 1).wk (by omega)⟩
  ·refine .mV V (.iV V (.kF V (.nil ?_)));exact ⟨⟨or_F hc1,V,V,V,U⟩,((H.erase 4).erase 1).wk (by omega)⟩
 refine .nila H fun H => ?_;refine .wh h V ?_ ?_ <;> intro h
 ·refine .tR 3 V H fun b5 σ H => (.bV [(vi 0),(vi 0),(vb false),(vb false)] V (.sV [(vi 0),(vi 0),(vb false),(vb false)] H 1 V fun σ H => (.aV V (.nila H fun H => (.ret ?_)))));obtain rfl:=sj h;exact (Ends.H (xs:=[(.agg [(vi 0),(vi 0),(vb false),(vb false)]),(vb false)]) (.inr V) H (.agg (cs:=[(vi 0),(vi 0),(vb false),(vb false)]) 1 V V V V V V V (.tmp (v:=(vb false)) V .nil)) (.two (.cons (.p V) (.cons (.c (.v _)) .nil))))
 refine .skip (.tR 8 V H fun b6 σ H => (.fV H 2 V (.LV [(vi c.Range.Low),(vi c.Range.High),(vb c.Range.HasLow),(vb c.Range.HasHigh)] H 2 V (.LV [(vi x6.1.Low),(vi x6.1.High),(vb x6.1.HasLow),(vb x6.1.HasHigh)] H 0 V ?_))));obtain ⟨x7,q7,h⟩:=bs h;refine .cV (Z7z q7) V (.xV V (.xV V (.sV [(vi x7.1.Low),(vi x7.1.High),(vb x7.1.HasLow),(vb x7.1.HasHigh)] H 1 V fun σ H => (.aV V (.nila H fun H => (.ret ?_))))));obtain rfl:=sj h;exact (Ends.H (xs:=[(.agg [(vi x7.1.Low),(vi x7.1.High),(vb x7.1.HasLow),(vb x7.1.HasHigh)]),(vb x7.2)]) (.inr V) H (.agg (cs:=[(vi x7.1.Low),(vi x7.1.High),(vb x7.1.HasLow),(vb x7.1.HasHigh)]) 1 V V V V V V V (.tmp (v:=(vb x7.2)) V .nil)) (.two (.cons (.p V) (.cons (.c (.v _)) .nil))))
theorem Z9m {n:Net} {r:Net × (List (List Bound)) × Bool} (h:Z03 n = some r):Fn CX 34 [(.agg (vs (Net.cs n)))] (.tup [(.agg (vs (Net.cs r.1))),(vl (cL Bound.cs) r.2.1),(vb r.2.2)]):=by
 refine Fn.go Tryz.func34 V fun σ H => ?_;unfold Z03 at h;refine .tR 4 V H fun b1 σ H => (.boxH (cs:=[(vi n.Vars),(vl Form.cs n.Forms),(vl Con.cs n.Cons)]) H (by omega) (by omega) V V V fun σ H => (.ZX (cs:=[(vi 0),.nils,.nils]) H (by omega) (by omega) V V fun σ H => (.a1 .nils V V (.aV V (.nila H fun H => (.tR 10 V H fun b2 σ H => (.LV [(vi n.Vars),(vl Form.cs n.Forms),(vl Con.cs n.Cons)] H 1 V ?_)))))));obtain ⟨x1,q1,h⟩:=bs h;refine .cV (prop_ticks_fn q1) V ?_;obtain ⟨x2,q2,h⟩:=bs h;refine .cV (stp_CloseE_fn q2) V (.m1 (.tup [(vl (cL Bound.cs) x2.1),(vb x2.2.1),(vi x2.2.2)]) V V (.xV V (.xV V (.xV V (.aV V (.aV V (.aV V (.nila H fun H => ?_))))))));refine .then (.tR 2 V H fun b3 σ H => (.mV V (.tV V (.nila H fun H => ?_))));refine .wh h V ?_ ?_ <;> intro h
 ·refine .tR 4 V H fun b4 σ H => (.bV [(vi 0),.nils,.nils] V (.sV [(vi 0),.nils,.nils] H 0 V fun σ H => (.a1 .nils V V (.aV V (.nila H fun H => (.ret ?_))))));obtain rfl:=sj h;exact (Ends.H (xs:=[(.agg [(vi 0),.nils,.nils]),.nils,(vb false)]) (.inr V) H (.agg (cs:=[(vi 0),.nils,.nils]) 0 V V V V V V V (.tmp (v:=.nils) V (.tmp (v:=(vb false)) V .nil))) (.two (.cons (.a (.cons (.v _) (.cons .n (.cons .n .nil)))) (.cons (.c .n) (.cons (.c (.v _)) .nil)))))
 refine .skip (.tR 5 V H fun b5 σ H => (.fV H 1 V (.lV H 1 V ?_)))
 rcases Bool.eq_false_or_eq_true (n.Cons.isEmpty) with hce1 | hce1
 ·replace h:=cond_T hce1 h;refine .ZBt (ys:=[(vl Con.cs n.Cons)]) H rfl (cloneNil57 hce1) nofun rfl ?_;rintro _ _ σ ⟨rfl,rfl⟩ H;replace H:Has σ _ _ [.blk (b1 + 1) 25 [(vi 0),.nils,.nils],.blk (b1 + 0) 25 [(vi n.Vars),(vl Form.cs n.Forms),(vl Con.cs n.Cons)]]:=H;refine .fV H 1 V (.sV [(vi n.Vars),(vl Form.cs n.Forms),(vl Con.cs n.Cons)] H 1 V fun σ H => (.nila H fun H => (.then (.tR 4 V H fun b6 σ H => (.fV H 1 V (.lV H 1 V (.nV V (.mV V ?_))))))));refine .nila H fun H => (.inBlock ?_);refine .lp h (fun s1 => [(1,(.ptr (b1 + 0) 3 0)),(2,(.ptr (b1 + 1) 3 0)),(5,(vl (cL Bound.cs) x2.1)),(27,(vl Con.cs n.Cons)),(28,(vi (n.Cons.length:Int))),(29,(vi 0))]) (fun s1 => [.blk (b1 + 1) 25 [(vi 0),.nils,.nils],.blk (b1 + 0) 25 [(vi n.Vars),(vl Form.cs n.Forms),(vl Con.cs n.Cons)]]) (.exit 0) (fun y1 => [(1,(.ptr (b1 + 0) 3 0)),(2,(.ptr (b1 + 1) 3 0)),(5,(vl (cL Bound.cs) x2.1))]) (fun y1 => [.blk (b1 + 1) 25 [(vi 0),.nils,.nils],.blk (b1 + 0) 25 [(vi n.Vars),(vl Form.cs n.Forms),(vl Con.cs n.Cons)]]) (EI V) H (fun s1 e σ H z h => ?_) fun y1 e σ H h => ?_
  ·unfold Z03.s0 at h;refine .tR 1 V H fun b7 σ H => (.iV V (.nila H fun H => (.then ?_)));refine .wh h V ?_ ?_ <;> intro h
   ·refine .skip (.then (.inBlock (.tR 6 V H fun b8 σ H => (.mV V ?_))));obtain ⟨x3,q3,h⟩:=bs h;exact (at_empty hce1 q3).elim
   refine .exit ?_;obtain rfl:=sj h;exact ⟨nofun,⟨V,EI V,H⟩⟩
  refine .tR 5 V H fun b9 σ H => (.LV [(vi n.Vars),(vl Form.cs n.Forms),(vl Con.cs n.Cons)] H 1 V (.mV V (.sV [(vi n.Vars),(vl Form.cs n.Forms),(vl Con.cs n.Cons)] H 0 V fun σ H => (.aV V (.aV V (.nila H fun H => (.ret ?_)))))));obtain rfl:=sj h;exact (Ends.H (xs:=[(.agg [(vi n.Vars),(vl Form.cs n.Forms),(vl Con.cs n.Cons)]),(vl (cL Bound.cs) x2.1),(vb true)]) (.inr V) H (.agg (cs:=[(vi n.Vars),(vl Form.cs n.Forms),(vl Con.cs n.Cons)]) 0 V V V V V V V (.tmp (v:=(vl (cL Bound.cs) x2.1)) V (.tmp (v:=(vb true)) V .nil))) (.two (.cons (.p V) (.cons (.c (.v _)) (.cons (.c (.v _)) .nil)))))
 ·replace h:=cond_F hce1 h;obtain ⟨x4,q4,h⟩:=bs h;refine .ZBt (ys:=[(vl Con.cs n.Cons)]) H rfl (Z7M q4) nofun rfl ?_;rintro _ _ σ ⟨w1,rfl,rfl⟩ H;refine .fV H 2 V (.Z3E (v:=w1) (ys:=[w1]) (cells':=[(vi n.Vars),(vl Form.cs n.Forms),w1]) H 2 V V V V (H.slCells (k:=0) V) V V V V nofun fun σ H => (.nila H fun H => (.then (.tR 4 V H fun b10 σ H => (.fV H 2 V (.lV H 2 V (.Z9F (c:=Con.cs) (xs:=x4) H 0 V V V nofun V (.mV V ?_))))))));refine .nila H fun H => (.inBlock ?_);obtain ⟨y2,hj2,h⟩:=bs h;obtain ⟨n2,hj2⟩:=ZW.1 hj2;refine .mono (Runs.loopO hj2 (fun s2 e σ => ∃ (w4:PV),Z9 e [(1,(.ptr (b1 + 0) 3 0)),(2,(.ptr (b1 + 1) 3 0)),(5,(vl (cL Bound.cs) x2.1)),(27,w4),(28,(vi (x4.length:Int))),(29,(vi s2.1))]∧Hs σ [.sl w4 42 7 (s2.2.map Con.cs) true,.blk (b1 + 1) 25 [(vi 0),.nils,.nils],.blk (b1 + 0) 25 [(vi n.Vars),(vl Form.cs n.Forms),w4]]) (fun y2 x e σ => (∃ a1,∃ (w5:PV),y2 = (.go a1)∧x = .exit 0∧Z9 e [(1,(.ptr (b1 + 0) 3 0)),(2,(.ptr (b1 + 1) 3 0)),(5,(vl (cL Bound.cs) x2.1))]∧Hs σ [.sl w5 42 7 (a1.map Con.cs) true,.blk (b1 + 1) 25 [(vi 0),.nils,.nils],.blk (b1 + 0) 25 [(vi n.Vars),(vl Form.cs n.Forms),w5]])∨(∃ r',y2 = (.ret r')∧x = .ret∧Ends CX Tryz.f34.results.toList (.tup [(.agg (vs (Net.cs r'.1))),(vl (cL Bound.cs) r'.2.1),(vb r'.2.2)]) x e σ)) ⟨w1,EI V,H⟩ ?_) ?_
  ·intro s2 e σ hI z h;obtain ⟨w4,he,H⟩:=hI;obtain ⟨e,rfl⟩:=he.ex;unfold Z03.s1 at h;refine .tR 1 V H fun b11 σ H => (.iV V (.nila H fun H => (.then ?_)));refine .wh h V ?_ ?_ <;> intro h
   ·refine .skip (.then (.inBlock (.tR 6 V H fun b12 σ H => (.mV V ?_))));obtain ⟨x5,q5,h⟩:=bs h;refine .Z2J H 0 V V V (at?_map q5) V V nofun V ?_;intro id1 hv1;subst hv1;refine .Z7t (id:=id1) H 0 V V (by simp) (at?_map q5) V V V V nofun V ?_;refine .ZX (cs:=[(vi 0),(vi 0),(vi 0),(vi 0),(vi 0),(vb false),(vb false)]) H (by omega) (by omega) V V fun σ H => (.aV V (.sV [(vi x5.X),(vi x5.Y),(vi x5.Form),(vi x5.Range.Low),(vi x5.Range.High),(vb x5.Range.HasLow),(vb x5.Range.HasHigh)] H 0 V fun σ H => (.nila H fun H => (.tR 10 V H fun b13 σ H => (.LV [(vi n.Vars),(vl Form.cs n.Forms),(.buf id1 (s2.2.map Con.cs).length 7)] H 3 V (.LV [(vi x5.X),(vi x5.Y),(vi x5.Form),(vi x5.Range.Low),(vi x5.Range.High),(vb x5.Range.HasLow),(vb x5.Range.HasHigh)] H 0 V (.mV V ?_)))))));obtain ⟨x6,q6,h⟩:=bs h;refine .callT (xs:=[(.agg [(vi n.Vars),(vl Form.cs n.Forms),(.buf id1 (s2.2.map Con.cs).length 7)]),(.agg [(vi x5.X),(vi x5.Y),(vi x5.Form),(vi x5.Range.Low),(vi x5.Range.High),(vb x5.Range.HasLow),(vb x5.Range.HasHigh)]),(vl (cL Bound.cs) x2.1)]) (ys:=[(.agg (vs (Net.cs (Net.mk n.Vars n.Forms s2.2)))),(.agg (vs (Con.cs x5))),(vl (cL Bound.cs) x2.1)]) H V (.cons (.a (.cons (.v _) (.cons (.v _) (.cons (.s 1 V) .nil)))) (.cons (.p V) (.cons (.c (.v _)) .nil))) (prop_back_fn q6) V V V V nofun V (.m1 (.tup [(.agg [(vi x6.1.Low),(vi x6.1.High),(vb x6.1.HasLow),(vb x6.1.HasHigh)]),(vb x6.2)]) V V (.xV V (.xV V (.ZX (cs:=[(vi 0),(vi 0),(vb false),(vb false)]) H (by omega) (by omega) V V fun σ H => (.sV [(vi x6.1.Low),(vi x6.1.High),(vb x6.1.HasLow),(vb x6.1.HasHigh)] H 0 V fun σ H => (.aV V (.nila H fun H => (.then ?_))))))))
    refine .tR 2 V H fun b14 σ H => (.mV V (.tV V (.nila H fun H => ?_)));refine .wh h V ?_ ?_ <;> intro h
    ·refine .tR 4 V H fun b15 σ H => (.bV [(vi 0),.nils,.nils] V (.sV [(vi 0),.nils,.nils] H 3 V fun σ H => (.a1 .nils V V (.aV V (.nila H fun H => (.ret ?_))))));obtain rfl:=sj h;exact ⟨nofun,(.inr ⟨_,V,V,(Ends.H (xs:=[(.agg [(vi 0),.nils,.nils]),.nils,(vb false)]) (.inr V) H (.agg (cs:=[(vi 0),.nils,.nils]) 3 V V V V V V V (.tmp (v:=.nils) V (.tmp (v:=(vb false)) V .nil))) (.two (.cons (.a (.cons (.v _) (.cons .n (.cons .n .nil)))) (.cons (.c .n) (.cons (.c (.v _)) .nil)))))⟩)⟩
    refine .skip (.ZB 7 V H fun b16 σ H => (.fV H 4 V (.lV H 4 V (.mV V (.LV [(vi x6.1.Low),(vi x6.1.High),(vb x6.1.HasLow),(vb x6.1.HasHigh)] H 0 V ?_)))));obtain ⟨x7,q7,h⟩:=bs h;refine .Z2J H 2 V V V (at?_map q7) V V nofun V ?_;intro id2 hv2;refine .fieldAddrS (id:=id2) H 2 V hv2 (by simp) V V V nofun V (.Z9P (id:=id2) (j:=3) (zs:=[(.int .i64 x6.1.Low),(.int .i64 x6.1.High),(.bool x6.1.HasLow),(.bool x6.1.HasHigh)]) (u:=x7) (u':=(Con.mk x7.X x7.Y x7.Form x6.1)) H 2 V hv2 (by simp) q7 V (by simp) V V V V V V nofun fun σ H => (.nila H fun H => (.ZB 2 V H fun b17 σ H => (.iV V (.mV V (.nila H fun H => ?_))))));obtain rfl:=sj h;exact ⟨V,(.buf id1 (s2.2.map Con.cs).length 7),EI V,((H.erase 1).erase 0)⟩
   refine .exit ?_;obtain rfl:=sj h;exact ⟨nofun,(.inl ⟨_,w4,V,V,EI V,H⟩)⟩
  ·rintro x e σ (⟨a2,w6,rfl,rfl,he,H⟩ | ⟨r',rfl,rfl,hE⟩)
   ·replace h:=jgo h;obtain ⟨e,rfl⟩:=he.ex;refine .tR 5 V H fun b18 σ H => (.LV [(vi n.Vars),(vl Form.cs n.Forms),w6] H 2 V (.mV V (.sV [(vi n.Vars),(vl Form.cs n.Forms),w6] H 1 V fun σ H => (.aV V (.aV V (.nila H fun H => (.ret ?_)))))));obtain rfl:=sj h;exact (Ends.H (xs:=[(.agg [(vi n.Vars),(vl Form.cs n.Forms),w6]),(vl (cL Bound.cs) x2.1),(vb true)]) (.inr V) H (.agg (cs:=[(vi n.Vars),(vl Form.cs n.Forms),w6]) 1 V V V V V V V (.tmp (v:=(vl (cL Bound.cs) x2.1)) V (.tmp (v:=(vb true)) V .nil))) (.two (.cons (.a (.cons (.v _) (.cons (.v _) (.cons (.s 0 V) .nil)))) (.cons (.c (.v _)) (.cons (.c (.v _)) .nil)))))
   ·replace h:=jret h;obtain rfl:=sj h;exact hE
theorem Z7A {s1':(List Con)} {s2':(List Con)} {r:Bool} (h:Zc s1' s2' = some r):Fn CX 35 [(vl Con.cs s1'),(vl Con.cs s2')] (vb r):=by
 refine Fn.go Tryz.func35 V fun σ H => ?_;unfold Zc at h;refine .tR 1 V H fun b1 σ H => (.aV V (.nila H fun H => (.then (.tR 5 V H fun b2 σ H => (.mV V (.nV V (.mV V (.nV V ?_))))))));refine .iV V (.nila H fun H => ?_);refine .wh h V ?_ ?_ <;> intro h
 ·refine .tR 1 V H fun b3 σ H => (.aV V (.nila H fun H => (.ret ?_)));obtain rfl:=sj h;exact Ends.eR V
 refine .skip (.then (.tR 3 V H fun b4 σ H => (.mV V (.nV V (.mV V (.nila H fun H => (.inBlock ?_)))))));obtain ⟨y1,hj1,h⟩:=bs h;obtain ⟨n1,hj1⟩:=ZW.1 hj1;refine .mono (Runs.loopO hj1 (fun s1 e σ => Z9 e [(0,(vl Con.cs s1')),(1,(vl Con.cs s2')),(12,(vi (s1'.length:Int))),(13,(vi s1))]∧Hs σ []) (fun y1 x e σ => (∃ a1,y1 = (.go a1)∧x = .exit 0∧Z9 e []∧Hs σ [])∨(∃ r',y1 = (.ret r')∧x = .ret∧Ends CX Tryz.f35.results.toList (vb r') x e σ)) ⟨EI V,H⟩ ?_) ?_
 ·intro s1 e σ hI z h;obtain ⟨he,H⟩:=hI;obtain ⟨e,rfl⟩:=he.ex;unfold Zc.s0 at h;refine .tR 1 V H fun b5 σ H => (.iV V (.nila H fun H => (.then ?_)));refine .wh h V ?_ ?_ <;> intro h
  ·refine .skip (.then (.inBlock (.tR 2 V H fun b6 σ H => (.mV V (.aV V (.nila H fun H => (.then (.Z0h 9 V (by kernel_rfl) H fun b7 σ H B7 => ?_))))))));refine .mV V (.mV V ?_);obtain ⟨x1,q1,h⟩:=bs h;refine .jV q1 V (.qV [(.int .i64 x1.X),(.int .i64 x1.Y),(.int .i64 x1.Form),(.int .i64 x1.Range.Low),(.int .i64 x1.Range.High),(.bool x1.Range.HasLow),(.bool x1.Range.HasHigh)] V (.mV V (.mV V ?_)));obtain ⟨x2,q2,h⟩:=bs h;refine .jV q2 V (.qV [(.int .i64 x2.X),(.int .i64 x2.Y),(.int .i64 x2.Form),(.int .i64 x2.Range.Low),(.int .i64 x2.Range.High),(.bool x2.Range.HasLow),(.bool x2.Range.HasHigh)] V (.binA (u:=(.agg [(vi x1.X),(vi x1.Y),(vi x1.Form),(vi x1.Range.Low),(vi x1.Range.High),(vb x1.Range.HasLow),(vb x1.Range.HasHigh)])) (w:=(.agg [(vi x2.X),(vi x2.Y),(vi x2.Form),(vi x2.Range.Low),(vi x2.Range.High),(vb x2.Range.HasLow),(vb x2.Range.HasHigh)])) (r:=.bool (!((x1.X == x2.X) && ((x1.Y == x2.Y) && ((x1.Form == x2.Form) && (((x1.Range.Low == x2.Range.Low) && ((x1.Range.High == x2.Range.High) && ((x1.Range.HasLow == x2.Range.HasLow) && ((x1.Range.HasHigh == x2.Range.HasHigh) && true)))) && true)))))) V V (by kernel_rfl) (fun _ => Z7l V V V V) V (.nila H fun H => ?_)));refine .wh h V ?_ ?_ <;> intro h
   ·refine .tR 1 V H fun b8 σ H => (.aV V (.nila H fun H => (.ret ?_)));obtain rfl:=sj h;exact ⟨nofun,(.inr ⟨_,V,V,(Ends.H (xs:=[(vb false)]) (.inr V) H (.tmp (v:=(vb false)) V .nil) (.one (.c (.v _))))⟩)⟩
   refine .skip (.ZB 2 V H fun b9 σ H => (.iV V (.mV V (.nila H fun H => ?_))));obtain rfl:=sj h;exact ⟨V,EI V,H⟩
  refine .exit ?_;obtain rfl:=sj h;exact ⟨nofun,(.inl ⟨_,V,V,U,H⟩)⟩
 ·rintro x e σ (⟨a2,rfl,rfl,he,H⟩ | ⟨r',rfl,rfl,hE⟩)
  ·replace h:=jgo h;obtain ⟨e,rfl⟩:=he.ex;refine .tR 1 V H fun b10 σ H => (.aV V (.nila H fun H => (.ret ?_)));obtain rfl:=sj h;exact Ends.eR V
  ·replace h:=jret h;obtain rfl:=sj h;exact hE
theorem Z4N {n:Net} {rounds:Int} {r:Spread × Int} (h:Z0C n rounds = some r):Fn CX 9 [(.agg (vs (Net.cs n))),(vi rounds)] (.tup [(.agg (vs (Spread.cs r.1))),(vi r.2)]):=by
 refine Fn.go Tryz.func9 V fun σ H => ?_;unfold Z0C at h;refine .tR 3 V H fun b1 σ H => (.boxH (cs:=[(vi n.Vars),(vl Form.cs n.Forms),(vl Con.cs n.Cons)]) H (by omega) (by omega) V V V fun σ H => (.ZX (cs:=[(.v (.int .u8 0)),(vi 0),.nils,.nils,.nils,(vi 0)]) H (by omega) (by omega) V V fun σ H => (.aV V (.nila H fun H => (.then (.inBlock (.tR 4 V H fun b2 σ H => (.LV [(vi n.Vars),(vl Form.cs n.Forms),(vl Con.cs n.Cons)] H 1 V ?_))))))));obtain ⟨x1,q1,h⟩:=bs h;refine .cV (Z63 q1) V (.iV V (.aV V (.nila H fun H => ?_)));refine .wh h V ?_ ?_ <;> intro h
 ·refine .tR 3 V H fun b3 σ H => (.bV [(.v (.int .u8 0)),(vi 0),.nils,.nils,.nils,(vi 0)] V (.sV [(.v (.int .u8 0)),(vi 0),.nils,.nils,.nils,(vi 0)] H 0 V fun σ H => (.aV V (.nila H fun H => (.ret ?_)))));obtain rfl:=sj h;exact (Ends.H (xs:=[(.agg [(.v (.int .u8 0)),(vi 0),.nils,.nils,.nils,(vi 0)]),(vi 230)]) (.inr V) H (.agg (cs:=[(.v (.int .u8 0)),(vi 0),.nils,.nils,.nils,(vi 0)]) 0 V V V V V V V (.tmp (v:=(vi 230)) V .nil)) (.two (.cons (.a (.cons (.v _) (.cons (.v _) (.cons .n (.cons .n (.cons .n (.cons (.v _) .nil))))))) (.cons (.c (.v _)) .nil))))
 refine .tR 7 V H fun b4 σ H => (.mV V (.iV V (.mV V ?_)));refine .md H 3 [(21,(vb ((decide (rounds < 1)) || (decide (rounds > 1000))))),(1,(vi rounds)),(2,(.ptr (b1 + 0) 3 0)),(4,(.ptr (b1 + 1) 6 0))] [.blk (b1 + 1) 34 [(.v (.int .u8 0)),(vi 0),.nils,.nils,.nils,(vi 0)],.blk (b1 + 0) 25 [(vi n.Vars),(vl Form.cs n.Forms),(vl Con.cs n.Cons)]] rfl ?_ fun e σ H => ?_
 ·refine .split V V ?_ ?_ <;> intro hc2
  ·refine .ps 2 V (.kT V (.nil ?_));exact ⟨⟨or_T hc2,V,V,V,U⟩,H.wk (by omega)⟩
  ·refine .mV V (.iV V (.kF V (.nil ?_)));exact ⟨⟨or_F hc2,V,V,V,U⟩,H.wk (by omega)⟩
 refine .aV V (.nila H fun H => ?_);refine .wh h V ?_ ?_ <;> intro h
 ·refine .tR 3 V H fun b5 σ H => (.bV [(.v (.int .u8 0)),(vi 0),.nils,.nils,.nils,(vi 0)] V (.sV [(.v (.int .u8 0)),(vi 0),.nils,.nils,.nils,(vi 0)] H 0 V fun σ H => (.aV V (.nila H fun H => (.ret ?_)))));obtain rfl:=sj h;exact (Ends.H (xs:=[(.agg [(.v (.int .u8 0)),(vi 0),.nils,.nils,.nils,(vi 0)]),(vi 2)]) (.inr V) H (.agg (cs:=[(.v (.int .u8 0)),(vi 0),.nils,.nils,.nils,(vi 0)]) 0 V V V V V V V (.tmp (v:=(vi 2)) V .nil)) (.two (.cons (.a (.cons (.v _) (.cons (.v _) (.cons .n (.cons .n (.cons .n (.cons (.v _) .nil))))))) (.cons (.c (.v _)) .nil))))
 refine .skip (.tR 4 V H fun b6 σ H => (.LV [(vi n.Vars),(vl Form.cs n.Forms),(vl Con.cs n.Cons)] H 1 V (.bV [(.v (.int .u8 3)),(vi n.Vars),(vl Form.cs n.Forms),(vl Con.cs n.Cons),.nils,(vi 0)] V (.ZX (cs:=[(.v (.int .u8 0)),(vi 0),.nils,.nils,.nils,(vi 0)]) H (by omega) (by omega) V V fun σ H => (.sV [(.v (.int .u8 3)),(vi n.Vars),(vl Form.cs n.Forms),(vl Con.cs n.Cons),.nils,(vi 0)] H 0 V fun σ H => (.nila H fun H => (.then (.inBlock ?_))))))));obtain ⟨y1,hj1,h⟩:=bs h;obtain ⟨n1,hj1⟩:=ZW.1 hj1;refine .mono (Runs.loopO hj1 (fun s1 e σ => ∃ (w3:PV),RO w3 (s1.2.2.2.2.1.map (cL Bound.cs))∧Z9 e [(1,(vi rounds)),(4,(.ptr (b1 + 1) 6 0)),(6,(.ptr (b6 + 2) 6 0))]∧Hs σ [.blk (b6 + 2) 34 [(.v (.int .u8 s1.1)),(vi s1.2.1),(vl Form.cs s1.2.2.1),(vl Con.cs s1.2.2.2.1),w3,(vi s1.2.2.2.2.2)],.blk (b1 + 1) 34 [(.v (.int .u8 0)),(vi 0),.nils,.nils,.nils,(vi 0)]]) (fun y1 x e σ => (∃ a1,∃ (w4:PV),RO w4 (a1.2.2.2.2.1.map (cL Bound.cs))∧y1 = (.go a1)∧x = .exit 1∧Z9 e [(4,(.ptr (b1 + 1) 6 0)),(6,(.ptr (b6 + 2) 6 0))]∧Hs σ [.blk (b6 + 2) 34 [(.v (.int .u8 a1.1)),(vi a1.2.1),(vl Form.cs a1.2.2.1),(vl Con.cs a1.2.2.2.1),w4,(vi a1.2.2.2.2.2)],.blk (b1 + 1) 34 [(.v (.int .u8 0)),(vi 0),.nils,.nils,.nils,(vi 0)]])∨(∃ r',y1 = (.ret r')∧x = .ret∧Ends CX Tryz.f9.results.toList (.tup [(.agg (vs (Spread.cs r'.1))),(vi r'.2)]) x e σ)) ⟨.nils,.inl ⟨V,V⟩,EI V,(H.erase 2)⟩ ?_) ?_
 ·intro s1 e σ hI z h;obtain ⟨w3,hw3,he,H⟩:=hI;obtain ⟨e,rfl⟩:=he.ex;unfold Z0C.s0 at h;refine .then (.tR 9 V H fun b7 σ H => (.fV H 0 V (.lV H 0 V (.mV V (.iV V (.mV V ?_))))));refine .md H 4 [(33,(vb ((decide (s1.2.2.2.2.2 < rounds)) && (s1.1 == 3)))),(1,(vi rounds)),(4,(.ptr (b1 + 1) 6 0)),(6,(.ptr (b6 + 2) 6 0))] [.blk (b6 + 2) 34 [(.v (.int .u8 s1.1)),(vi s1.2.1),(vl Form.cs s1.2.2.1),(vl Con.cs s1.2.2.2.1),w3,(vi s1.2.2.2.2.2)],.blk (b1 + 1) 34 [(.v (.int .u8 0)),(vi 0),.nils,.nils,.nils,(vi 0)]] V ?_ fun e σ H => ?_
  ·refine .split V V ?_ ?_ <;> intro hc4
   ·refine .fV H 0 V (.lV H 0 V (.iV V (.kT V (.nil ?_))));exact ⟨⟨Z0q hc4,V,V,V,U⟩,H.wk (by omega)⟩
   ·refine .ps 3 V (.kF V (.nil ?_));exact ⟨⟨Z0p hc4,V,V,V,U⟩,H.wk (by omega)⟩
  refine .nila H fun H => ?_;refine .wh h V ?_ ?_ <;> intro h
  ·refine .skip (.inBlock ?_);obtain ⟨y2,hj2,h⟩:=bs h;refine .mono (Q:=fun x e σ => (∃ a2,y2 = (.go a2)∧x = .normal∧Z9 e [(1,(vi rounds)),(4,(.ptr (b1 + 1) 6 0)),(6,(.ptr (b6 + 2) 6 0))]∧Hs σ [.blk (b6 + 2) 34 [(.v (.int .u8 a2.1)),(vi a2.2.1),(vl Form.cs a2.2.2.1),(vl Con.cs a2.2.2.2.1),(vl (cL Bound.cs) a2.2.2.2.2.1),(vi a2.2.2.2.2.2)],.blk (b1 + 1) 34 [(.v (.int .u8 0)),(vi 0),.nils,.nils,.nils,(vi 0)]])∨(∃ r',y2 = (.ret r')∧x = .ret∧Ends CX Tryz.f9.results.toList (.tup [(.agg (vs (Spread.cs r'.1))),(vi r'.2)]) x e σ)) ?_ ?_
   ·replace h:=hj2;refine .tR 11 V H fun b8 σ H => (.fV H 0 V (.LV [(vi s1.2.1),(vl Form.cs s1.2.2.1),(vl Con.cs s1.2.2.2.1)] H 0 V ?_));obtain ⟨x2,q2,h⟩:=bs h;refine .cV (Z9m q2) V (.m1 (.tup [(.agg [(vi x2.1.Vars),(vl Form.cs x2.1.Forms),(vl Con.cs x2.1.Cons)]),(vl (cL Bound.cs) x2.2.1),(vb x2.2.2)]) V V (.xV V (.xV V (.xV V (.ZX (cs:=[(vi 0),.nils,.nils]) H (by omega) (by omega) V V fun σ H => (.sV [(vi x2.1.Vars),(vl Form.cs x2.1.Forms),(vl Con.cs x2.1.Cons)] H 0 V fun σ H => (.aV V (.aV V ?_))))))));refine .nila H fun H => (.tR 5 V H fun b9 σ H => (.fV H 1 V (.lV H 1 V (.iV V (.fV H 1 V (.sV [(.v (.int .u8 s1.1)),(vi s1.2.1),(vl Form.cs s1.2.2.1),(vl Con.cs s1.2.2.2.1),w3,(vi (w64 (s1.2.2.2.2.2 + 1)))] H 1 V fun σ H => (.nila H fun H => (.then ?_))))))));refine .tR 2 V H fun b10 σ H => (.mV V (.tV V (.nila H fun H => ?_)));refine .wh h V ?_ ?_ <;> intro h
    ·refine .tR 5 V H fun b11 σ H => (.fV H 1 V (.lV H 1 V (.bV [(.v (.int .u8 2)),(vi 0),.nils,.nils,.nils,(vi (w64 (s1.2.2.2.2.2 + 1)))] V (.sV [(.v (.int .u8 2)),(vi 0),.nils,.nils,.nils,(vi (w64 (s1.2.2.2.2.2 + 1)))] H 2 V fun σ H => (.aV V (.nila H fun H => (.ret ?_)))))));obtain rfl:=sj h;exact (.inr ⟨_,V,V,(Ends.H (xs:=[(.agg [(.v (.int .u8 2)),(vi 0),.nils,.nils,.nils,(vi (w64 (s1.2.2.2.2.2 + 1)))]),(vi 0)]) (.inr V) H (.agg (cs:=[(.v (.int .u8 2)),(vi 0),.nils,.nils,.nils,(vi (w64 (s1.2.2.2.2.2 + 1)))]) 2 V V V V V V V (.tmp (v:=(vi 0)) V .nil)) (.two (.cons (.a (.cons (.v _) (.cons (.v _) (.cons .n (.cons .n (.cons .n (.cons (.v _) .nil))))))) (.cons (.c (.v _)) .nil))))⟩)
    refine .skip (.then ?_);refine .jn h .normal (fun y3 => [(1,(vi rounds)),(4,(.ptr (b1 + 1) 6 0)),(6,(.ptr (b6 + 2) 6 0)),(7,(.ptr (b8 + 7) 3 0)),(8,(vl (cL Bound.cs) x2.2.1))]) (fun y3 => [.blk (b8 + 7) 25 [(vi x2.1.Vars),(vl Form.cs x2.1.Forms),(vl Con.cs x2.1.Cons)],.blk (b6 + 2) 34 [(.v (.int .u8 y3.1)),(vi s1.2.1),(vl Form.cs s1.2.2.1),(vl Con.cs s1.2.2.2.1),w3,(vi y3.2)],.blk (b1 + 1) 34 [(.v (.int .u8 0)),(vi 0),.nils,.nils,.nils,(vi 0)]]) (fun y3 h => ?_) fun y3 e σ H h => ?_
    ·refine .tR 6 V H fun b12 σ H => (.fV H 0 V (.lV H 0 V (.fV H 1 V (.fV H 1 V (.lV H 1 V ?_)))));obtain ⟨x3,q3,h⟩:=bs h;refine .cV (Z7A q3) V (.nila H fun H => ?_);refine .wh h V ?_ ?_ <;> intro h
     ·refine .ZB 2 V H fun b13 σ H => (.fV H 1 V (.sV [(.v (.int .u8 1)),(vi s1.2.1),(vl Form.cs s1.2.2.1),(vl Con.cs s1.2.2.2.1),w3,(vi (w64 (s1.2.2.2.2.2 + 1)))] H 1 V fun σ H => (.nila H fun H => ?_)));obtain rfl:=sj h;exact ⟨V,EI V,H⟩
     refine .skip ?_;obtain rfl:=sj h;exact ⟨V,EI V,H⟩
    refine .ZB 6 V H fun b14 σ H => (.LV [(vi x2.1.Vars),(vl Form.cs x2.1.Forms),(vl Con.cs x2.1.Cons)] H 0 V (.mV V (.fV H 1 V (.sV [(.v (.int .u8 y3.1)),(vi x2.1.Vars),(vl Form.cs x2.1.Forms),(vl Con.cs x2.1.Cons),w3,(vi y3.2)] H 1 V fun σ H => (.fV H 1 V (.sV [(.v (.int .u8 y3.1)),(vi x2.1.Vars),(vl Form.cs x2.1.Forms),(vl Con.cs x2.1.Cons),(vl (cL Bound.cs) x2.2.1),(vi y3.2)] H 1 V fun σ H => (.nila H fun H => ?_)))))));obtain rfl:=sj h;exact (.inl ⟨_,V,V,EI V,(H.erase 0)⟩)
   ·rintro x e σ (⟨a3,rfl,rfl,he,H⟩ | ⟨r',rfl,rfl,hE⟩)
    ·replace h:=jgo h;obtain ⟨e,rfl⟩:=he.ex;obtain rfl:=sj h;exact ⟨V,(vl (cL Bound.cs) a3.2.2.2.2.1),.inr V,EI V,H⟩
    ·replace h:=jret h;obtain rfl:=sj h;exact ⟨nofun,(.inr ⟨_,V,V,hE⟩)⟩
  refine .exit ?_;obtain rfl:=sj h;exact ⟨nofun,(.inl ⟨_,w3,hw3,V,V,EI V,H⟩)⟩
 ·rintro x e σ (⟨a4,w5,hw5,rfl,rfl,he,H⟩ | ⟨r',rfl,rfl,hE⟩)
  ·replace h:=jgo h;obtain ⟨e,rfl⟩:=he.ex;refine .tR 3 V H fun b15 σ H => (.LV [(.v (.int .u8 a4.1)),(vi a4.2.1),(vl Form.cs a4.2.2.1),(vl Con.cs a4.2.2.2.1),w5,(vi a4.2.2.2.2.2)] H 0 V (.sV [(.v (.int .u8 a4.1)),(vi a4.2.1),(vl Form.cs a4.2.2.1),(vl Con.cs a4.2.2.2.1),w5,(vi a4.2.2.2.2.2)] H 1 V fun σ H => (.aV V (.nila H fun H => (.ret ?_)))));obtain rfl:=sj h;exact (Ends.H (xs:=[(.agg [(.v (.int .u8 a4.1)),(vi a4.2.1),(vl Form.cs a4.2.2.1),(vl Con.cs a4.2.2.2.1),w5,(vi a4.2.2.2.2.2)]),(vi 0)]) (.inr V) H (.agg (cs:=[(.v (.int .u8 a4.1)),(vi a4.2.1),(vl Form.cs a4.2.2.1),(vl Con.cs a4.2.2.2.1),w5,(vi a4.2.2.2.2.2)]) 1 V V V V V V V (.tmp (v:=(vi 0)) V .nil)) (.two (.cons (.a (.cons (.v _) (.cons (.v _) (.cons (.v _) (.cons (.v _) (.cons (.ro hw5) (.cons (.v _) .nil))))))) (.cons (.c (.v _)) .nil))))
  ·replace h:=jret h;obtain rfl:=sj h;exact hE
theorem prop_Round_fn {n:Net} {r:Net × (List (List Bound)) × Bool × Int} (h:Z6O n = some r):Fn CX 10 [(.agg (vs (Net.cs n)))] (.tup [(.agg (vs (Net.cs r.1))),(vl (cL Bound.cs) r.2.1),(vb r.2.2.1),(vi r.2.2.2)]):=by
 refine Fn.go Tryz.func10 V fun σ H => ?_;unfold Z6O at h;refine .tR 5 V H fun b1 σ H => (.boxH (cs:=[(vi n.Vars),(vl Form.cs n.Forms),(vl Con.cs n.Cons)]) H (by omega) (by omega) V V V fun σ H => (.ZX (cs:=[(vi 0),.nils,.nils]) H (by omega) (by omega) V V fun σ H => (.a1 .nils V V (.aV V (.aV V (.nila H fun H => (.then (.tR 3 V H fun b2 σ H => ?_))))))));refine .LV [(vi n.Vars),(vl Form.cs n.Forms),(vl Con.cs n.Cons)] H 1 V ?_;obtain ⟨x1,q1,h⟩:=bs h;refine .cV (Z63 q1) V (.iV V (.nila H fun H => ?_));refine .wh h V ?_ ?_ <;> intro h
 ·refine .tR 5 V H fun b3 σ H => (.bV [(vi 0),.nils,.nils] V (.sV [(vi 0),.nils,.nils] H 0 V fun σ H => (.a1 .nils V V (.aV V (.aV V (.nila H fun H => (.ret ?_)))))));obtain rfl:=sj h;exact (Ends.H (xs:=[(.agg [(vi 0),.nils,.nils]),.nils,(vb false),(vi 230)]) (.inr V) H (.agg (cs:=[(vi 0),.nils,.nils]) 0 V V V V V V V (.tmp (v:=.nils) V (.tmp (v:=(vb false)) V (.tmp (v:=(vi 230)) V .nil)))) (.two (.cons (.a (.cons (.v _) (.cons .n (.cons .n .nil)))) (.cons (.c .n) (.cons (.c (.v _)) (.cons (.c (.v _)) .nil))))))
 refine .skip (.tR 10 V H fun b4 σ H => (.LV [(vi n.Vars),(vl Form.cs n.Forms),(vl Con.cs n.Cons)] H 1 V ?_));obtain ⟨x2,q2,h⟩:=bs h;refine .cV (Z9m q2) V (.m1 (.tup [(.agg [(vi x2.1.Vars),(vl Form.cs x2.1.Forms),(vl Con.cs x2.1.Cons)]),(vl (cL Bound.cs) x2.2.1),(vb x2.2.2)]) V V (.xV V (.xV V (.xV V (.ZX (cs:=[(vi 0),.nils,.nils]) H (by omega) (by omega) V V fun σ H => (.sV [(vi x2.1.Vars),(vl Form.cs x2.1.Forms),(vl Con.cs x2.1.Cons)] H 0 V fun σ H => (.aV V (.aV V ?_))))))));refine .nila H fun H => (.tR 7 V H fun b5 σ H => (.LV [(vi x2.1.Vars),(vl Form.cs x2.1.Forms),(vl Con.cs x2.1.Cons)] H 0 V (.mV V (.mV V (.sV [(vi x2.1.Vars),(vl Form.cs x2.1.Forms),(vl Con.cs x2.1.Cons)] H 1 V fun σ H => (.aV V (.aV V (.aV V ?_))))))));refine .nila H fun H => (.ret ?_);obtain rfl:=sj h;exact (Ends.H (xs:=[(.agg [(vi x2.1.Vars),(vl Form.cs x2.1.Forms),(vl Con.cs x2.1.Cons)]),(vl (cL Bound.cs) x2.2.1),(vb x2.2.2),(vi 0)]) (.inr V) H (.agg (cs:=[(vi x2.1.Vars),(vl Form.cs x2.1.Forms),(vl Con.cs x2.1.Cons)]) 1 V V V V V V V (.tmp (v:=(vl (cL Bound.cs) x2.2.1)) V (.tmp (v:=(vb x2.2.2)) V (.tmp (v:=(vi 0)) V .nil)))) (.two (.cons (.p V) (.cons (.c (.v _)) (.cons (.c (.v _)) (.cons (.c (.v _)) .nil))))))
theorem Z3m {more:Con} {r:Net} (h:ZL more = r):Fn CX 36 [(.agg (vs (Con.cs more)))] (.agg (vs (Net.cs r))):=by
 subst h;exact Fn.intr V V V V
theorem Z5p {low:Int} {high:Int} {r:Range} (h:ZK low high = r):Fn CX 37 [(vi low),(vi high)] (.agg (vs (Range.cs r))):=by
 refine Fn.go Tryz.func37 V fun σ H => ?_;unfold ZK at h;refine .tR 1 V H fun b1 σ H => (.ZX (cs:=[(vi 0),(vi 0),(vb false),(vb false)]) H (by omega) (by omega) V V fun σ H => (.nila H fun H => (.tR 4 V H fun b2 σ H => (.mV V (.mV V (.bV [(vi low),(vi high),(vb true),(vb true)] V (.sV [(vi low),(vi high),(vb true),(vb true)] H 0 V fun σ H => (.nila H fun H => ?_))))))));refine .ret ?_;subst h;exact (Ends.H (xs:=[(.agg [(vi low),(vi high),(vb true),(vb true)])]) (.inr V) H (.agg (cs:=[(vi low),(vi high),(vb true),(vb true)]) 0 V V V V V V V .nil) (.one (.p V)))
end Go.Dn

namespace Go.Dn
open Go Go.Proofs
set_option maxRecDepth 100000
set_option maxHeartbeats 4000000
theorem Z8g {r:Bool} (h:Z2T = some r):Fn CX 11 [] (vb r):=by
 refine Fn.go Tryz.func11 V fun σ H => ?_;unfold Z2T at h;refine .tR 1 V H fun b1 σ H => (.aV V (.nila H fun H => (.tR 9 V H fun b2 σ H => (.bV [(vi 0),(vi 0),(vi 0),(vi 0),(vi 0),(vb false),(vb false)] V (.cV (Z3m (V:ZL (Con.mk 0 0 0 (Range.mk 0 0 false false)) = _)) V ?_)))));obtain ⟨x1,q1,h⟩:=bs h;refine .cV (Z4N q1) V (.m1 (.tup [(.agg [(.v (.int .u8 x1.1.Kind)),(vi x1.1.Net.Vars),(vl Form.cs x1.1.Net.Forms),(vl Con.cs x1.1.Net.Cons),(vl (cL Bound.cs) x1.1.Ticks),(vi x1.1.Rounds)]),(vi x1.2)]) V V (.xV V (.xV V (.ZX (cs:=[(.v (.int .u8 0)),(vi 0),.nils,.nils,.nils,(vi 0)]) H (by omega) (by omega) V V fun σ H => (.sV [(.v (.int .u8 x1.1.Kind)),(vi x1.1.Net.Vars),(vl Form.cs x1.1.Net.Forms),(vl Con.cs x1.1.Net.Cons),(vl (cL Bound.cs) x1.1.Ticks),(vi x1.1.Rounds)] H 0 V fun σ H => (.aV V (.nila H fun H => (.tR 10 V H fun b3 σ H => ?_))))))));refine .bV [(vi 20),(vi 0),(vb true),(vb false)] V (.bV [(vi 0),(vi 2),(vi 0),(vi 20),(vi 0),(vb true),(vb false)] V (.cV (Z3m (V:ZL (Con.mk 0 2 0 (Range.mk 20 0 true false)) = _)) V ?_));obtain ⟨x2,q2,h⟩:=bs h;refine .cV (Z4N q2) V (.m1 (.tup [(.agg [(.v (.int .u8 x2.1.Kind)),(vi x2.1.Net.Vars),(vl Form.cs x2.1.Net.Forms),(vl Con.cs x2.1.Net.Cons),(vl (cL Bound.cs) x2.1.Ticks),(vi x2.1.Rounds)]),(vi x2.2)]) V V (.xV V (.xV V (.ZX (cs:=[(.v (.int .u8 0)),(vi 0),.nils,.nils,.nils,(vi 0)]) H (by omega) (by omega) V V fun σ H => (.sV [(.v (.int .u8 x2.1.Kind)),(vi x2.1.Net.Vars),(vl Form.cs x2.1.Net.Forms),(vl Con.cs x2.1.Net.Cons),(vl (cL Bound.cs) x2.1.Ticks),(vi x2.1.Rounds)] H 0 V fun σ H => (.aV V (.nila H fun H => (.tR 4 V H fun b4 σ H => ?_))))))))
 refine .bV [(vi 0),(vi 2),(vi 1),(vi 0),(vi 0),(vb false),(vb false)] V (.cV (Z3m (V:ZL (Con.mk 0 2 1 (Range.mk 0 0 false false)) = _)) V (.ZX (cs:=[(vi 0),.nils,.nils]) H (by omega) (by omega) V V fun σ H => (.sV [(vi (ZL (Con.mk 0 2 1 (Range.mk 0 0 false false))).Vars),(vl Form.cs (ZL (Con.mk 0 2 1 (Range.mk 0 0 false false))).Forms),(vl Con.cs (ZL (Con.mk 0 2 1 (Range.mk 0 0 false false))).Cons)] H 0 V fun σ H => (.nila H fun H => (.then (.Z0h 9 V (by kernel_rfl) H fun b5 σ H B5 => (.cV (Z5p V) V (.bV [(vi 0),(vi 2),(vi 0),(vi (ZK 3 10).Low),(vi (ZK 3 10).High),(vb (ZK 3 10).HasLow),(vb (ZK 3 10).HasHigh)] V ?_))))))));refine .Z3 H 0 V V V V V (fun _ => .inl ⟨B5 0 _ V _ V,nofun,(fun _ => by kernel_rfl)⟩) V (.ld (vl Con.cs (ZL (Con.mk 0 2 1 (Range.mk 0 0 false false))).Cons) H 0 V V V V V (fun _ => .inl ⟨B5 0 _ V _ V,nofun,(fun _ => by kernel_rfl)⟩) V ?_);obtain ⟨x3,q3,h⟩:=bs h;refine .jV q3 V (.qV [(.int .i64 x3.X),(.int .i64 x3.Y),(.int .i64 x3.Form),(.int .i64 x3.Range.Low),(.int .i64 x3.Range.High),(.bool x3.Range.HasLow),(.bool x3.Range.HasHigh)] V (.Z3S (sz:=7) ([(Con.mk 0 2 0 (ZK 3 10)),x3].map Con.cs) H (by omega) (by omega) V V V V V V V V V fun σ H => (.Z3 H 1 V V V V V (fun _ => .inl ⟨B5 0 _ V _ V,nofun,(fun _ => by kernel_rfl)⟩) V (.Z3E (cells':=[(vi (ZL (Con.mk 0 2 1 (Range.mk 0 0 false false))).Vars),(vl Form.cs (ZL (Con.mk 0 2 1 (Range.mk 0 0 false false))).Forms),(.buf (b5 + 6) 2 7)]) H 1 V V V V V V V V V (fun _ => .inl ⟨B5 0 _ V _ V,(Z4V (by kernel_rfl))⟩) fun σ H => (.nila H fun H => (.tR 8 V H fun b6 σ H => (.LV [(vi (ZL (Con.mk 0 2 1 (Range.mk 0 0 false false))).Vars),(vl Form.cs (ZL (Con.mk 0 2 1 (Range.mk 0 0 false false))).Forms),(.buf (b5 + 6) 2 7)] H 1 V ?_)))))))
 obtain ⟨x4,q4,h⟩:=bs h;refine .callX (xs:=[(.agg [(vi (ZL (Con.mk 0 2 1 (Range.mk 0 0 false false))).Vars),(vl Form.cs (ZL (Con.mk 0 2 1 (Range.mk 0 0 false false))).Forms),(.buf (b5 + 6) 2 7)]),(vi 10)]) (ys:=[(.agg (vs (Net.cs (Net.mk ((ZL (Con.mk 0 2 1 (Range.mk 0 0 false false))).Vars) ((ZL (Con.mk 0 2 1 (Range.mk 0 0 false false))).Forms) [(Con.mk 0 2 0 (ZK 3 10)),x3])))),(vi 10)]) H V (.cons (.a (.cons (.v _) (.cons (.v _) (.cons (.s 0 V) .nil)))) (.cons (.c (.v _)) .nil)) (Z4N q4) V V nofun V fun σ H => (.m1 (.tup [(.agg [(.v (.int .u8 x4.1.Kind)),(vi x4.1.Net.Vars),(vl Form.cs x4.1.Net.Forms),(vl Con.cs x4.1.Net.Cons),(vl (cL Bound.cs) x4.1.Ticks),(vi x4.1.Rounds)]),(vi x4.2)]) V V (.xV V (.xV V (.ZX (cs:=[(.v (.int .u8 0)),(vi 0),.nils,.nils,.nils,(vi 0)]) H (by omega) (by omega) V V fun σ H => (.sV [(.v (.int .u8 x4.1.Kind)),(vi x4.1.Net.Vars),(vl Form.cs x4.1.Net.Forms),(vl Con.cs x4.1.Net.Cons),(vl (cL Bound.cs) x4.1.Ticks),(vi x4.1.Rounds)] H 0 V fun σ H => (.aV V (.nila H fun H => (.then ?_))))))));refine .tR 49 V H fun b7 σ H => (.mV V (.iV V (.mV V ?_)));refine .md H 4 [(42,(vb ((x1.2 != 0) || (x1.1.Kind != 1)))),(1,(.ptr (b2 + 6) 6 0)),(3,(.ptr (b3 + 7) 6 0)),(4,(vi x2.2)),(6,(.ptr (b6 + 5) 6 0)),(7,(vi x4.2))] [.blk (b6 + 5) 34 [(.v (.int .u8 x4.1.Kind)),(vi x4.1.Net.Vars),(vl Form.cs x4.1.Net.Forms),(vl Con.cs x4.1.Net.Cons),(vl (cL Bound.cs) x4.1.Ticks),(vi x4.1.Rounds)],.blk (b3 + 7) 34 [(.v (.int .u8 x2.1.Kind)),(vi x2.1.Net.Vars),(vl Form.cs x2.1.Net.Forms),(vl Con.cs x2.1.Net.Cons),(vl (cL Bound.cs) x2.1.Ticks),(vi x2.1.Rounds)],.blk (b2 + 6) 34 [(.v (.int .u8 x1.1.Kind)),(vi x1.1.Net.Vars),(vl Form.cs x1.1.Net.Forms),(vl Con.cs x1.1.Net.Cons),(vl (cL Bound.cs) x1.1.Ticks),(vi x1.1.Rounds)]] rfl ?_ fun e σ H => ?_
 ·refine .split V V ?_ ?_ <;> intro hc1
  ·refine .ps 3 V (.kT V (.nil ?_));exact ⟨⟨or_T hc1,V,V,V,V,V,U⟩,((H.erase 2).erase 1).wk (by omega)⟩
  ·refine .fV H 4 V (.lV H 4 V (.iV V (.kF V (.nil ?_))));exact ⟨⟨or_F hc1,V,V,V,V,V,U⟩,((H.erase 2).erase 1).wk (by omega)⟩
 refine .mV V ?_;refine .md H 5 [(48,(vb (((x1.2 != 0) || (x1.1.Kind != 1)) || ((x1.1.Ticks.length:Int) != 3)))),(1,(.ptr (b2 + 6) 6 0)),(3,(.ptr (b3 + 7) 6 0)),(4,(vi x2.2)),(6,(.ptr (b6 + 5) 6 0)),(7,(vi x4.2))] [.blk (b6 + 5) 34 [(.v (.int .u8 x4.1.Kind)),(vi x4.1.Net.Vars),(vl Form.cs x4.1.Net.Forms),(vl Con.cs x4.1.Net.Cons),(vl (cL Bound.cs) x4.1.Ticks),(vi x4.1.Rounds)],.blk (b3 + 7) 34 [(.v (.int .u8 x2.1.Kind)),(vi x2.1.Net.Vars),(vl Form.cs x2.1.Net.Forms),(vl Con.cs x2.1.Net.Cons),(vl (cL Bound.cs) x2.1.Ticks),(vi x2.1.Rounds)],.blk (b2 + 6) 34 [(.v (.int .u8 x1.1.Kind)),(vi x1.1.Net.Vars),(vl Form.cs x1.1.Net.Forms),(vl Con.cs x1.1.Net.Cons),(vl (cL Bound.cs) x1.1.Ticks),(vi x1.1.Rounds)]] rfl ?_ fun e σ H => ?_
 ·refine .split V V ?_ ?_ <;> intro hc2
  ·refine .ps 4 V (.kT V (.nil ?_));exact ⟨⟨or_T hc2,V,V,V,V,V,U⟩,H.wk (by omega)⟩
  ·refine .fV H 2 V (.lV H 2 V (.nV V (.iV V (.kF V (.nil ?_)))));exact ⟨⟨or_F hc2,V,V,V,V,V,U⟩,H.wk (by omega)⟩
 refine .mV V ?_;refine .md H 3 [(52,(vb ((((x1.2 != 0) || (x1.1.Kind != 1)) || ((x1.1.Ticks.length:Int) != 3)) || (x2.2 != 0)))),(1,(.ptr (b2 + 6) 6 0)),(3,(.ptr (b3 + 7) 6 0)),(6,(.ptr (b6 + 5) 6 0)),(7,(vi x4.2))] [.blk (b6 + 5) 34 [(.v (.int .u8 x4.1.Kind)),(vi x4.1.Net.Vars),(vl Form.cs x4.1.Net.Forms),(vl Con.cs x4.1.Net.Cons),(vl (cL Bound.cs) x4.1.Ticks),(vi x4.1.Rounds)],.blk (b3 + 7) 34 [(.v (.int .u8 x2.1.Kind)),(vi x2.1.Net.Vars),(vl Form.cs x2.1.Net.Forms),(vl Con.cs x2.1.Net.Cons),(vl (cL Bound.cs) x2.1.Ticks),(vi x2.1.Rounds)],.blk (b2 + 6) 34 [(.v (.int .u8 x1.1.Kind)),(vi x1.1.Net.Vars),(vl Form.cs x1.1.Net.Forms),(vl Con.cs x1.1.Net.Cons),(vl (cL Bound.cs) x1.1.Ticks),(vi x1.1.Rounds)]] rfl ?_ fun e σ H => ?_
 ·refine .split V V ?_ ?_ <;> intro hc3
  ·refine .ps 2 V (.kT V (.nil ?_));exact ⟨⟨or_T hc3,V,V,V,V,U⟩,H.wk (by omega)⟩
  ·refine .mV V (.iV V (.kF V (.nil ?_)));exact ⟨⟨or_F hc3,V,V,V,V,U⟩,H.wk (by omega)⟩
 refine .mV V ?_;refine .md H 4 [(57,(vb (((((x1.2 != 0) || (x1.1.Kind != 1)) || ((x1.1.Ticks.length:Int) != 3)) || (x2.2 != 0)) || (x2.1.Kind != 2)))),(1,(.ptr (b2 + 6) 6 0)),(6,(.ptr (b6 + 5) 6 0)),(7,(vi x4.2))] [.blk (b6 + 5) 34 [(.v (.int .u8 x4.1.Kind)),(vi x4.1.Net.Vars),(vl Form.cs x4.1.Net.Forms),(vl Con.cs x4.1.Net.Cons),(vl (cL Bound.cs) x4.1.Ticks),(vi x4.1.Rounds)],.blk (b2 + 6) 34 [(.v (.int .u8 x1.1.Kind)),(vi x1.1.Net.Vars),(vl Form.cs x1.1.Net.Forms),(vl Con.cs x1.1.Net.Cons),(vl (cL Bound.cs) x1.1.Ticks),(vi x1.1.Rounds)]] rfl ?_ fun e σ H => ?_
 ·refine .split V V ?_ ?_ <;> intro hc4
  ·refine .ps 3 V (.kT V (.nil ?_));exact ⟨⟨or_T hc4,V,V,V,U⟩,(H.erase 1).wk (by omega)⟩
  ·refine .fV H 1 V (.lV H 1 V (.iV V (.kF V (.nil ?_))));exact ⟨⟨or_F hc4,V,V,V,U⟩,(H.erase 1).wk (by omega)⟩
 refine .mV V ?_;refine .md H 3 [(61,(vb ((((((x1.2 != 0) || (x1.1.Kind != 1)) || ((x1.1.Ticks.length:Int) != 3)) || (x2.2 != 0)) || (x2.1.Kind != 2)) || (x4.2 != 0)))),(1,(.ptr (b2 + 6) 6 0)),(6,(.ptr (b6 + 5) 6 0))] [.blk (b6 + 5) 34 [(.v (.int .u8 x4.1.Kind)),(vi x4.1.Net.Vars),(vl Form.cs x4.1.Net.Forms),(vl Con.cs x4.1.Net.Cons),(vl (cL Bound.cs) x4.1.Ticks),(vi x4.1.Rounds)],.blk (b2 + 6) 34 [(.v (.int .u8 x1.1.Kind)),(vi x1.1.Net.Vars),(vl Form.cs x1.1.Net.Forms),(vl Con.cs x1.1.Net.Cons),(vl (cL Bound.cs) x1.1.Ticks),(vi x1.1.Rounds)]] rfl ?_ fun e σ H => ?_
 ·refine .split V V ?_ ?_ <;> intro hc5
  ·refine .ps 2 V (.kT V (.nil ?_));exact ⟨⟨or_T hc5,V,V,U⟩,H.wk (by omega)⟩
  ·refine .mV V (.iV V (.kF V (.nil ?_)));exact ⟨⟨or_F hc5,V,V,U⟩,H.wk (by omega)⟩
 refine .mV V ?_;refine .md H 6 [(68,(vb (((((((x1.2 != 0) || (x1.1.Kind != 1)) || ((x1.1.Ticks.length:Int) != 3)) || (x2.2 != 0)) || (x2.1.Kind != 2)) || (x4.2 != 0)) || ((x4.1.Net.Cons.length:Int) != 2)))),(1,(.ptr (b2 + 6) 6 0)),(6,(.ptr (b6 + 5) 6 0))] [.blk (b6 + 5) 34 [(.v (.int .u8 x4.1.Kind)),(vi x4.1.Net.Vars),(vl Form.cs x4.1.Net.Forms),(vl Con.cs x4.1.Net.Cons),(vl (cL Bound.cs) x4.1.Ticks),(vi x4.1.Rounds)],.blk (b2 + 6) 34 [(.v (.int .u8 x1.1.Kind)),(vi x1.1.Net.Vars),(vl Form.cs x1.1.Net.Forms),(vl Con.cs x1.1.Net.Cons),(vl (cL Bound.cs) x1.1.Ticks),(vi x1.1.Rounds)]] rfl ?_ fun e σ H => ?_
 ·refine .split V V ?_ ?_ <;> intro hc6
  ·refine .ps 5 V (.kT V (.nil ?_));exact ⟨⟨or_T hc6,V,V,U⟩,H.wk (by omega)⟩
  ·refine .fV H 0 V (.fV H 0 V (.lV H 0 V (.nV V (.iV V (.kF V (.nil ?_))))));exact ⟨⟨or_F hc6,V,V,U⟩,H.wk (by omega)⟩
 refine .mV V ?_;obtain ⟨y1,hj1,h⟩:=bs h;refine .md H 7 [(76,(vb y1)),(1,(.ptr (b2 + 6) 6 0)),(6,(.ptr (b6 + 5) 6 0))] [.blk (b6 + 5) 34 [(.v (.int .u8 x4.1.Kind)),(vi x4.1.Net.Vars),(vl Form.cs x4.1.Net.Forms),(vl Con.cs x4.1.Net.Cons),(vl (cL Bound.cs) x4.1.Ticks),(vi x4.1.Rounds)],.blk (b2 + 6) 34 [(.v (.int .u8 x1.1.Kind)),(vi x1.1.Net.Vars),(vl Form.cs x1.1.Net.Forms),(vl Con.cs x1.1.Net.Cons),(vl (cL Bound.cs) x1.1.Ticks),(vi x1.1.Rounds)]] V ?_ fun e σ H => ?_
 ·refine .sp hj1 V ?_ ?_ <;> intro h
  ·refine .ps 6 V (.kT V (.nil ?_));obtain rfl:=sj h;exact ⟨EI V,H.wk (by omega)⟩
  refine .fV H 1 V (.lV H 1 V (.wt V V ?_));obtain ⟨x5,q5,h⟩:=bs h;refine .jV q5 V (.pV V (.nV V (.iV V (.kF V (.nil ?_)))));obtain rfl:=sj h;exact ⟨EI V,H.wk (by omega)⟩
 refine .mV V ?_;obtain ⟨y2,hj2,h⟩:=bs h;refine .md H 7 [(84,(vb y2)),(1,(.ptr (b2 + 6) 6 0)),(6,(.ptr (b6 + 5) 6 0))] [.blk (b6 + 5) 34 [(.v (.int .u8 x4.1.Kind)),(vi x4.1.Net.Vars),(vl Form.cs x4.1.Net.Forms),(vl Con.cs x4.1.Net.Cons),(vl (cL Bound.cs) x4.1.Ticks),(vi x4.1.Rounds)],.blk (b2 + 6) 34 [(.v (.int .u8 x1.1.Kind)),(vi x1.1.Net.Vars),(vl Form.cs x1.1.Net.Forms),(vl Con.cs x1.1.Net.Cons),(vl (cL Bound.cs) x1.1.Ticks),(vi x1.1.Rounds)]] V ?_ fun e σ H => ?_
 ·refine .sp hj2 V ?_ ?_ <;> intro h
  ·refine .ps 6 V (.kT V (.nil ?_));obtain rfl:=sj h;exact ⟨EI V,H.wk (by omega)⟩
  refine .fV H 1 V (.lV H 1 V (.wt V V ?_));obtain ⟨x6,q6,h⟩:=bs h;refine .jV q6 V (.pV V (.nV V (.iV V (.kF V (.nil ?_)))));obtain rfl:=sj h;exact ⟨EI V,H.wk (by omega)⟩
 refine .nila H fun H => ?_;refine .wh h V ?_ ?_ <;> intro h
 ·refine .tR 1 V H fun b8 σ H => (.aV V (.nila H fun H => (.ret ?_)));obtain rfl:=sj h;exact Ends.eR V
 refine .skip (.then (.Z0h 29 V (by kernel_rfl) H fun b9 σ H B9 => (.Z3 H 1 V V V V V (fun _ => .inl ⟨B9 1 _ V _ V,nofun,(fun _ => by kernel_rfl)⟩) V (.ld (vl (cL Bound.cs) x1.1.Ticks) H 1 V V V V V (fun _ => .inl ⟨B9 1 _ V _ V,nofun,(fun _ => by kernel_rfl)⟩) V ?_))));obtain ⟨x7,q7,h⟩:=bs h;refine .jV q7 V (.pV V ?_);obtain ⟨x8,q8,h⟩:=bs h;refine .jV q8 V (.qV [(.int .i8 x8.Inf),(.int .i64 x8.N)] V (.bV [(.v (.int .i8 0)),(vi 14)] V (.binA (u:=(.agg [(.v (.int .i8 x8.Inf)),(vi x8.N)])) (w:=(.agg [(.v (.int .i8 0)),(vi 14)])) (r:=.bool ((x8.Inf == 0) && ((x8.N == 14) && true))) V V (by kernel_rfl) (fun _ => Z7l V V V V) V (.mV V ?_))));obtain ⟨y3,hj3,h⟩:=bs h;refine .md H 9 [(102,(vb y3)),(6,(.ptr (b6 + 5) 6 0))] [.blk (b6 + 5) 34 [(.v (.int .u8 x4.1.Kind)),(vi x4.1.Net.Vars),(vl Form.cs x4.1.Net.Forms),(vl Con.cs x4.1.Net.Cons),(vl (cL Bound.cs) x4.1.Ticks),(vi x4.1.Rounds)]] V ?_ fun e σ H => ?_
 ·refine .sp hj3 V ?_ ?_ <;> intro h
  ·refine .wt V V (.Z3 H 1 V V V V V (fun _ => .inl ⟨B9 1 _ V _ V,nofun,(fun _ => by kernel_rfl)⟩) V (.wt V V (.ld (vl (cL Bound.cs) x1.1.Ticks) H 1 V V V V V (fun _ => .inl ⟨B9 1 _ V _ V,nofun,(fun _ => by kernel_rfl)⟩) V (.wt V V ?_))));obtain ⟨x9,q9,h⟩:=bs h;refine .jV q9 V (.pV V (.wt V V ?_));obtain ⟨x10,q10,h⟩:=bs h;refine .jV q10 V (.qV [(.int .i8 x10.Inf),(.int .i64 x10.N)] V (.bV [(.v (.int .i8 0)),(vi (-5))] V (.wt V V (.binA (u:=(.agg [(.v (.int .i8 x10.Inf)),(vi x10.N)])) (w:=(.agg [(.v (.int .i8 0)),(vi (-5))])) (r:=.bool ((x10.Inf == 0) && ((x10.N == (-5)) && true))) V V (by kernel_rfl) (fun _ => Z7l V V V V) V (.kT V (.nil ?_))))));obtain rfl:=sj h;exact ⟨EI V,(H.erase 1).wk (by omega)⟩
  refine .ps 8 V (.kF V (.nil ?_));obtain rfl:=sj h;exact ⟨EI V,(H.erase 1).wk (by omega)⟩
 refine .mV V ?_;obtain ⟨y4,hj4,h⟩:=bs h;refine .md H 9 [(112,(vb y4))] [] V ?_ fun e σ H => ?_
 ·refine .sp hj4 V ?_ ?_ <;> intro h
  ·refine .wt V V (.Z3 H 0 V V V V V (fun _ => .inl ⟨B9 0 _ V _ V,nofun,(fun _ => by kernel_rfl)⟩) V (.wt V V (.Z3 H 0 V V V V V (fun _ => .inl ⟨B9 0 _ V _ V,nofun,(fun _ => by kernel_rfl)⟩) V (.wt V V (.ld (vl Con.cs x4.1.Net.Cons) H 0 V V V V V (fun _ => .inl ⟨B9 0 _ V _ V,nofun,(fun _ => by kernel_rfl)⟩) V (.wt V V ?_))))));obtain ⟨x11,q11,h⟩:=bs h;refine .jV q11 V (.wt V V (.Z0E V V V V (.qV [(.int .i64 x11.Range.Low),(.int .i64 x11.Range.High),(.bool x11.Range.HasLow),(.bool x11.Range.HasHigh)] V (.cV (Z5p V) V (.wt V V (.binA (u:=(.agg [(vi x11.Range.Low),(vi x11.Range.High),(vb x11.Range.HasLow),(vb x11.Range.HasHigh)])) (w:=(.agg [(vi (ZK 0 2).Low),(vi (ZK 0 2).High),(vb (ZK 0 2).HasLow),(vb (ZK 0 2).HasHigh)])) (r:=.bool ((x11.Range.Low == ((ZK 0 2).Low)) && ((x11.Range.High == ((ZK 0 2).High)) && ((x11.Range.HasLow == ((ZK 0 2).HasLow)) && ((x11.Range.HasHigh == ((ZK 0 2).HasHigh)) && true))))) V V (by kernel_rfl) (fun _ => Z7l V V V V) V (.kT V (.nil ?_))))))));obtain rfl:=sj h;exact ⟨EI V,(H.erase 0).wk (by omega)⟩
  refine .ps 8 V (.kF V (.nil ?_));obtain rfl:=sj h;exact ⟨EI V,(H.erase 0).wk (by omega)⟩
 refine .aV V (.nila H fun H => (.ret ?_));obtain rfl:=sj h;exact Ends.eR V
theorem Z3j {r:Bool} (h:Z0U = r):Fn CX 11 [] (vb r):=by
 subst h;exact Z8g Z7p
theorem Z9f {f:Form} {r:Bool} (h:Z0s f = some r):Fn CX 60 [(.agg (vs (Form.cs f)))] (vb r):=by
 refine Fn.go Tryz.func60 V fun σ H => ?_;unfold Z0s at h;refine .tR 2 V H fun b1 σ H => (.boxH (cs:=(vF f)) H (by omega) (by omega) V V V fun σ H => (.aV V (.nila H fun H => (.tR 16 V H fun b2 σ H => (.fV H 0 V (.lV H 0 V (.nV V (.iV V ?_))))))));refine .mV V ?_;refine .md H 5 [(12,(vb ((decide ((f.Core.length:Int)≤12)) && (decide ((f.Odd.length:Int)≤8))))),(1,(.ptr (b1 + 0) 4 0))] [.blk (b1 + 0) 64 (vF f)] V ?_ fun e σ H => ?_
 ·refine .split V V ?_ ?_ <;> intro hc1
  ·refine .fV H 0 V (.lV H 0 V (.nV V (.iV V (.kT V (.nil ?_)))));exact ⟨⟨Z0q hc1,V,U⟩,H.wk (by omega)⟩
  ·refine .ps 4 V (.kF V (.nil ?_));exact ⟨⟨Z0p hc1,V,U⟩,H.wk (by omega)⟩
 refine .mV V ?_;obtain ⟨y1,hj1,h⟩:=bs h;refine .md H 4 [(17,(vb y1))] [] V ?_ fun e σ H => ?_
 ·refine .sp hj1 V ?_ ?_ <;> intro h
  ·refine .LV (vF f) H 0 V (.wt V V ?_);obtain ⟨x1,q1,h⟩:=bs h;refine .cV (ZBD q1) V (.iV V (.kT V (.nil ?_)));obtain rfl:=sj h;exact ⟨EI V,(H.erase 0).wk (by omega)⟩
  refine .ps 3 V (.kF V (.nil ?_));obtain rfl:=sj h;exact ⟨EI V,(H.erase 0).wk (by omega)⟩
 refine .aV V (.nila H fun H => (.ret ?_));obtain rfl:=sj h;exact Ends.eR V
theorem ZAK {f:Form} {r:Bool} (h:ZU f = some r):Fn CX 38 [(.agg (vs (Form.cs f)))] (vb r):=by
 refine Fn.go Tryz.func38 V fun σ H => ?_;unfold ZU at h;refine .tR 2 V H fun b1 σ H => (.boxH (cs:=(vF f)) H (by omega) (by omega) V V V fun σ H => (.aV V (.nila H fun H => (.then (.tR 13 V H fun b2 σ H => (.LV (vF f) H 0 V ?_))))));obtain ⟨x1,q1,h⟩:=bs h;refine .cV (Z9f q1) V (.tV V (.mV V ?_));obtain ⟨y1,hj1,h⟩:=bs h;refine .md H 4 [(16,(vb y1)),(1,(.ptr (b1 + 0) 4 0))] [.blk (b1 + 0) 64 (vF f)] V ?_ fun e σ H => ?_
 ·refine .sp hj1 V ?_ ?_ <;> intro h
  ·refine .ps 3 V (.kT V (.nil ?_));obtain rfl:=sj h;exact ⟨EI V,H.wk (by omega)⟩
  refine .LV (vF f) H 0 V (.wt V V ?_);obtain ⟨x2,q2,h⟩:=bs h;refine .cV (Z9t q2) V (.iV V (.kF V (.nil ?_)));obtain rfl:=sj h;exact ⟨EI V,H.wk (by omega)⟩
 refine .mV V ?_;refine .md H 4 [(21,(vb (y1 || (decide (f.Period > 200))))),(1,(.ptr (b1 + 0) 4 0))] [.blk (b1 + 0) 64 (vF f)] rfl ?_ fun e σ H => ?_
 ·refine .split V V ?_ ?_ <;> intro hc2
  ·refine .ps 3 V (.kT V (.nil ?_));exact ⟨⟨or_T hc2,V,U⟩,H.wk (by omega)⟩
  ·refine .fV H 0 V (.lV H 0 V (.iV V (.kF V (.nil ?_))));exact ⟨⟨or_F hc2,V,U⟩,H.wk (by omega)⟩
 refine .nila H fun H => ?_;refine .wh h V ?_ ?_ <;> intro h
 ·refine .tR 1 V H fun b3 σ H => (.aV V (.nila H fun H => (.ret ?_)));obtain rfl:=sj h;exact Ends.eR V
 refine .skip (.then (.tR 4 V H fun b4 σ H => (.fV H 0 V (.lV H 0 V (.nV V (.mV V (.nila H fun H => (.inBlock ?_))))))));obtain ⟨y2,hj2,h⟩:=bs h;obtain ⟨n1,hj2⟩:=ZW.1 hj2;refine .mono (Runs.loopO hj2 (fun s1 e σ => Z9 e [(1,(.ptr (b1 + 0) 4 0)),(23,(vl (cL Span.cs) f.Core)),(24,(vi (f.Core.length:Int))),(25,(vi s1))]∧Hs σ [.blk (b1 + 0) 64 (vF f)]) (fun y2 x e σ => (∃ a1,y2 = (.go a1)∧x = .exit 0∧Z9 e [(1,(.ptr (b1 + 0) 4 0))]∧Hs σ [.blk (b1 + 0) 64 (vF f)])∨(∃ r',y2 = (.ret r')∧x = .ret∧Ends CX Tryz.f38.results.toList (vb r') x e σ)) ⟨EI V,H⟩ ?_) ?_
 ·intro s1 e σ hI z h;obtain ⟨he,H⟩:=hI;obtain ⟨e,rfl⟩:=he.ex;unfold ZU.s0 at h;refine .tR 1 V H fun b5 σ H => (.iV V (.nila H fun H => (.then ?_)));refine .wh h V ?_ ?_ <;> intro h
  ·refine .skip (.then (.inBlock (.tR 3 V H fun b6 σ H => ?_)));obtain ⟨x3,q3,h⟩:=bs h;refine .jV q3 V (.pV V (.aV V (.nila H fun H => (.tR 8 V H fun b7 σ H => (.mV V ?_)))));obtain ⟨x4,q4,h⟩:=bs h;refine .cV (Z5G q4) V (.m1 (.tup [(.agg [(vi x4.1.From),(vi x4.1.To)]),(vb x4.2)]) V V (.xV V (.xV V (.ZX (cs:=[(vi 0),(vi 0)]) H (by omega) (by omega) V V fun σ H => (.sV [(vi x4.1.From),(vi x4.1.To)] H 0 V fun σ H => (.aV V (.nila H fun H => (.tR 11 V H fun b8 σ H => ?_))))))));refine .mV V (.mV V ?_);refine .md H 9 [(44,(vb (x4.2 && ((decide (x4.1.From < (-100))) || (decide (x4.1.To > 100)))))),(1,(.ptr (b1 + 0) 4 0)),(23,(vl (cL Span.cs) f.Core)),(24,(vi (f.Core.length:Int))),(25,(vi s1))] [.blk (b1 + 0) 64 (vF f)] rfl ?_ fun e σ H => ?_
   ·refine .split V V ?_ ?_ <;> intro hc5
    ·refine .fV H 0 V (.lV H 0 V (.iV V (.mV V ?_)));refine .md H 4 [(43,(vb ((decide (x4.1.From < (-100))) || (decide (x4.1.To > 100))))),(1,(.ptr (b1 + 0) 4 0)),(23,(vl (cL Span.cs) f.Core)),(24,(vi (f.Core.length:Int))),(25,(vi s1)),(35,(vb true))] [.blk (b1 + 0) 64 (vF f)] rfl ?_ fun e σ H => ?_
     ·refine .split V V ?_ ?_ <;> intro hc6
      ·refine .ps 3 V (.kT V (.nil ?_));exact ⟨⟨or_T hc6,V,V,V,V,V,U⟩,(H.erase 0).wk (by omega)⟩
      ·refine .fV H 0 V (.lV H 0 V (.iV V (.kF V (.nil ?_))));exact ⟨⟨or_F hc6,V,V,V,V,V,U⟩,(H.erase 0).wk (by omega)⟩
     refine .kT V (.nil ?_);exact ⟨⟨Z0q hc5,V,V,V,V,U⟩,H.wk (by omega)⟩
    ·refine .ps 8 V (.kF V (.nil ?_));exact ⟨⟨Z0p hc5,V,V,V,V,U⟩,(H.erase 0).wk (by omega)⟩
   refine .nila H fun H => ?_;refine .wh h V ?_ ?_ <;> intro h
   ·refine .tR 1 V H fun b9 σ H => (.aV V (.nila H fun H => (.ret ?_)));obtain rfl:=sj h;exact ⟨nofun,(.inr ⟨_,V,V,(Ends.H (xs:=[(vb false)]) (.inr V) H (.tmp (v:=(vb false)) V .nil) (.one (.c (.v _))))⟩)⟩
   refine .skip (.ZB 2 V H fun b10 σ H => (.iV V (.mV V (.nila H fun H => ?_))));obtain rfl:=sj h;exact ⟨V,EI V,H⟩
  refine .exit ?_;obtain rfl:=sj h;exact ⟨nofun,(.inl ⟨_,V,V,EI V,H⟩)⟩
 ·rintro x e σ (⟨a2,rfl,rfl,he,H⟩ | ⟨r',rfl,rfl,hE⟩)
  ·replace h:=jgo h;obtain ⟨e,rfl⟩:=he.ex;refine .then (.tR 4 V H fun b11 σ H => (.fV H 0 V (.lV H 0 V (.nV V (.mV V (.nila H fun H => (.inBlock ?_)))))));obtain ⟨y3,hj3,h⟩:=bs h;obtain ⟨n2,hj3⟩:=ZW.1 hj3;refine .mono (Runs.loopO hj3 (fun s2 e σ => Z9 e [(47,(vl Granule.cs f.Odd)),(48,(vi (f.Odd.length:Int))),(49,(vi s2))]∧Hs σ []) (fun y3 x e σ => (∃ a3,y3 = (.go a3)∧x = .exit 2∧Z9 e []∧Hs σ [])∨(∃ r',y3 = (.ret r')∧x = .ret∧Ends CX Tryz.f38.results.toList (vb r') x e σ)) ⟨EI V,(H.erase 0)⟩ ?_) ?_
   ·intro s2 e σ hI z h;obtain ⟨he,H⟩:=hI;obtain ⟨e,rfl⟩:=he.ex;unfold ZU.s1 at h;refine .tR 1 V H fun b12 σ H => (.iV V (.nila H fun H => (.then ?_)));refine .wh h V ?_ ?_ <;> intro h
    ·refine .skip (.then (.inBlock (.tR 4 V H fun b13 σ H => ?_)));obtain ⟨x5,q5,h⟩:=bs h;refine .jV q5 V (.qV [(.int .i64 x5.Index),(.sl (x5.Ticks.map Span.cs))] V (.ZX (cs:=[(vi 0),.nils]) H (by omega) (by omega) V V fun σ H => (.sV [(vi x5.Index),(vl Span.cs x5.Ticks)] H 0 V fun σ H => (.nila H fun H => (.tR 8 V H fun b14 σ H => (.fV H 0 V (.lV H 0 V (.iV V ?_))))))));refine .mV V ?_;refine .md H 4 [(60,(vb ((decide (x5.Index < (-100))) || (decide (x5.Index > 100))))),(47,(vl Granule.cs f.Odd)),(48,(vi (f.Odd.length:Int))),(49,(vi s2))] [] rfl ?_ fun e σ H => ?_
     ·refine .split V V ?_ ?_ <;> intro hc9
      ·refine .ps 3 V (.kT V (.nil ?_));exact ⟨⟨or_T hc9,V,V,V,U⟩,(H.erase 0).wk (by omega)⟩
      ·refine .fV H 0 V (.lV H 0 V (.iV V (.kF V (.nil ?_))));exact ⟨⟨or_F hc9,V,V,V,U⟩,(H.erase 0).wk (by omega)⟩
     refine .nila H fun H => ?_;refine .wh h V ?_ ?_ <;> intro h
     ·refine .tR 1 V H fun b15 σ H => (.aV V (.nila H fun H => (.ret ?_)));obtain rfl:=sj h;exact ⟨nofun,(.inr ⟨_,V,V,(Ends.H (xs:=[(vb false)]) (.inr V) H (.tmp (v:=(vb false)) V .nil) (.one (.c (.v _))))⟩)⟩
     refine .skip (.ZB 2 V H fun b16 σ H => (.iV V (.mV V (.nila H fun H => ?_))));obtain rfl:=sj h;exact ⟨V,EI V,H⟩
    refine .exit ?_;obtain rfl:=sj h;exact ⟨nofun,(.inl ⟨_,V,V,U,H⟩)⟩
   ·rintro x e σ (⟨a4,rfl,rfl,he,H⟩ | ⟨r',rfl,rfl,hE⟩)
    ·replace h:=jgo h;obtain ⟨e,rfl⟩:=he.ex;refine .tR 1 V H fun b17 σ H => (.aV V (.nila H fun H => (.ret ?_)));obtain rfl:=sj h;exact Ends.eR V
    ·replace h:=jret h;obtain rfl:=sj h;exact hE
  ·replace h:=jret h;obtain rfl:=sj h;exact hE
theorem ZBI {n:Net} {r:Bool} (h:Zv n = some r):Fn CX 12 [(.agg (vs (Net.cs n)))] (vb r):=by
 refine Fn.go Tryz.func12 V fun σ H => ?_;unfold Zv at h;refine .tR 2 V H fun b1 σ H => (.boxH (cs:=[(vi n.Vars),(vl Form.cs n.Forms),(vl Con.cs n.Cons)]) H (by omega) (by omega) V V V fun σ H => (.aV V (.nila H fun H => (.then (.tR 15 V H fun b2 σ H => (.fV H 0 V (.lV H 0 V (.nV V ?_))))))));refine .iV V (.mV V ?_);refine .md H 5 [(14,(vb ((decide ((n.Forms.length:Int) > 4)) || (decide ((n.Cons.length:Int) > 8))))),(1,(.ptr (b1 + 0) 3 0))] [.blk (b1 + 0) 25 [(vi n.Vars),(vl Form.cs n.Forms),(vl Con.cs n.Cons)]] rfl ?_ fun e σ H => ?_
 ·refine .split V V ?_ ?_ <;> intro hc1
  ·refine .ps 4 V (.kT V (.nil ?_));exact ⟨⟨or_T hc1,V,U⟩,H.wk (by omega)⟩
  ·refine .fV H 0 V (.lV H 0 V (.nV V (.iV V (.kF V (.nil ?_)))));exact ⟨⟨or_F hc1,V,U⟩,H.wk (by omega)⟩
 refine .mV V ?_;refine .md H 4 [(19,(vb (((decide ((n.Forms.length:Int) > 4)) || (decide ((n.Cons.length:Int) > 8))) || (decide (n.Vars > 8))))),(1,(.ptr (b1 + 0) 3 0))] [.blk (b1 + 0) 25 [(vi n.Vars),(vl Form.cs n.Forms),(vl Con.cs n.Cons)]] rfl ?_ fun e σ H => ?_
 ·refine .split V V ?_ ?_ <;> intro hc2
  ·refine .ps 3 V (.kT V (.nil ?_));exact ⟨⟨or_T hc2,V,U⟩,H.wk (by omega)⟩
  ·refine .fV H 0 V (.lV H 0 V (.iV V (.kF V (.nil ?_))));exact ⟨⟨or_F hc2,V,U⟩,H.wk (by omega)⟩
 refine .nila H fun H => ?_;refine .wh h V ?_ ?_ <;> intro h
 ·refine .tR 1 V H fun b3 σ H => (.aV V (.nila H fun H => (.ret ?_)));obtain rfl:=sj h;exact Ends.eR V
 refine .skip (.then (.tR 4 V H fun b4 σ H => (.fV H 0 V (.lV H 0 V (.nV V (.mV V (.nila H fun H => (.inBlock ?_))))))));obtain ⟨y1,hj1,h⟩:=bs h;obtain ⟨n1,hj1⟩:=ZW.1 hj1;refine .mono (Runs.loopO hj1 (fun s1 e σ => Z9 e [(1,(.ptr (b1 + 0) 3 0)),(21,(vl Form.cs n.Forms)),(22,(vi (n.Forms.length:Int))),(23,(vi s1))]∧Hs σ [.blk (b1 + 0) 25 [(vi n.Vars),(vl Form.cs n.Forms),(vl Con.cs n.Cons)]]) (fun y1 x e σ => (∃ a1,y1 = (.go a1)∧x = .exit 0∧Z9 e [(1,(.ptr (b1 + 0) 3 0))]∧Hs σ [.blk (b1 + 0) 25 [(vi n.Vars),(vl Form.cs n.Forms),(vl Con.cs n.Cons)]])∨(∃ r',y1 = (.ret r')∧x = .ret∧Ends CX Tryz.f12.results.toList (vb r') x e σ)) ⟨EI V,H⟩ ?_) ?_
 ·intro s1 e σ hI z h;obtain ⟨he,H⟩:=hI;obtain ⟨e,rfl⟩:=he.ex;unfold Zv.s0 at h;refine .tR 1 V H fun b5 σ H => (.iV V (.nila H fun H => (.then ?_)));refine .wh h V ?_ ?_ <;> intro h
  ·refine .skip (.then (.inBlock (.tR 4 V H fun b6 σ H => ?_)));obtain ⟨x1,q1,h⟩:=bs h;refine .jV q1 V (.qV [(.int .i64 x1.Period),(.int .i64 x1.Count),(.sl (x1.Core.map (cL Span.cs))),(.sl (x1.Odd.map Granule.cs))] V (.ZX (cs:=[(vi 0),(vi 0),.nils,.nils]) H (by omega) (by omega) V V fun σ H => (.sV (vF x1) H 0 V fun σ H => (.nila H fun H => (.tR 3 V H fun b7 σ H => (.LV (vF x1) H 0 V ?_))))));obtain ⟨x2,q2,h⟩:=bs h;refine .cV (ZAK q2) V (.tV V (.nila H fun H => ?_));refine .wh h V ?_ ?_ <;> intro h
   ·refine .tR 1 V H fun b8 σ H => (.aV V (.nila H fun H => (.ret ?_)));obtain rfl:=sj h;exact ⟨nofun,(.inr ⟨_,V,V,(Ends.H (xs:=[(vb false)]) (.inr V) H (.tmp (v:=(vb false)) V .nil) (.one (.c (.v _))))⟩)⟩
   refine .skip (.ZB 2 V H fun b9 σ H => (.iV V (.mV V (.nila H fun H => ?_))));obtain rfl:=sj h;exact ⟨V,EI V,(H.erase 0)⟩
  refine .exit ?_;obtain rfl:=sj h;exact ⟨nofun,(.inl ⟨_,V,V,EI V,H⟩)⟩
 ·rintro x e σ (⟨a2,rfl,rfl,he,H⟩ | ⟨r',rfl,rfl,hE⟩)
  ·replace h:=jgo h;obtain ⟨e,rfl⟩:=he.ex;refine .tR 4 V H fun b10 σ H => (.LV [(vi n.Vars),(vl Form.cs n.Forms),(vl Con.cs n.Cons)] H 0 V ?_);obtain ⟨x3,q3,h⟩:=bs h;refine .cV (Z63 q3) V (.iV V (.aV V (.nila H fun H => (.ret ?_))));obtain rfl:=sj h;exact Ends.eR V
  ·replace h:=jret h;obtain rfl:=sj h;exact hE
theorem Z8Y {n:Net} {rounds:Int} {a:Range} {b:Range} {r:Bool} (h:Z0b n rounds a b = some r):Fn CX 3 [(.agg (vs (Net.cs n))),(vi rounds),(.agg (vs (Range.cs a))),(.agg (vs (Range.cs b)))] (vb r):=by
 refine Fn.go Tryz.func3 V fun σ H => ?_;unfold Z0b at h;refine .tR 4 V H fun b1 σ H => (.boxH (cs:=[(vi n.Vars),(vl Form.cs n.Forms),(vl Con.cs n.Cons)]) H (by omega) (by omega) V V V fun σ H => (.boxH (cs:=[(vi a.Low),(vi a.High),(vb a.HasLow),(vb a.HasHigh)]) H (by omega) (by omega) V V V fun σ H => (.boxH (cs:=[(vi b.Low),(vi b.High),(vb b.HasLow),(vb b.HasHigh)]) H (by omega) (by omega) V V V fun σ H => (.aV V (.nila H fun H => (.tR 9 V H fun b2 σ H => (.LV [(vi a.Low),(vi a.High),(vb a.HasLow),(vb a.HasHigh)] H 1 V (.LV [(vi b.Low),(vi b.High),(vb b.HasLow),(vb b.HasHigh)] H 0 V ?_))))))));obtain ⟨x1,q1,h⟩:=bs h;refine .cV (Z7z q1) V (.m1 (.tup [(.agg [(vi x1.1.Low),(vi x1.1.High),(vb x1.1.HasLow),(vb x1.1.HasHigh)]),(vb x1.2)]) V V (.xV V (.xV V (.ZX (cs:=[(vi 0),(vi 0),(vb false),(vb false)]) H (by omega) (by omega) V V fun σ H => (.sV [(vi x1.1.Low),(vi x1.1.High),(vb x1.1.HasLow),(vb x1.1.HasHigh)] H 0 V fun σ H => (.aV V (.nila H fun H => (.tR 9 V H fun b3 σ H => ?_))))))));refine .LV [(vi b.Low),(vi b.High),(vb b.HasLow),(vb b.HasHigh)] H 1 V (.LV [(vi a.Low),(vi a.High),(vb a.HasLow),(vb a.HasHigh)] H 2 V ?_);obtain ⟨x2,q2,h⟩:=bs h;refine .cV (Z7z q2) V (.m1 (.tup [(.agg [(vi x2.1.Low),(vi x2.1.High),(vb x2.1.HasLow),(vb x2.1.HasHigh)]),(vb x2.2)]) V V (.xV V (.xV V (.ZX (cs:=[(vi 0),(vi 0),(vb false),(vb false)]) H (by omega) (by omega) V V fun σ H => (.sV [(vi x2.1.Low),(vi x2.1.High),(vb x2.1.HasLow),(vb x2.1.HasHigh)] H 0 V fun σ H => (.aV V (.nila H fun H => (.then ?_))))))))
 refine .tR 35 V H fun b4 σ H => (.fV H 3 V (.lV H 3 V (.mV V ?_)));refine .md H 4 [(44,(vb (a.HasLow || (a.Low == 0)))),(1,(vi rounds)),(4,(.ptr (b1 + 0) 3 0)),(6,(.ptr (b1 + 1) 4 0)),(7,(.ptr (b1 + 2) 4 0)),(9,(.ptr (b2 + 6) 4 0)),(10,(vb x1.2)),(11,(.ptr (b3 + 6) 4 0)),(12,(vb x2.2))] [.blk (b3 + 6) 27 [(vi x2.1.Low),(vi x2.1.High),(vb x2.1.HasLow),(vb x2.1.HasHigh)],.blk (b2 + 6) 27 [(vi x1.1.Low),(vi x1.1.High),(vb x1.1.HasLow),(vb x1.1.HasHigh)],.blk (b1 + 2) 27 [(vi b.Low),(vi b.High),(vb b.HasLow),(vb b.HasHigh)],.blk (b1 + 1) 27 [(vi a.Low),(vi a.High),(vb a.HasLow),(vb a.HasHigh)],.blk (b1 + 0) 25 [(vi n.Vars),(vl Form.cs n.Forms),(vl Con.cs n.Cons)]] rfl ?_ fun e σ H => ?_
 ·refine .split V V ?_ ?_ <;> intro hc1
  ·refine .ps 3 V (.kT V (.nil ?_));exact ⟨⟨or_T hc1,V,V,V,V,V,V,V,V,U⟩,H.wk (by omega)⟩
  ·refine .fV H 3 V (.lV H 3 V (.iV V (.kF V (.nil ?_))));exact ⟨⟨or_F hc1,V,V,V,V,V,V,V,V,U⟩,H.wk (by omega)⟩
 refine .mV V ?_;refine .md H 8 [(53,(vb ((a.HasLow || (a.Low == 0)) && (b.HasLow || (b.Low == 0))))),(1,(vi rounds)),(4,(.ptr (b1 + 0) 3 0)),(6,(.ptr (b1 + 1) 4 0)),(7,(.ptr (b1 + 2) 4 0)),(9,(.ptr (b2 + 6) 4 0)),(10,(vb x1.2)),(11,(.ptr (b3 + 6) 4 0)),(12,(vb x2.2))] [.blk (b3 + 6) 27 [(vi x2.1.Low),(vi x2.1.High),(vb x2.1.HasLow),(vb x2.1.HasHigh)],.blk (b2 + 6) 27 [(vi x1.1.Low),(vi x1.1.High),(vb x1.1.HasLow),(vb x1.1.HasHigh)],.blk (b1 + 2) 27 [(vi b.Low),(vi b.High),(vb b.HasLow),(vb b.HasHigh)],.blk (b1 + 1) 27 [(vi a.Low),(vi a.High),(vb a.HasLow),(vb a.HasHigh)],.blk (b1 + 0) 25 [(vi n.Vars),(vl Form.cs n.Forms),(vl Con.cs n.Cons)]] rfl ?_ fun e σ H => ?_
 ·refine .split V V ?_ ?_ <;> intro hc2
  ·refine .fV H 2 V (.lV H 2 V (.mV V ?_));refine .md H 4 [(52,(vb (b.HasLow || (b.Low == 0)))),(1,(vi rounds)),(4,(.ptr (b1 + 0) 3 0)),(6,(.ptr (b1 + 1) 4 0)),(7,(.ptr (b1 + 2) 4 0)),(9,(.ptr (b2 + 6) 4 0)),(10,(vb x1.2)),(11,(.ptr (b3 + 6) 4 0)),(12,(vb x2.2)),(45,(vb true))] [.blk (b3 + 6) 27 [(vi x2.1.Low),(vi x2.1.High),(vb x2.1.HasLow),(vb x2.1.HasHigh)],.blk (b2 + 6) 27 [(vi x1.1.Low),(vi x1.1.High),(vb x1.1.HasLow),(vb x1.1.HasHigh)],.blk (b1 + 2) 27 [(vi b.Low),(vi b.High),(vb b.HasLow),(vb b.HasHigh)],.blk (b1 + 1) 27 [(vi a.Low),(vi a.High),(vb a.HasLow),(vb a.HasHigh)],.blk (b1 + 0) 25 [(vi n.Vars),(vl Form.cs n.Forms),(vl Con.cs n.Cons)]] rfl ?_ fun e σ H => ?_
   ·refine .split V V ?_ ?_ <;> intro hc3
    ·refine .ps 3 V (.kT V (.nil ?_));exact ⟨⟨or_T hc3,V,V,V,V,V,V,V,V,V,U⟩,H.wk (by omega)⟩
    ·refine .fV H 2 V (.lV H 2 V (.iV V (.kF V (.nil ?_))));exact ⟨⟨or_F hc3,V,V,V,V,V,V,V,V,V,U⟩,H.wk (by omega)⟩
   refine .kT V (.nil ?_);exact ⟨⟨Z0q hc2,V,V,V,V,V,V,V,V,U⟩,H.wk (by omega)⟩
  ·refine .ps 7 V (.kF V (.nil ?_));exact ⟨⟨Z0p hc2,V,V,V,V,V,V,V,V,U⟩,H.wk (by omega)⟩
 refine .mV V ?_;refine .md H 8 [(62,(vb (((a.HasLow || (a.Low == 0)) && (b.HasLow || (b.Low == 0))) && (a.HasHigh || (a.High == 0))))),(1,(vi rounds)),(4,(.ptr (b1 + 0) 3 0)),(7,(.ptr (b1 + 2) 4 0)),(9,(.ptr (b2 + 6) 4 0)),(10,(vb x1.2)),(11,(.ptr (b3 + 6) 4 0)),(12,(vb x2.2))] [.blk (b3 + 6) 27 [(vi x2.1.Low),(vi x2.1.High),(vb x2.1.HasLow),(vb x2.1.HasHigh)],.blk (b2 + 6) 27 [(vi x1.1.Low),(vi x1.1.High),(vb x1.1.HasLow),(vb x1.1.HasHigh)],.blk (b1 + 2) 27 [(vi b.Low),(vi b.High),(vb b.HasLow),(vb b.HasHigh)],.blk (b1 + 0) 25 [(vi n.Vars),(vl Form.cs n.Forms),(vl Con.cs n.Cons)]] rfl ?_ fun e σ H => ?_
 ·refine .split V V ?_ ?_ <;> intro hc4
  ·refine .fV H 3 V (.lV H 3 V (.mV V ?_));refine .md H 4 [(61,(vb (a.HasHigh || (a.High == 0)))),(1,(vi rounds)),(4,(.ptr (b1 + 0) 3 0)),(7,(.ptr (b1 + 2) 4 0)),(9,(.ptr (b2 + 6) 4 0)),(10,(vb x1.2)),(11,(.ptr (b3 + 6) 4 0)),(12,(vb x2.2)),(54,(vb true))] [.blk (b3 + 6) 27 [(vi x2.1.Low),(vi x2.1.High),(vb x2.1.HasLow),(vb x2.1.HasHigh)],.blk (b2 + 6) 27 [(vi x1.1.Low),(vi x1.1.High),(vb x1.1.HasLow),(vb x1.1.HasHigh)],.blk (b1 + 2) 27 [(vi b.Low),(vi b.High),(vb b.HasLow),(vb b.HasHigh)],.blk (b1 + 0) 25 [(vi n.Vars),(vl Form.cs n.Forms),(vl Con.cs n.Cons)]] rfl ?_ fun e σ H => ?_
   ·refine .split V V ?_ ?_ <;> intro hc5
    ·refine .ps 3 V (.kT V (.nil ?_));exact ⟨⟨or_T hc5,V,V,V,V,V,V,V,V,U⟩,(H.erase 3).wk (by omega)⟩
    ·refine .fV H 3 V (.lV H 3 V (.iV V (.kF V (.nil ?_))));exact ⟨⟨or_F hc5,V,V,V,V,V,V,V,V,U⟩,(H.erase 3).wk (by omega)⟩
   refine .kT V (.nil ?_);exact ⟨⟨Z0q hc4,V,V,V,V,V,V,V,U⟩,H.wk (by omega)⟩
  ·refine .ps 7 V (.kF V (.nil ?_));exact ⟨⟨Z0p hc4,V,V,V,V,V,V,V,U⟩,(H.erase 3).wk (by omega)⟩
 refine .mV V ?_;refine .md H 8 [(71,(vb ((((a.HasLow || (a.Low == 0)) && (b.HasLow || (b.Low == 0))) && (a.HasHigh || (a.High == 0))) && (b.HasHigh || (b.High == 0))))),(1,(vi rounds)),(4,(.ptr (b1 + 0) 3 0)),(9,(.ptr (b2 + 6) 4 0)),(10,(vb x1.2)),(11,(.ptr (b3 + 6) 4 0)),(12,(vb x2.2))] [.blk (b3 + 6) 27 [(vi x2.1.Low),(vi x2.1.High),(vb x2.1.HasLow),(vb x2.1.HasHigh)],.blk (b2 + 6) 27 [(vi x1.1.Low),(vi x1.1.High),(vb x1.1.HasLow),(vb x1.1.HasHigh)],.blk (b1 + 0) 25 [(vi n.Vars),(vl Form.cs n.Forms),(vl Con.cs n.Cons)]] rfl ?_ fun e σ H => ?_
 ·refine .split V V ?_ ?_ <;> intro hc6
  ·refine .fV H 2 V (.lV H 2 V (.mV V ?_));refine .md H 4 [(70,(vb (b.HasHigh || (b.High == 0)))),(1,(vi rounds)),(4,(.ptr (b1 + 0) 3 0)),(9,(.ptr (b2 + 6) 4 0)),(10,(vb x1.2)),(11,(.ptr (b3 + 6) 4 0)),(12,(vb x2.2)),(63,(vb true))] [.blk (b3 + 6) 27 [(vi x2.1.Low),(vi x2.1.High),(vb x2.1.HasLow),(vb x2.1.HasHigh)],.blk (b2 + 6) 27 [(vi x1.1.Low),(vi x1.1.High),(vb x1.1.HasLow),(vb x1.1.HasHigh)],.blk (b1 + 0) 25 [(vi n.Vars),(vl Form.cs n.Forms),(vl Con.cs n.Cons)]] rfl ?_ fun e σ H => ?_
   ·refine .split V V ?_ ?_ <;> intro hc7
    ·refine .ps 3 V (.kT V (.nil ?_));exact ⟨⟨or_T hc7,V,V,V,V,V,V,V,U⟩,(H.erase 2).wk (by omega)⟩
    ·refine .fV H 2 V (.lV H 2 V (.iV V (.kF V (.nil ?_))));exact ⟨⟨or_F hc7,V,V,V,V,V,V,V,U⟩,(H.erase 2).wk (by omega)⟩
   refine .kT V (.nil ?_);exact ⟨⟨Z0q hc6,V,V,V,V,V,V,U⟩,H.wk (by omega)⟩
  ·refine .ps 7 V (.kF V (.nil ?_));exact ⟨⟨Z0p hc6,V,V,V,V,V,V,U⟩,(H.erase 2).wk (by omega)⟩
 refine .aV V (.nila H fun H => (.tR 11 V H fun b5 σ H => (.mV V (.mV V ?_))));refine .md H 9 [(82,(vb (((((a.HasLow || (a.Low == 0)) && (b.HasLow || (b.Low == 0))) && (a.HasHigh || (a.High == 0))) && (b.HasHigh || (b.High == 0))) && ((!((x1.1.Low == x2.1.Low) && ((x1.1.High == x2.1.High) && ((x1.1.HasLow == x2.1.HasLow) && ((x1.1.HasHigh == x2.1.HasHigh) && true))))) || (x1.2 != x2.2))))),(1,(vi rounds)),(4,(.ptr (b1 + 0) 3 0))] [.blk (b1 + 0) 25 [(vi n.Vars),(vl Form.cs n.Forms),(vl Con.cs n.Cons)]] rfl ?_ fun e σ H => ?_
 ·refine .split V V ?_ ?_ <;> intro hc8
  ·refine .LV [(vi x1.1.Low),(vi x1.1.High),(vb x1.1.HasLow),(vb x1.1.HasHigh)] H 1 V (.LV [(vi x2.1.Low),(vi x2.1.High),(vb x2.1.HasLow),(vb x2.1.HasHigh)] H 0 V (.wt V V (.binA (u:=(.agg [(vi x1.1.Low),(vi x1.1.High),(vb x1.1.HasLow),(vb x1.1.HasHigh)])) (w:=(.agg [(vi x2.1.Low),(vi x2.1.High),(vb x2.1.HasLow),(vb x2.1.HasHigh)])) (r:=.bool (!((x1.1.Low == x2.1.Low) && ((x1.1.High == x2.1.High) && ((x1.1.HasLow == x2.1.HasLow) && ((x1.1.HasHigh == x2.1.HasHigh) && true)))))) V V (by kernel_rfl) (fun _ => Z7l V V V V) V (.mV V ?_))));refine .md H 4 [(81,(vb ((!((x1.1.Low == x2.1.Low) && ((x1.1.High == x2.1.High) && ((x1.1.HasLow == x2.1.HasLow) && ((x1.1.HasHigh == x2.1.HasHigh) && true))))) || (x1.2 != x2.2)))),(1,(vi rounds)),(4,(.ptr (b1 + 0) 3 0)),(73,(vb true))] [.blk (b1 + 0) 25 [(vi n.Vars),(vl Form.cs n.Forms),(vl Con.cs n.Cons)]] rfl ?_ fun e σ H => ?_
   ·refine .split V V ?_ ?_ <;> intro hc9
    ·refine .ps 3 V (.kT V (.nil ?_));exact ⟨⟨or_T hc9,V,V,V,U⟩,((H.erase 1).erase 0).wk (by omega)⟩
    ·refine .mV V (.mV V (.wt V V (.neB (b:=x1.2) (b':=x2.2) V V V V (.kF V (.nil ?_)))));exact ⟨⟨or_F hc9,V,V,V,U⟩,((H.erase 1).erase 0).wk (by omega)⟩
   refine .kT V (.nil ?_);exact ⟨⟨Z0q hc8,V,V,U⟩,H.wk (by omega)⟩
  ·refine .ps 8 V (.kF V (.nil ?_));exact ⟨⟨Z0p hc8,V,V,U⟩,((H.erase 1).erase 0).wk (by omega)⟩
 refine .nila H fun H => ?_;refine .wh h V ?_ ?_ <;> intro h
 ·refine .tR 1 V H fun b6 σ H => (.aV V (.nila H fun H => (.ret ?_)));obtain rfl:=sj h;exact Ends.eR V
 refine .skip (.then (.tR 20 V H fun b7 σ H => (.LV [(vi n.Vars),(vl Form.cs n.Forms),(vl Con.cs n.Cons)] H 0 V ?_)));obtain ⟨x3,q3,h⟩:=bs h;refine .cV (Z63 q3) V (.iV V (.mV V ?_));refine .md H 4 [(90,(vb ((x3 != 0) && (decide (n.Vars≤30))))),(1,(vi rounds)),(4,(.ptr (b1 + 0) 3 0))] [.blk (b1 + 0) 25 [(vi n.Vars),(vl Form.cs n.Forms),(vl Con.cs n.Cons)]] V ?_ fun e σ H => ?_
 ·refine .split V V ?_ ?_ <;> intro hc11
  ·refine .fV H 0 V (.lV H 0 V (.iV V (.kT V (.nil ?_))));exact ⟨⟨Z0q hc11,V,V,U⟩,H.wk (by omega)⟩
  ·refine .ps 3 V (.kF V (.nil ?_));exact ⟨⟨Z0p hc11,V,V,U⟩,H.wk (by omega)⟩
 refine .mV V ?_;refine .md H 5 [(96,(vb (((x3 != 0) && (decide (n.Vars≤30))) && (decide ((n.Cons.length:Int)≤300))))),(1,(vi rounds)),(4,(.ptr (b1 + 0) 3 0))] [.blk (b1 + 0) 25 [(vi n.Vars),(vl Form.cs n.Forms),(vl Con.cs n.Cons)]] V ?_ fun e σ H => ?_
 ·refine .split V V ?_ ?_ <;> intro hc12
  ·refine .fV H 0 V (.lV H 0 V (.nV V (.iV V (.kT V (.nil ?_)))));exact ⟨⟨Z0q hc12,V,V,U⟩,H.wk (by omega)⟩
  ·refine .ps 4 V (.kF V (.nil ?_));exact ⟨⟨Z0p hc12,V,V,U⟩,H.wk (by omega)⟩
 refine .mV V ?_;refine .md H 5 [(102,(vb ((((x3 != 0) && (decide (n.Vars≤30))) && (decide ((n.Cons.length:Int)≤300))) && (decide ((n.Forms.length:Int)≤30))))),(1,(vi rounds)),(4,(.ptr (b1 + 0) 3 0))] [.blk (b1 + 0) 25 [(vi n.Vars),(vl Form.cs n.Forms),(vl Con.cs n.Cons)]] V ?_ fun e σ H => ?_
 ·refine .split V V ?_ ?_ <;> intro hc13
  ·refine .fV H 0 V (.lV H 0 V (.nV V (.iV V (.kT V (.nil ?_)))));exact ⟨⟨Z0q hc13,V,V,U⟩,H.wk (by omega)⟩
  ·refine .ps 4 V (.kF V (.nil ?_));exact ⟨⟨Z0p hc13,V,V,U⟩,H.wk (by omega)⟩
 refine .nila H fun H => ?_;refine .wh h V ?_ ?_ <;> intro h
 ·refine .tR 8 V H fun b8 σ H => (.LV [(vi n.Vars),(vl Form.cs n.Forms),(vl Con.cs n.Cons)] H 0 V ?_);obtain ⟨x4,q4,h⟩:=bs h;refine .cV (Z4N q4) V (.m1 (.tup [(.agg [(.v (.int .u8 x4.1.Kind)),(vi x4.1.Net.Vars),(vl Form.cs x4.1.Net.Forms),(vl Con.cs x4.1.Net.Cons),(vl (cL Bound.cs) x4.1.Ticks),(vi x4.1.Rounds)]),(vi x4.2)]) V V (.xV V (.xV V (.ZX (cs:=[(.v (.int .u8 0)),(vi 0),.nils,.nils,.nils,(vi 0)]) H (by omega) (by omega) V V fun σ H => (.sV [(.v (.int .u8 x4.1.Kind)),(vi x4.1.Net.Vars),(vl Form.cs x4.1.Net.Forms),(vl Con.cs x4.1.Net.Cons),(vl (cL Bound.cs) x4.1.Ticks),(vi x4.1.Rounds)] H 0 V fun σ H => (.aV V (.nila H fun H => (.tR 12 V H fun b9 σ H => ?_))))))));refine .LV [(vi n.Vars),(vl Form.cs n.Forms),(vl Con.cs n.Cons)] H 1 V ?_;obtain ⟨x5,q5,h⟩:=bs h;refine .cV (prop_Round_fn q5) V (.m1 (.tup [(.agg [(vi x5.1.Vars),(vl Form.cs x5.1.Forms),(vl Con.cs x5.1.Cons)]),(vl (cL Bound.cs) x5.2.1),(vb x5.2.2.1),(vi x5.2.2.2)]) V V (.xV V (.xV V (.xV V (.xV V (.ZX (cs:=[(vi 0),.nils,.nils]) H (by omega) (by omega) V V fun σ H => (.sV [(vi x5.1.Vars),(vl Form.cs x5.1.Forms),(vl Con.cs x5.1.Cons)] H 0 V fun σ H => (.aV V ?_))))))));refine .aV V (.aV V (.nila H fun H => (.tR 10 V H fun b10 σ H => (.mV V (.iV V (.mV V ?_))))));refine .md H 3 [(120,(vb ((x4.2 == 230) && (x5.2.2.2 == 230))))] [] V ?_ fun e σ H => ?_
  ·refine .split V V ?_ ?_ <;> intro hc15
   ·refine .mV V (.iV V (.kT V (.nil ?_)));exact ⟨⟨Z0q hc15,U⟩,(((H.erase 2).erase 1).erase 0).wk (by omega)⟩
   ·refine .ps 2 V (.kF V (.nil ?_));exact ⟨⟨Z0p hc15,U⟩,(((H.erase 2).erase 1).erase 0).wk (by omega)⟩
  refine .mV V ?_;refine .md H 2 [(123,(vb (((x4.2 == 230) && (x5.2.2.2 == 230)) && Z0U)))] [] V ?_ fun e σ H => ?_
  ·refine .split V V ?_ ?_ <;> intro hc16
   ·refine .cV (Z3j V) V (.kT V (.nil ?_));exact ⟨⟨Z0q hc16,U⟩,H.wk (by omega)⟩
   ·refine .ps 1 V (.kF V (.nil ?_));exact ⟨⟨Z0p hc16,U⟩,H.wk (by omega)⟩
  refine .aV V (.nila H fun H => (.ret ?_));obtain rfl:=sj h;exact Ends.eR V
 refine .skip (.then (.tR 3 V H fun b11 σ H => (.LV [(vi n.Vars),(vl Form.cs n.Forms),(vl Con.cs n.Cons)] H 0 V ?_)));obtain ⟨x6,q6,h⟩:=bs h;refine .cV (ZBI q6) V (.tV V (.nila H fun H => ?_));refine .wh h V ?_ ?_ <;> intro h
 ·refine .tR 2 V H fun b12 σ H => (.cV (Z3j V) V (.aV V (.nila H fun H => (.ret ?_))));obtain rfl:=sj h;exact Ends.eR V
 refine .skip (.tR 5 V H fun b13 σ H => (.Z3S (sz:=7) ([].map Con.cs) H (by omega) (by omega) V V V V V V V V V fun σ H => (.fV H 1 V (.lV H 1 V ?_))));obtain ⟨x7,q7,h⟩:=bs h;refine .ZBA (c:=Con.cs) (w:=(vl Con.cs n.Cons)) (xs:=[]) (ys:=n.Cons) H (by omega) (by omega) 0 V V V (.m (fun _ => V)) q7 V V V V V nofun V fun σ H => (.aB V (.nila H fun H => (.tR 10 V H fun b14 σ H => (.LV [(vi n.Vars),(vl Form.cs n.Forms),(vl Con.cs n.Cons)] H 1 V (.mV V (.min2 V V V ?_))))));obtain ⟨x8,q8,h⟩:=bs h;refine .cV (Z4N q8) V (.m1 (.tup [(.agg [(.v (.int .u8 x8.1.Kind)),(vi x8.1.Net.Vars),(vl Form.cs x8.1.Net.Forms),(vl Con.cs x8.1.Net.Cons),(vl (cL Bound.cs) x8.1.Ticks),(vi x8.1.Rounds)]),(vi x8.2)]) V V (.xV V (.xV V (.ZX (cs:=[(.v (.int .u8 0)),(vi 0),.nils,.nils,.nils,(vi 0)]) H (by omega) (by omega) V V fun σ H => (.sV [(.v (.int .u8 x8.1.Kind)),(vi x8.1.Net.Vars),(vl Form.cs x8.1.Net.Forms),(vl Con.cs x8.1.Net.Cons),(vl (cL Bound.cs) x8.1.Ticks),(vi x8.1.Rounds)] H 0 V fun σ H => (.aV V (.nila H fun H => (.tR 10 V H fun b15 σ H => ?_))))))));refine .LV [(vi n.Vars),(vl Form.cs n.Forms),(vl Con.cs n.Cons)] H 2 V (.mV V (.max2 V V V ?_));obtain ⟨x9,q9,h⟩:=bs h;refine .cV (Z4N q9) V (.m1 (.tup [(.agg [(.v (.int .u8 x9.1.Kind)),(vi x9.1.Net.Vars),(vl Form.cs x9.1.Net.Forms),(vl Con.cs x9.1.Net.Cons),(vl (cL Bound.cs) x9.1.Ticks),(vi x9.1.Rounds)]),(vi x9.2)]) V V (.xV V (.xV V (.ZX (cs:=[(.v (.int .u8 0)),(vi 0),.nils,.nils,.nils,(vi 0)]) H (by omega) (by omega) V V fun σ H => (.sV [(.v (.int .u8 x9.1.Kind)),(vi x9.1.Net.Vars),(vl Form.cs x9.1.Net.Forms),(vl Con.cs x9.1.Net.Cons),(vl (cL Bound.cs) x9.1.Ticks),(vi x9.1.Rounds)] H 0 V fun σ H => (.aV V (.nila H fun H => (.then ?_))))))))
 refine .tR 3 V H fun b16 σ H => (.mB V (.Z9F (c:=Con.cs) (xs:=x7) H 2 V V V nofun V (.mV V (.nila H fun H => (.inBlock ?_)))));obtain ⟨y1,hj1,h⟩:=bs h;obtain ⟨n1,hj1⟩:=ZW.1 hj1;refine .mono (Runs.loopO hj1 (fun s1 e σ => Z9 e [(1,(vi rounds)),(4,(.ptr (b1 + 0) 3 0)),(20,(.buf (b13 + 0) x7.length 7)),(22,(vi x8.2)),(24,(vi x9.2)),(147,(vi (x7.length:Int))),(148,(vi s1))]∧Hs σ [.sl (.buf (b13 + 0) x7.length 7) 42 7 (x7.map Con.cs) true,.blk (b1 + 0) 25 [(vi n.Vars),(vl Form.cs n.Forms),(vl Con.cs n.Cons)]]) (fun y1 x e σ => (∃ a1,y1 = (.go a1)∧x = .exit 0∧Z9 e [(1,(vi rounds)),(22,(vi x8.2)),(24,(vi x9.2))]∧Hs σ [])∨(∃ r',y1 = (.ret r')∧x = .ret∧Ends CX Tryz.f3.results.toList (vb r') x e σ)) ⟨EI V,((H.erase 1).erase 0)⟩ ?_) ?_
 ·intro s1 e σ hI z h;obtain ⟨he,H⟩:=hI;obtain ⟨e,rfl⟩:=he.ex;unfold Z0b.s0 at h;refine .tR 1 V H fun b17 σ H => (.iV V (.nila H fun H => (.then ?_)));refine .wh h V ?_ ?_ <;> intro h
  ·refine .skip (.then (.inBlock (.tR 2 V H fun b18 σ H => (.mV V (.aV V (.nila H fun H => (.then (.Z0h 10 V (by kernel_rfl) H fun b19 σ H B19 => ?_))))))));refine .Z3 H 1 V V V V V (fun _ => .inl ⟨B19 1 _ V _ V,nofun,(fun _ => by kernel_rfl)⟩) V (.ld (vl Con.cs n.Cons) H 1 V V V V V (fun _ => .inl ⟨B19 1 _ V _ V,nofun,(fun _ => by kernel_rfl)⟩) V (.mV V ?_));obtain ⟨x10,q10,h⟩:=bs h;refine .jV q10 V (.qV [(.int .i64 x10.X),(.int .i64 x10.Y),(.int .i64 x10.Form),(.int .i64 x10.Range.Low),(.int .i64 x10.Range.High),(.bool x10.Range.HasLow),(.bool x10.Range.HasHigh)] V (.mB V (.mV V ?_)));obtain ⟨x11,q11,h⟩:=bs h;refine .Z2J H 0 V V V (at?_map q11) V V (fun _ id ho => .inl ⟨B19 0 _ V id ho,nofun,(fun _ => by kernel_rfl)⟩) V ?_;intro id1 hv1;refine .Z7t (id:=id1) H 0 V hv1 (by simp) (at?_map q11) V V V V (fun _ => .inl ⟨B19 0 _ V _ (by rw [(hv1:((.buf (b13 + 0) x7.length 7):PV) = _)];rfl),nofun,(fun _ => by kernel_rfl)⟩) V ?_;refine .binA (u:=(.agg [(vi x10.X),(vi x10.Y),(vi x10.Form),(vi x10.Range.Low),(vi x10.Range.High),(vb x10.Range.HasLow),(vb x10.Range.HasHigh)])) (w:=(.agg [(vi x11.X),(vi x11.Y),(vi x11.Form),(vi x11.Range.Low),(vi x11.Range.High),(vb x11.Range.HasLow),(vb x11.Range.HasHigh)])) (r:=.bool (!((x10.X == x11.X) && ((x10.Y == x11.Y) && ((x10.Form == x11.Form) && (((x10.Range.Low == x11.Range.Low) && ((x10.Range.High == x11.Range.High) && ((x10.Range.HasLow == x11.Range.HasLow) && ((x10.Range.HasHigh == x11.Range.HasHigh) && true)))) && true)))))) V V (by kernel_rfl) (fun _ => Z7l V V V V) V (.nila H fun H => ?_)
   refine .wh h V ?_ ?_ <;> intro h
   ·refine .tR 1 V H fun b20 σ H => (.aV V (.nila H fun H => (.ret ?_)));obtain rfl:=sj h;exact ⟨nofun,(.inr ⟨_,V,V,(Ends.H (xs:=[(vb false)]) (.inr V) H (.tmp (v:=(vb false)) V .nil) (.one (.c (.v _))))⟩)⟩
   refine .skip (.ZB 2 V H fun b21 σ H => (.iV V (.mV V (.nila H fun H => ?_))));obtain rfl:=sj h;exact ⟨V,EI V,H⟩
  refine .exit ?_;obtain rfl:=sj h;exact ⟨nofun,(.inl ⟨_,V,V,EI V,((H.erase 1).erase 0)⟩)⟩
 ·rintro x e σ (⟨a2,rfl,rfl,he,H⟩ | ⟨r',rfl,rfl,hE⟩)
  ·replace h:=jgo h;obtain ⟨e,rfl⟩:=he.ex;refine .tR 13 V H fun b22 σ H => (.mV V (.iV V (.mV V (.iV V (.eqB (b:=(x8.2 == 0)) (b':=(decide (rounds ≥ 1))) V V V V (.mV V ?_))))));refine .md H 3 [(170,(vb (((x8.2 == 0) == (decide (rounds ≥ 1))) && (x9.2 == 2))))] [] V ?_ fun e σ H => ?_
   ·refine .split V V ?_ ?_ <;> intro hc20
    ·refine .mV V (.iV V (.kT V (.nil ?_)));exact ⟨⟨Z0q hc20,U⟩,H.wk (by omega)⟩
    ·refine .ps 2 V (.kF V (.nil ?_));exact ⟨⟨Z0p hc20,U⟩,H.wk (by omega)⟩
   refine .mV V ?_;refine .md H 2 [(173,(vb ((((x8.2 == 0) == (decide (rounds ≥ 1))) && (x9.2 == 2)) && Z0U)))] [] V ?_ fun e σ H => ?_
   ·refine .split V V ?_ ?_ <;> intro hc21
    ·refine .cV (Z3j V) V (.kT V (.nil ?_));exact ⟨⟨Z0q hc21,U⟩,H.wk (by omega)⟩
    ·refine .ps 1 V (.kF V (.nil ?_));exact ⟨⟨Z0p hc21,U⟩,H.wk (by omega)⟩
   refine .aV V (.nila H fun H => (.ret ?_));obtain rfl:=sj h;exact Ends.eR V
  ·replace h:=jret h;obtain rfl:=sj h;exact hE
end Go.Dn

namespace Go.Dn
open Go Go.Proofs
set_option maxRecDepth 100000
set_option maxHeartbeats 4000000
end Go.Dn

namespace Go.Dn
open Go Go.Proofs
set_option maxRecDepth 100000
set_option maxHeartbeats 4000000
end Go.Dn

namespace Go.Dn
open Go
theorem Z0Q {S R:Type} {step:S→Option (S ⊕ R)} (I:S→Prop) (m:S→Nat) (post:R→Prop)
  (h:∀ s,I s→(∃ s',step s = some (.inl s')∧I s'∧m s' < m s)∨(∃ r,step s = some (.inr r)∧post r)):∀ s,I s→∃ r,loopO step s = some r∧post r:=by
 have key:∀ n s,m s = n→I s→∃ r,loopO step s = some r∧post r:=by
  intro n
  induction n using Nat.strongRecOn with
  | _ n ih =>
   intro s hm hI
   rcases h s hI with ⟨s',h1,h2,h3⟩ | ⟨r,h1,h2⟩
   ·obtain ⟨r,q1,q2⟩:=ih (m s') (by omega) s' rfl h2
    exact ⟨r,by rw [Z1e,h1];exact q1,q2⟩
   ·exact ⟨r,by rw [Z1e,h1],h2⟩
 exact fun s hI => key _ s rfl hI
theorem Z0z {S R:Type} {step:S→Option (S ⊕ R)} (I:S→R→Prop) (m:S→Nat)
  (h:∀ s r,I s r→(∃ s',step s = some (.inl s')∧I s' r∧m s' < m s)∨step s = some (.inr r)) {s:S} {r:R} (hI:I s r):loopO step s = some r:=by
 obtain ⟨r',h1,h2⟩:=Z0Q (I:=fun s => I s r) m (fun r' => r' = r) (fun s hs => by
  rcases h s r hs with ⟨s',h1,h2,h3⟩ | h1
  ·exact .inl ⟨s',h1,h2,h3⟩
  ·exact .inr ⟨r,h1,rfl⟩) s hI
 rw [h1,h2]
theorem Z5O (a:Int):IntKind.i64.wrap a = (a + 9223372036854775808) % 18446744073709551616 - 9223372036854775808:=by
 simp [IntKind.wrap,IntKind.bits,IntKind.signed]
 split <;> omega
theorem Z4g (a:Int):IntKind.u64.wrap a = a % 18446744073709551616:=by
 simp [IntKind.wrap,IntKind.bits,IntKind.signed]
theorem ZAq {x:Int}:okI .i64 x ↔ -9223372036854775808≤x∧x≤9223372036854775807:=Iff.rfl
theorem Z6 {x:Int} (h : -9223372036854775808≤x∧x≤9223372036854775807):w64 x = x:=by
 unfold w64;rw [Z5O];omega
theorem ZC6:maxLen = 9223372036854775807:=rfl
theorem Z5K:room = 140737488355328:=rfl
theorem at?_lt {α:Type} {l:List α} {i:Int} (h0:0≤i) (h:i < l.length):at? l i = some (l[i.toNat]'(by omega)):=by
 unfold at?;rw [if_pos h0,Y2]
theorem at?_nat {α:Type} {l:List α} {k:Nat} (h:k < l.length):at? l (k:Int) = some l[k]:=by
 rw [at?_lt (by omega) (by omega)];rfl
theorem app?_ok {α:Type} {b:Nat} {l m:List α} (h:(l.length + m.length) * b≤room):app? b l m = some (l ++ m):=if_pos h
theorem nz?_ok {b:Int} (h:b ≠ 0):nz? b = some ():=if_neg h
theorem beq_t {a b:Int} (h:a = b):(a == b) = true:=by simp [h]
theorem beq_f {a b:Int} (h:a ≠ b):(a == b) = false:=by simp [h]
theorem bne_t {a b:Int} (h:a ≠ b):(a != b) = true:=by simp [h]
theorem bne_f {a b:Int} (h:a = b):(a != b) = false:=by simp [h]
theorem ibeq (a b:Int):(a == b) = decide (a = b):=by by_cases h:a = b <;> simp [h]
theorem ZP {p:Prop} [Decidable p] (h:p):decide p = true:=by simp [h]
theorem ZQ {p:Prop} [Decidable p] (h:¬ p):decide p = false:=by simp [h]
theorem Z9k {α:Type} (c:Bool) (a b:α):(bif c then a else b) = if c = true then a else b:=by cases c <;> rfl
theorem ZCA {α:Type} {l:List α} {good:Nat→α→Prop} (h:¬ ∀ k x,l[k]? = some x→good k x):∃ (k:Nat) (x:α),l[k]? = some x∧¬ good k x∧∀ j y,j < k→l[j]? = some y→good j y:=by
 have hex:∃ k:Nat,∃ x,l[k]? = some x∧¬ good k x:=by
  apply Classical.byContradiction;intro hn;exact h fun k x hk => Classical.byContradiction fun hg => hn ⟨k,x,hk,hg⟩
 obtain ⟨k,hk⟩:=hex
 induction k using Nat.strongRecOn with
 | _ k ih =>
  by_cases h:∃ j,j < k∧∃ x,l[j]? = some x∧¬ good j x
  ·obtain ⟨j,hj,hx⟩:=h
   exact ih j hj hx
  ·obtain ⟨x,hx,hb⟩:=hk
   exact ⟨k,x,hx,hb,fun j y hj hy => Classical.byContradiction fun hg => h ⟨j,hj,y,hy,hg⟩⟩
theorem Z2o {α R:Type} {l:List α} {step:Int→Option (Int ⊕ R)} (good:Nat→α→Prop) {no yes:R}
  (hstep:∀ (k:Nat) (x:α),l[k]? = some x→(∀ j y,j < k→l[j]? = some y→good j y)→(step (k:Int) = some (.inl ((k:Int) + 1))∧good k x)∨(step (k:Int) = some (.inr no)∧¬ good k x))
  (hend:step (l.length:Int) = some (.inr yes)):(loopO step 0 = some yes∧∀ k x,l[k]? = some x→good k x)∨(loopO step 0 = some no∧¬ ∀ k x,l[k]? = some x→good k x):=by
 by_cases hall:∀ k x,l[k]? = some x→good k x
 ·refine .inl ⟨?_,hall⟩;refine Z0z (I:=fun (s:Int) r => r = yes∧∃ k:Nat,s = k∧k≤l.length) (fun s => (l.length - s.toNat)) ?_ ⟨rfl,0,rfl,YM _⟩
  rintro s r ⟨rfl,k,rfl,hk⟩
  by_cases hlt:k < l.length
  ·rcases hstep k l[k] (Y2 hlt) (fun j y _ hy => hall j y hy) with ⟨h1,_⟩ | ⟨_,h2⟩
   ·exact .inl ⟨_,h1,⟨rfl,k + 1,by push_cast;rfl,hlt⟩,by simp;omega⟩
   ·exact absurd (hall k _ (Y2 hlt)) h2
  ·have:k = l.length:=by omega
   subst this;exact .inr hend
 ·refine .inr ⟨?_,hall⟩;obtain ⟨k0,x0,hx0,hb0,hgood⟩:=ZCA hall
  have hlt0:=(List.getElem?_eq_some_iff.1 hx0).1
  refine Z0z (I:=fun (s:Int) r => r = no∧∃ k:Nat,s = k∧k≤k0) (fun s => (l.length - s.toNat)) ?_ ⟨rfl,0,rfl,YM _⟩
  rintro s r ⟨rfl,k,rfl,hk⟩
  by_cases hlt:k < k0
  ·have hkl:k < l.length:=by omega
   rcases hstep k l[k] (Y2 hkl) (fun j y hj hy => hgood j y (by omega) hy) with ⟨h1,_⟩ | ⟨_,h2⟩
   ·exact .inl ⟨_,h1,⟨rfl,k + 1,by push_cast;rfl,hlt⟩,by simp;omega⟩
   ·exact absurd (hgood k _ hlt (Y2 hkl)) h2
  ·have:k = k0:=by omega
   subst this
   rcases hstep k x0 hx0 hgood with ⟨_,h2⟩ | ⟨h1,_⟩
   ·exact absurd h2 hb0
   ·exact .inr h1
theorem fold_loop {α A R:Type} {l:List α} {step:A × Int→Option ((A × Int) ⊕ R)} (f:A→Nat→α→A) (fin:A→R) (I:Nat→A→Prop) {a0:A} (h0:I 0 a0)
  (hgo:∀ (k:Nat) (x:α) (a:A),l[k]? = some x→I k a→step (a,(k:Int)) = some (.inl (f a k x,(k:Int) + 1))∧I (k + 1) (f a k x))
  (hend:∀ a,I l.length a→step (a,(l.length:Int)) = some (.inr (fin a))):∃ a,loopO step (a0,0) = some (fin a)∧I l.length a:=by
 obtain ⟨r,h1,a,rfl,h2⟩:=Z0Q (step:=step) (I:=fun s => ∃ (k:Nat) (a:A),s = (a,(k:Int))∧k≤l.length∧I k a) (fun s => l.length - s.2.toNat) (fun r => ∃ a,r = fin a∧I l.length a) (by
  rintro s ⟨k,a,rfl,hk,hI⟩
  by_cases hlt:k < l.length
  ·obtain ⟨q1,q2⟩:=hgo k l[k] a (Y2 hlt) hI
   exact .inl ⟨_,q1,⟨k + 1,_,by push_cast;rfl,hlt,q2⟩,by simp;omega⟩
  ·have:k = l.length:=by omega
   subst this;exact .inr ⟨_,hend a hI,a,rfl,hI⟩) (a0,0) ⟨0,a0,rfl,YM _,h0⟩
 exact ⟨a,h1,h2⟩
end Go.Dn

namespace Go.Dn
open Go
def In64 (a:Int):Prop:=-9223372036854775808≤a∧a≤9223372036854775807
def Z8X (a:Int):Prop:=0≤a∧a≤18446744073709551615
def fitS (a:Int):Int × Int:=if -9223372036854775808≤a∧a≤9223372036854775807 then (a,0) else (0,10)
theorem fitS_of {a:Int} (h:In64 a):fitS a = (a,0):=if_pos h
theorem fitS_not {a:Int} (h:¬ In64 a):fitS a = (0,10):=if_neg h
theorem fit_or (x:Int):(In64 x∧fitS x = (x,0))∨(¬ In64 x∧fitS x = (0,10)):=by
 by_cases h:In64 x
 ·exact .inl ⟨h,fitS_of h⟩
 ·exact .inr ⟨h,fitS_not h⟩
theorem and32 (x:Int) (h:Z8X x):(((BitVec.ofInt 64 x &&& BitVec.ofInt 64 4294967295).toNat:Nat):Int) = x % 4294967296:=by
 obtain ⟨n,rfl⟩:=Int.eq_ofNat_of_zero_le h.1
 have hn:n < 2 ^ 64:=by have:=h.2;omega
 have h1:(BitVec.ofInt 64 (n:Int)).toNat = n:=by simp [BitVec.toNat_ofInt];omega
 have h2:(BitVec.ofInt 64 4294967295).toNat = 2 ^ 32 - 1:=by decide
 rw [BitVec.toNat_and,h1,h2,Nat.and_two_pow_sub_one_eq_mod]
 omega
theorem mul64_fact {x y:Int} (hx:Z8X x) (hy:Z8X y) :
  (x / 4294967296 * (y / 4294967296) + (x / 4294967296 * (y % 4294967296) + x % 4294967296 * (y % 4294967296) / 4294967296) / 4294967296 +
   ((x / 4294967296 * (y % 4294967296) + x % 4294967296 * (y % 4294967296) / 4294967296) % 4294967296 + x % 4294967296 * (y / 4294967296)) / 4294967296) = x * y / 18446744073709551616 ∧
  0≤x % 4294967296 * (y % 4294967296)∧x % 4294967296 * (y % 4294967296)≤18446744065119617025 ∧
  0≤x / 4294967296 * (y % 4294967296)∧x / 4294967296 * (y % 4294967296)≤18446744065119617025 ∧
  0≤x % 4294967296 * (y / 4294967296)∧x % 4294967296 * (y / 4294967296)≤18446744065119617025 ∧
  0≤x / 4294967296 * (y / 4294967296)∧x / 4294967296 * (y / 4294967296)≤18446744065119617025:=by
 have b:∀ {u v:Int},0≤u→u≤4294967295→0≤v→v≤4294967295→0≤u * v∧u * v≤18446744065119617025:=by
  intro u v h1 h2 h3 h4;exact ⟨Int.mul_nonneg h1 h3,Int.le_trans (Int.mul_le_mul h2 h4 h3 (by omega)) (by decide)⟩
 obtain ⟨hx1,hx2⟩:=hx
 obtain ⟨hy1,hy2⟩:=hy
 obtain ⟨a1,a2⟩:=b (u:=x % 4294967296) (v:=y % 4294967296) (by omega) (by omega) (by omega) (by omega)
 obtain ⟨b1,b2⟩:=b (u:=x / 4294967296) (v:=y % 4294967296) (by omega) (by omega) (by omega) (by omega)
 obtain ⟨c1,c2⟩:=b (u:=x % 4294967296) (v:=y / 4294967296) (by omega) (by omega) (by omega) (by omega)
 obtain ⟨d1,d2⟩:=b (u:=x / 4294967296) (v:=y / 4294967296) (by omega) (by omega) (by omega) (by omega)
 refine ⟨?_,a1,a2,b1,b2,c1,c2,d1,d2⟩
 have e:x * y = x / 4294967296 * (y / 4294967296) * 18446744073709551616 + (x / 4294967296 * (y % 4294967296) + x % 4294967296 * (y / 4294967296)) * 4294967296 + x % 4294967296 * (y % 4294967296):=by
  have ex:x = x / 4294967296 * 4294967296 + x % 4294967296:=by omega
  have ey:y = y / 4294967296 * 4294967296 + y % 4294967296:=by omega
  clear a1 a2 b1 b2 c1 c2 d1 d2 b hx1 hx2 hy1 hy2
  generalize x / 4294967296 = x1 at *
  generalize x % 4294967296 = x0 at *
  generalize y / 4294967296 = y1 at *
  generalize y % 4294967296 = y0 at *
  subst ex ey;simp only [Int.add_mul,Int.mul_add];have h1:x1 * 4294967296 * (y1 * 4294967296) = x1 * y1 * 18446744073709551616:=by
   rw [Y0h,Ys 4294967296,Y0h y1,← Y0h]
   rfl
  have h2:x1 * 4294967296 * y0 = x1 * y0 * 4294967296:=by rw [Y0h,Ys 4294967296,← Y0h]
  have h3:x0 * (y1 * 4294967296) = x0 * y1 * 4294967296:=by rw [← Y0h]
  rw [h1,h2,h3];omega
 rw [e]
 generalize x / 4294967296 * (y / 4294967296) = d at *
 generalize x / 4294967296 * (y % 4294967296) = b' at *
 generalize x % 4294967296 * (y / 4294967296) = c at *
 generalize x % 4294967296 * (y % 4294967296) = a at *
 omega
theorem Z8h {a b:Int} (ha:In64 a) (hb:In64 b):Zd a b = fitS (a + b):=by
 unfold In64 at ha hb
 unfold Zd fitS w64
 rw [Z5O]
 cases h:((decide ((a + b + 9223372036854775808) % 18446744073709551616 - 9223372036854775808 > a) != decide (b > 0)) && b != 0)
 ·rw [cond_false];simp only [Y0U,bne_eq_false_iff_eq,decide_eq_decide] at h
  split <;> simp only [Y3,and_true] <;> omega
 ·rw [cond_true];simp only [Y9,bne_iff_ne,ne_eq,decide_eq_decide] at h
  split <;> simp only [Y3] <;> omega
theorem ZAf {a:Int} (h:In64 a):Z1h a = a.natAbs:=by
 unfold In64 at h
 unfold Z1h
 rw [Z9k]
 simp only [decide_eq_true_eq,Z4g]
 split <;> omega
theorem inU_abs {a:Int} (h:In64 a):Z8X a.natAbs:=by unfold In64 at h;unfold Z8X;omega
theorem natAbs_prod (a b:Int):(a.natAbs:Int) * b.natAbs = (a * b).natAbs:=by rw [Int.natAbs_mul];simp
theorem mul64_eq {x y:Int} (hx:Z8X x) (hy:Z8X y):Z0F x y = (x * y / 18446744073709551616,x * y % 18446744073709551616):=by
 unfold Z0F
 have hb:∀ z:Int,z.fdiv (2 ^ 32) = z / 4294967296:=fun z => Y0E z (by decide)
 have hm:(IntKind.u64.bits) = 64:=rfl
 obtain ⟨h1,h2,h3,h4,h5,h6,h7,h8,h9⟩:=mul64_fact hx hy
 have hw:∀ z:Int,0≤z→z≤18446744073709551615→IntKind.u64.wrap z = z:=fun z q1 q2 => by rw [Z4g];omega
 simp only [hb,iAnd]
 rw [hm,and32 x hx,and32 y hy]
 have x0:0≤x % 4294967296∧x % 4294967296 < 4294967296:=by omega
 have y0:0≤y % 4294967296∧y % 4294967296 < 4294967296:=by omega
 rw [hw (x % 4294967296) (by omega) (by omega),hw (y % 4294967296) (by omega) (by omega),hw _ h2 (by omega),hw _ h4 (by omega),hw _ h6 (by omega),hw _ h8 (by omega)]
 rw [hw (x / 4294967296 * (y % 4294967296) + x % 4294967296 * (y % 4294967296) / 4294967296) (by omega) (by omega)]
 rw [and32 _ ⟨by omega,by omega⟩]
 have t0:0≤(x / 4294967296 * (y % 4294967296) + x % 4294967296 * (y % 4294967296) / 4294967296) % 4294967296∧(x / 4294967296 * (y % 4294967296) + x % 4294967296 * (y % 4294967296) / 4294967296) % 4294967296 < 4294967296:=by omega
 rw [hw ((x / 4294967296 * (y % 4294967296) + x % 4294967296 * (y % 4294967296) / 4294967296) % 4294967296) (by omega) (by omega)]
 rw [hw ((x / 4294967296 * (y % 4294967296) + x % 4294967296 * (y % 4294967296) / 4294967296) % 4294967296 + x % 4294967296 * (y / 4294967296)) (by omega) (by omega)]
 rw [hw (x / 4294967296 * (y / 4294967296) + (x / 4294967296 * (y % 4294967296) + x % 4294967296 * (y % 4294967296) / 4294967296) / 4294967296) (by omega) (by omega)]
 rw [hw _ (by omega) (by omega),h1,Z4g]
theorem ZDp {n:Int} (m:Bool) (h:Z8X n):Z4L n m = fitS (if m then -n else n):=by
 unfold Z8X at h
 unfold Z4L fitS w64
 rw [Z9k,Z9k,Z4g,Z5O,Z5O]
 cases m <;> simp only [Y0q,Y0T,YD,Yp,decide_eq_true_eq,Y6,if_false,if_true]
 ·split
  ·rw [if_pos (by omega)];simp only [Y3,and_true];omega
  ·rw [if_neg (by omega)]
 ·split
  ·rw [if_pos (by omega)];simp only [Y3,and_true];omega
  ·rw [if_neg (by omega)]
theorem safe_Mul_eq {a b:Int} (ha:In64 a) (hb:In64 b):Z3p a b = fitS (a * b):=by
 unfold Z3p
 rw [ZAf ha,ZAf hb,mul64_eq (inU_abs ha) (inU_abs hb),Z9k]
 simp only [natAbs_prod]
 rw [ZDp _ (by unfold Z8X;omega)]
 by_cases h:((a * b).natAbs:Int) / 18446744073709551616 = 0
 ·rw [if_neg (by simp [h])]
  have e:((a * b).natAbs:Int) % 18446744073709551616 = (a * b).natAbs:=by omega
  rw [e]
  show fitS _ = _
  refine congrArg fitS ?_
  by_cases h1:a < 0 <;> by_cases h2:b < 0 <;> simp only [h1,h2,decide_true,decide_false]
  ·have:=Int.mul_nonneg_of_nonpos_of_nonpos (Y0y h1) (Y0y h2)
   simp;omega
  ·have:=Int.mul_nonpos_of_nonpos_of_nonneg (Y0y h1) (Int.not_lt.1 h2)
   simp;omega
  ·have:=Int.mul_nonpos_of_nonneg_of_nonpos (Int.not_lt.1 h1) (Y0y h2)
   simp;omega
  ·have:=Int.mul_nonneg (Int.not_lt.1 h1) (Int.not_lt.1 h2)
   simp;omega
 ·rw [if_pos (by simp [h])]
  unfold fitS;rw [if_neg];omega
def ZA6 (a b:Int):Int × Int × Int:=if b = 0 then (0,0,11) else if b = -1∧a = -9223372036854775808 then (0,0,10) else (a.fdiv b,a.fmod b,0)
theorem floor_up {a b:Int} (hb:b ≠ 0) (h1:a.tmod b ≠ 0) (h2:¬(a.tmod b < 0 ↔ b < 0)):a.fdiv b = a.tdiv b - 1∧a.fmod b = a.tmod b + b:=by
 have q1:=Yn a hb
 have q2:=Int.emod_lt a hb
 have hd:b ∣ a ↔ a % b = 0:=Int.dvd_iff_emod_eq_zero
 rw [Int.fdiv_eq_ediv,Int.fmod_eq_emod,Int.tdiv_eq_ediv]
 rw [Int.tmod_eq_emod] at h1 h2 ⊢
 simp only [hd] at h1 h2 ⊢
 rcases Int.lt_or_gt_of_ne hb with h | h
 ·rw [Int.sign_eq_neg_one_of_neg h]
  split at h1 <;> split <;> simp_all <;> omega
 ·rw [Int.sign_eq_one_of_pos h]
  split at h1 <;> split <;> simp_all <;> omega
theorem floor_same {a b:Int} (hb:b ≠ 0) (h:a.tmod b = 0∨(a.tmod b < 0 ↔ b < 0)):a.fdiv b = a.tdiv b∧a.fmod b = a.tmod b:=by
 have q1:=Yn a hb
 have q2:=Int.emod_lt a hb
 have hd:b ∣ a ↔ a % b = 0:=Int.dvd_iff_emod_eq_zero
 rw [Int.fdiv_eq_ediv,Int.fmod_eq_emod,Int.tdiv_eq_ediv]
 rw [Int.tmod_eq_emod] at h ⊢
 simp only [hd] at h ⊢
 rcases Int.lt_or_gt_of_ne hb with hh | hh
 ·rw [Int.sign_eq_neg_one_of_neg hh]
  split at h <;> split <;> simp_all <;> omega
 ·rw [Int.sign_eq_one_of_pos hh]
  split at h <;> split <;> simp_all <;> omega
theorem tdiv_in {a b:Int} (ha:In64 a) (hb:b ≠ 0) (hn:¬(b = -1∧a = -9223372036854775808)):In64 (a.tdiv b):=by
 have h:(a.tdiv b).natAbs = a.natAbs / b.natAbs:=Int.natAbs_tdiv a b
 obtain ⟨h1,h2⟩:=ha
 by_cases hb1:b = 1
 ·subst hb1;rw [Int.tdiv_one];exact ⟨h1,h2⟩
 ·by_cases hb2:b = -1
  ·have ha':a ≠ -9223372036854775808:=fun e => hn ⟨hb2,e⟩
   have:a.natAbs / b.natAbs≤a.natAbs:=Nat.div_le_self _ _
   unfold In64;omega
  ·have h3:a.natAbs / b.natAbs≤a.natAbs / 2:=Nat.div_le_div_left (by omega) (by omega)
   unfold In64;omega
theorem tdiv_in1 {a b:Int} (ha:In64 a) (hb:b ≠ 0) (h1:a.tmod b ≠ 0):In64 (a.tdiv b - 1):=by
 have h:(a.tdiv b).natAbs = a.natAbs / b.natAbs:=Int.natAbs_tdiv a b
 obtain ⟨h2,h3⟩:=ha
 by_cases hb1:b = 1
 ·subst hb1;simp at h1
 ·by_cases hb2:b = -1
  ·subst hb2;simp at h1
  ·have h3:a.natAbs / b.natAbs≤a.natAbs / 2:=Nat.div_le_div_left (by omega) (by omega)
   unfold In64;omega
theorem wrap_in {a:Int} (h:In64 a):IntKind.i64.wrap a = a:=by rw [Z5O];unfold In64 at h;omega
theorem fmod_in {a b:Int} (hb:In64 b) (hb0:b ≠ 0):In64 (a.fmod b):=by
 have q1:=Yn a hb0
 have q2:=Int.emod_lt a hb0
 rw [Int.fmod_eq_emod]
 unfold In64 at *
 split <;> omega
theorem floor_leaf1 {a b:Int} (ha:In64 a) (hb:In64 b) (h0:b ≠ 0) (hn:¬(b = -1∧a = -9223372036854775808)) (h1:a.tmod b ≠ 0) (h2:¬(a.tmod b < 0 ↔ b < 0)) :
  (IntKind.i64.wrap (IntKind.i64.wrap (a.tdiv b) - 1),IntKind.i64.wrap (a.tmod b + b),(0:Int)) = ZA6 a b:=by
 obtain ⟨e1,e2⟩:=floor_up h0 h1 h2
 rw [ZA6,if_neg h0,if_neg hn,e1,e2,wrap_in (tdiv_in ha h0 hn),wrap_in (tdiv_in1 ha h0 h1),wrap_in (by rw [← e2];exact fmod_in hb h0)]
theorem floor_leaf2 {a b:Int} (ha:In64 a) (hb:In64 b) (h0:b ≠ 0) (hn:¬(b = -1∧a = -9223372036854775808)) (h:a.tmod b = 0∨(a.tmod b < 0 ↔ b < 0)) :
  (IntKind.i64.wrap (a.tdiv b),a.tmod b,(0:Int)) = ZA6 a b:=by
 obtain ⟨e1,e2⟩:=floor_same h0 h
 rw [ZA6,if_neg h0,if_neg hn,e1,e2,wrap_in (tdiv_in ha h0 hn)]
theorem Z3D {a b:Int} (ha:In64 a) (hb:In64 b):Z18 a b = some (ZA6 a b):=by
 unfold Z18
 by_cases h0:b = 0
 ·subst h0;rfl
 rw [beq_f h0,cond_false]
 by_cases hn:b = -1∧a = -9223372036854775808
 ·obtain ⟨rfl,rfl⟩:=hn
  rfl
 have:(b == -1 && a == -9223372036854775808) = false:=by
  simp only [Y0U,beq_eq_false_iff_ne]
  by_cases h:b = -1
  ·exact .inr fun e => hn ⟨h,e⟩
  ·exact .inl h
 rw [this,cond_false,nz?_ok h0]
 simp only [Y0,Z9k,Y9,bne_iff_ne,ne_eq,decide_eq_decide]
 split
 ·rename_i h;simp only [Y0];exact congrArg some (floor_leaf1 ha hb h0 hn h.1 h.2)
 ·rename_i h;simp only [Y0];refine congrArg some (floor_leaf2 ha hb h0 hn ?_)
  by_cases h1:a.tmod b = 0
  ·exact .inl h1
  ·exact .inr (Classical.byContradiction fun h2 => h ⟨h1,h2⟩)
theorem Z98 {a b:Int} (hb:0 < b):a.fdiv b = a / b∧a.fmod b = a % b:=⟨Y0E a (Y0y hb),Int.fmod_eq_emod_of_nonneg a (Y0y hb)⟩
theorem Z6e {a b:Int} (hb:0 < b):ZA6 a b = (a / b,a % b,0):=by
 unfold ZA6
 rw [if_neg (by omega),if_neg (by omega),(Z98 hb).1,(Z98 hb).2]
end Go.Dn

namespace Go.Dn
open Go
theorem Z1J:reachBytes = 140737488351232:=rfl
def ZD (t:Int):Prop:=-1099511627776≤t∧t≤1099511627776
instance (t:Int):Decidable (ZD t):=by unfold ZD;infer_instance
theorem Z7I (t:Int):Z16 t = decide (ZD t):=by
 rw [Bool.eq_iff_iff,decide_eq_true_iff];simp [Z16,ZD]
theorem Z80 (t:Int):Z1N t = decide (ZD t):=by
 rw [Bool.eq_iff_iff,decide_eq_true_iff];simp [Z1N,ZD]
theorem Z2x {t:Int} (h:ZD t):In64 t:=by unfold ZD at h;unfold In64;omega
structure RightL (l:List Span):Prop where
 ok:∀ (k:Nat) (s:Span),l[k]? = some s→ZD s.From∧ZD s.To∧s.From≤s.To
 gap:∀ (k:Nat) (s t:Span),l[k]? = some s→l[k + 1]? = some t→s.To + 2≤t.From
abbrev Len (l:List Span):Prop:=l.length * 16≤reachBytes
abbrev Sp64 (l:List Span):Prop:=∀ s ∈ l,In64 s.From∧In64 s.To
theorem Span.ok64 {s:Span} (h:s.ok):In64 s.From∧In64 s.To:=h
theorem okSpans {l:List Span} (h:okL 16 Span.ok l):Len l∧Sp64 l:=⟨h.1,fun s hs => Span.ok64 (h.2 s hs)⟩
theorem RightL.sp64 {l:List Span} (h:RightL l):Sp64 l:=fun s hs => by
 obtain ⟨k,hk⟩:=YC hs
 have:=h.ok k s hk
 exact ⟨Z2x this.1,Z2x this.2.1⟩
def Z5X (l:List Span) (k:Nat) (s:Span):Prop:=ZD s.From∧ZD s.To∧s.From≤s.To∧∀ p,k ≠ 0→l[k - 1]? = some p→p.To + 2≤s.From
theorem Z8L {l:List Span}:RightL l ↔ ∀ k s,l[k]? = some s→Z5X l k s:=by
 constructor
 ·intro h k s hk;obtain ⟨h1,h2,h3⟩:=h.ok k s hk
  refine ⟨h1,h2,h3,fun p h0 hp => ?_⟩
  have:k - 1 + 1 = k:=by omega
  exact h.gap (k - 1) p s hp (by rw [this];exact hk)
 ·intro h;refine ⟨fun k s hk => ⟨(h k s hk).1,(h k s hk).2.1,(h k s hk).2.2.1⟩,fun k s t hs ht => (h (k + 1) t ht).2.2.2 s (by omega) (by simpa using hs)⟩
theorem Z8q {l:List Span} (hl:Len l) (h64:Sp64 l):∃ b,Z0N l = some b∧(b = true ↔ RightL l):=by
 have hlen:l.length≤maxLen:=by rw [ZC6];have:=Z1J;unfold Len at hl;omega
 have step:∀ (k:Nat) (s:Span),l[k]? = some s→(∀ j y,j < k→l[j]? = some y→Z5X l j y)→∃ b,Z0N.s0 l (k:Int) = (if b = true then some (.inl ((k:Int) + 1)) else some (.inr (.ret false)))∧(b = true ↔ Z5X l k s):=by
  intro k s hk hprev;have hlt:=(List.getElem?_eq_some_iff.1 hk).1
  have hat:at? l (k:Int) = some s:=by rw [at?_nat hlt];rw [Y2 hlt] at hk;exact hk
  unfold Z0N.s0;rw [ZP (show (k:Int) < l.length by omega),cond_true,hat]
  simp only [Y0,Z7I];have hk1:w64 ((k:Int) + 1) = k + 1:=Z6 (by rw [ZC6] at hlen;omega)
  by_cases h1:ZD s.From∧ZD s.To∧s.From≤s.To
  ·have:(!decide (ZD s.From) || !decide (ZD s.To) || decide (s.From > s.To)) = false:=by
    rw [ZP h1.1,ZP h1.2.1,ZQ (by omega)];rfl
   rw [this,cond_false]
   by_cases h0:k = 0
   ·subst h0;refine ⟨true,by simp [w64];rw [Z5O];rfl,by simp [Z5X,h1]⟩
   ·have hk0:(k:Int) > 0:=by omega
    have hpl:k - 1 < l.length:=by omega
    have hp:at? l (w64 ((k:Int) - 1)) = some l[k - 1]:=by
     rw [Z6 (by rw [ZC6] at hlen;omega),show ((k:Int) - 1) = ((k - 1:Nat):Int) by omega,at?_nat hpl]
    have hpg:=hprev (k - 1) _ (by omega) (Y2 hpl)
    have hpt:w64 (l[k - 1].To + 2) = l[k - 1].To + 2:=by
     have:=hpg.2.1;unfold ZD at this;exact Z6 (by omega)
    rw [ZP hk0,cond_true,hp];simp only [Y0,hpt];refine ⟨!decide (s.From < l[k - 1].To + 2),?_,?_⟩
    ·cases hd:decide (s.From < l[k - 1].To + 2) <;> simp [hk1]
    ·simp only [YP,decide_eq_false_iff_not,Z5X]
     constructor
     ·intro h;refine ⟨h1.1,h1.2.1,h1.2.2,fun p _ hp' => ?_⟩
      rw [Y2 hpl] at hp';cases hp';omega
     ·intro h;have:=h.2.2.2 _ h0 (Y2 hpl);omega
  ·refine ⟨false,?_,by simp only [Y6,Z5X,false_iff];intro h;exact h1 ⟨h.1,h.2.1,h.2.2.1⟩⟩
   have:(!decide (ZD s.From) || !decide (ZD s.To) || decide (s.From > s.To)) = true:=by
    by_cases a1:ZD s.From
    ·by_cases a2:ZD s.To
     ·have a3:s.From > s.To:=by
       apply Classical.byContradiction;intro h;exact h1 ⟨a1,a2,by omega⟩
      rw [ZP a3];simp
     ·rw [ZQ a2];simp
    ·rw [ZQ a1];simp
   rw [this];rfl
 unfold Z0N
 rcases Z2o (l:=l) (step:=Z0N.s0 l) (Z5X l) (no:=.ret false) (yes:=.go ()) (fun k x hk hp => by
   obtain ⟨b,h1,h2⟩:=step k x hk hp
   cases b
   ·exact .inr ⟨h1,fun h => by have:=h2.2 h;cases this⟩
   ·exact .inl ⟨h1,h2.1 rfl⟩) (by
   unfold Z0N.s0;rw [ZQ (by omega)];rfl) with ⟨h1,h2⟩ | ⟨h1,h2⟩
 ·rw [h1];exact ⟨true,rfl,by simp [Z8L.2 h2]⟩
 ·rw [h1];exact ⟨false,rfl,by simp only [Y6,false_iff];exact fun h => h2 (Z8L.1 h)⟩
def Z0A (by_:Int) (s:Span):Span:=⟨s.From + by_,s.To + by_⟩
theorem Z9v {l:List Span} {b:Int} (hl:Len l) (h64:Sp64 l) (hb:In64 b) :
  ((∀ s ∈ l,ZD (s.From + b)∧ZD (s.To + b))∧Z0a l b = some (l.map (Z0A b),0))∨((¬ ∀ s ∈ l,ZD (s.From + b)∧ZD (s.To + b))∧Z0a l b = some ([],20)):=by
 have hlen:(l.length:Int) < 9223372036854775807:=by have:=Z1J;unfold Len at hl;omega
 have step:∀ (k:Nat) (s:Span) (acc:List Span),l[k]? = some s→acc.length = k→Z0a.s0 l b ((k:Int),acc) = if ZD (s.From + b)∧ZD (s.To + b) then some (.inl ((k:Int) + 1,acc ++ [Z0A b s])) else some (.inr (.ret ([],20))):=by
  intro k s acc hk hacc;have hlt:=(List.getElem?_eq_some_iff.1 hk).1
  have hat:at? l (k:Int) = some s:=by rw [at?_nat hlt];rw [Y2 hlt] at hk;exact hk
  obtain ⟨f64,t64⟩:=h64 s (Y7 hk)
  unfold Z0a.s0;rw [ZP (show (k:Int) < l.length by omega),cond_true,hat]
  simp only [Y0];rw [Z8h f64 hb,Z8h t64 hb,Z7I,Z7I];have hk1:w64 ((k:Int) + 1) = k + 1:=Z6 (by omega)
  have happ:∀ x:Span,app? 16 acc [x] = some (acc ++ [x]):=fun x => app?_ok (by
   have:=Z1J;have:=Z5K;unfold Len at hl;simp;omega)
  rcases fit_or (s.From + b) with ⟨q1,q2⟩ | ⟨q1,q2⟩ <;> rcases fit_or (s.To + b) with ⟨q3,q4⟩ | ⟨q3,q4⟩ <;> rw [q2,q4]
  ·by_cases h:ZD (s.From + b)∧ZD (s.To + b)
   ·rw [if_pos h,ZP h.1,ZP h.2];simp [happ,hk1,Z0A]
   ·rw [if_neg h];have:(!decide (ZD (s.From + b)) || !decide (ZD (s.To + b))) = true:=by
     by_cases h1:ZD (s.From + b)
     ·rw [ZQ (fun h2 => h ⟨h1,h2⟩)];simp
     ·rw [ZQ h1];simp
    simp only [bne_self_eq_false,Y0p,Bool.or_assoc] at this ⊢;rw [this];rfl
  ·rw [if_neg (fun h => q3 (Z2x h.2))];rfl
  ·rw [if_neg (fun h => q1 (Z2x h.1))];rfl
  ·rw [if_neg (fun h => q1 (Z2x h.1))];rfl
 have hend:∀ acc,Z0a.s0 l b ((l.length:Int),acc) = some (.inr (.go acc)):=fun acc => by unfold Z0a.s0;rw [ZQ (by omega)];rfl
 unfold Z0a
 by_cases hall:∀ s ∈ l,ZD (s.From + b)∧ZD (s.To + b)
 ·refine .inl ⟨hall,?_⟩;have:loopO (Z0a.s0 l b) (0,[]) = some (.go (l.map (Z0A b))):=by
   refine Z0z (I:=fun (s:Int × List Span) r => r = .go (l.map (Z0A b))∧∃ k:Nat,k≤l.length∧s = ((k:Int),(l.take k).map (Z0A b))) (fun s => l.length - s.1.toNat) ?_ ⟨rfl,0,YM _,by simp⟩
   rintro s r ⟨rfl,k,hk,rfl⟩
   by_cases hlt:k < l.length
   ·refine .inl ⟨_,by rw [step k l[k] _ (Y2 hlt) (by simp;omega),if_pos (hall _ (YF hlt))],⟨rfl,k + 1,hlt,?_⟩,by simp;omega⟩
    rw [Y0Z hlt,Y0J];push_cast;rfl
   ·have:k = l.length:=by omega
    subst this;rw [Yz];exact .inr (hend _)
  rw [this];rfl
 ·refine .inr ⟨hall,?_⟩;obtain ⟨k0,s0,hk0,hb0,hg⟩:=ZCA (l:=l) (good:=fun _ s => ZD (s.From + b)∧ZD (s.To + b)) (fun h => hall fun s hs => by
   obtain ⟨k,hk⟩:=YC hs;exact h k s hk)
  have hlt0:=(List.getElem?_eq_some_iff.1 hk0).1
  have:loopO (Z0a.s0 l b) (0,[]) = some (.ret ([],20)):=by
   refine Z0z (I:=fun (s:Int × List Span) r => r = .ret ([],20)∧∃ k:Nat,k≤k0∧s.1 = (k:Int)∧s.2.length = k) (fun s => l.length - s.1.toNat) ?_ ⟨rfl,0,YM _,rfl,rfl⟩
   rintro ⟨i,acc⟩ r ⟨rfl,k,hk,h1,h2⟩;simp only at h1 h2;subst h1
   by_cases hlt:k < k0
   ·have hkl:k < l.length:=by omega
    exact .inl ⟨_,by rw [step k l[k] _ (Y2 hkl) h2,if_pos (hg k _ hlt (Y2 hkl))],⟨rfl,k + 1,hlt,by push_cast;rfl,by simp;omega⟩,by simp;omega⟩
   ·have:k = k0:=by omega
    subst this;exact .inr (by rw [step k s0 _ hk0 h2,if_neg hb0])
  rw [this];rfl
theorem RightL.shift {l:List Span} {b:Int} (h:RightL l) (ht:∀ s ∈ l,ZD (s.From + b)∧ZD (s.To + b)):RightL (l.map (Z0A b)):=by
 constructor
 ·intro k s hk;rw [YN,Y1] at hk;obtain ⟨s,hk,rfl⟩:=hk
  have h1:=h.ok k s hk
  have h2:=ht s (Y7 hk)
  exact ⟨h2.1,h2.2,by simp only [Z0A];omega⟩
 ·intro k s t hk hk1;rw [YN,Y1] at hk hk1;obtain ⟨s,hk,rfl⟩:=hk
  obtain ⟨t,hk1,rfl⟩:=hk1
  have:=h.gap k s t hk hk1
  simp only [Z0A];omega
def Z49 (a b:List Span):Prop:=∀ x,a.getLast? = some x→∀ y,b.head? = some y→x.To < y.From
theorem Z6V {a b:List Span} (ha:Len a):∃ r,Z0y a b = some r∧(r = true ↔ Z49 a b):=by
 unfold Z0y
 cases a with
 | nil => exact ⟨true,by simp,by simp [Z49]⟩
 | cons x a =>
  cases b with
  | nil => exact ⟨true,by simp,by simp [Z49]⟩
  | cons y b =>
   have hl:((x :: a).length:Int) < 9223372036854775807:=by have:=Z1J;unfold Len at ha;omega
   have e1:(((x :: a).length:Int) == 0 || ((y :: b).length:Int) == 0) = false:=by simp;omega
   have hlt:(x :: a).length - 1 < (x :: a).length:=by simp
   have e2:at? (x :: a) (w64 (((x :: a).length:Int) - 1)) = some (x :: a)[(x :: a).length - 1]:=by
    rw [Z6 (by simp at hl ⊢;omega),show (((x :: a).length:Int) - 1) = (((x :: a).length - 1:Nat):Int) by simp,at?_nat hlt]
   have e3:at? (y :: b) 0 = some y:=rfl
   rw [e1,cond_false,e2,e3];refine ⟨decide ((x :: a)[(x :: a).length - 1].To < y.From),rfl,?_⟩;have hlast:(x :: a).getLast? = some (x :: a)[(x :: a).length - 1]:=by rw [Y0X,Y2 hlt]
   simp only [decide_eq_true_eq,Z49,hlast,List.head?_cons,Y5];exact ⟨fun h x' hx y' hy => by rw [← hx,← hy];exact h,fun h => h _ rfl _ rfl⟩
theorem span_beq (x y:Span):((x.From == y.From) && ((x.To == y.To) && true)) = decide (x = y):=by
 obtain ⟨x1,x2⟩:=x
 obtain ⟨y1,y2⟩:=y
 by_cases h1:x1 = y1 <;> by_cases h2:x2 = y2 <;> simp [h1,h2]
theorem spans_Same_eq {a b:List Span} (ha:Len a):∃ r,Z1W a b = some r∧(r = true ↔ a = b):=by
 have hl:(a.length:Int) < 9223372036854775807:=by have:=Z1J;unfold Len at ha;omega
 unfold Z1W Za
 by_cases hlen:a.length = b.length
 ·have e1:((a.length:Int) != (b.length:Int)) = false:=bne_f (by omega)
  rw [e1,cond_false]
  rcases Z2o (l:=a) (step:=Za.s0 a b) (fun k x => b[k]? = some x) (no:=.ret false) (yes:=.go ()) (fun k x hk hp => by
   have hlt:=(List.getElem?_eq_some_iff.1 hk).1
   have hat:at? a (k:Int) = some x:=by rw [at?_nat hlt];rw [Y2 hlt] at hk;exact hk
   have hbt:at? b (k:Int) = some (b[k]'(by omega)):=at?_nat (by omega)
   unfold Za.s0;rw [ZP (show (k:Int) < a.length by omega),cond_true,hat,hbt,Z6 (show _ by omega)]
   simp only [Y0,span_beq];rw [Y2 (show k < b.length by omega)]
   by_cases h:x = b[k]'(by omega)
   ·rw [ZP h];exact .inl ⟨rfl,congrArg some h.symm⟩
   ·rw [ZQ h];exact .inr ⟨rfl,fun e => h (Option.some.inj e).symm⟩) (by
   unfold Za.s0;rw [ZQ (by omega)];rfl) with ⟨h1,h2⟩ | ⟨h1,h2⟩
  ·rw [h1];refine ⟨true,rfl,⟨fun _ => Y0Q fun k => ?_,fun _ => rfl⟩⟩
   by_cases hk:k < a.length
   ·rw [Y2 hk];exact (h2 k _ (Y2 hk)).symm
   ·rw [YR (by omega),YR (by omega)]
  ·rw [h1];refine ⟨false,rfl,by simp only [Y6,false_iff];rintro rfl;exact h2 fun k x hk => hk⟩
 ·have e1:((a.length:Int) != (b.length:Int)) = true:=bne_t (by omega)
  rw [e1,cond_true];exact ⟨false,rfl,by simp only [Y6,false_iff];rintro rfl;exact hlen rfl⟩
end Go.Dn

namespace Go.Dn
open Go
theorem ZE2 (x y:Int):Z2N x y = if x < y then -1 else if y < x then 1 else 0:=by
 unfold Z2N Z3A
 simp only [bne_self_eq_false,cond_false,Z9k,decide_eq_true_eq,gt_iff_lt,Y6,if_false]
def Inc (l:List Granule):Prop:=∀ (j k:Nat) (a b:Granule),j < k→l[j]? = some a→l[k]? = some b→a.Index < b.Index
theorem ZE3 {l:List Granule} {t:Int} (hl:l.length * 32≤reachBytes) (hs:Inc l):∃ p:Nat,p≤l.length∧(∀ (k:Nat) (g:Granule),l[k]? = some g→(k < p ↔ g.Index < t)) ∧
  Z1 l t (fun z0 z1 => some (Z42 z0 z1)) = some ((p:Int),decide (∃ g,l[p]? = some g∧g.Index = t)):=by
 have hlen:(l.length:Int) < 4398046511104 * 4:=by have:=Z1J;omega
 have hcmp:∀ g i,Z42 g i = if g.Index < i then -1 else if i < g.Index then 1 else 0:=fun g i => ZE2 _ _
 obtain ⟨r,h1,p,rfl,hp,hlow,hhigh⟩:=Z0Q (step:=Z1.s0 l t (fun z0 z1 => some (Z42 z0 z1)))
  (I:=fun s => ∃ i j:Nat,s = ((i:Int),(j:Int))∧i≤j∧j≤l.length∧(∀ k g,l[k]? = some g→k < i→g.Index < t)∧(∀ k g,l[k]? = some g→j≤k→t≤g.Index))
  (fun s => (s.2 - s.1).toNat)
  (fun r => ∃ p:Nat,r = (p:Int)∧p≤l.length∧(∀ k g,l[k]? = some g→k < p→g.Index < t)∧(∀ k g,l[k]? = some g→p≤k→t≤g.Index)) (by
  rintro s ⟨i,j,rfl,hij,hj,hlow,hhigh⟩;unfold Z1.s0
  by_cases hlt:i < j
  ·have hm:w64 ((IntKind.u64.wrap (w64 ((i:Int) + j))).fdiv (2 ^ 1)) = ((i + j) / 2:Nat):=by
    rw [Z6 (x:=(i:Int) + j) (by omega),Z4g,Y0E _ (by decide),Z6 (by omega)]
    omega
   have hml:(i + j) / 2 < l.length:=by omega
   simp only [hm];rw [ZP (show (i:Int) < j by omega),cond_true,at?_nat hml]
   simp only [Y0,hcmp];refine .inl ?_;have hget:=Y2 hml
   by_cases hc:l[(i + j) / 2].Index < t
   ·rw [if_pos hc];refine ⟨((((i + j) / 2 + 1:Nat):Int),(j:Int)),?_,⟨(i + j) / 2 + 1,j,rfl,by omega,hj,fun k g hk hki => ?_,hhigh⟩,by simp;omega⟩
    ·rw [Z6 (by omega)];simp
    ·rcases YI k ((i + j) / 2) with h | h
     ·have:=hs k _ g _ h hk hget;omega
     ·have:k = (i + j) / 2:=by omega
      subst this;rw [hget] at hk;cases hk;exact hc
   ·rw [if_neg hc];refine ⟨((i:Int),(((i + j) / 2:Nat):Int)),?_,⟨i,(i + j) / 2,rfl,by omega,by omega,hlow,fun k g hk hki => ?_⟩,by simp;omega⟩
    ·split <;> simp
    ·rcases YI ((i + j) / 2) k with h | h
     ·have:=hs _ k _ g h hget hk;omega
     ·have:k = (i + j) / 2:=by omega
      subst this;rw [hget] at hk;cases hk;omega
  ·refine .inr ⟨(i:Int),by rw [ZQ (show ¬ (i:Int) < j by omega)];rfl,i,rfl,by omega,hlow,fun k g hk hki => hhigh k g hk (by omega)⟩) (0,(l.length:Int)) ⟨0,l.length,rfl,YM _,YB _,fun k g _ h => by omega,fun k g hk h => by
    rw [YR h] at hk;cases hk⟩
 refine ⟨p,hp,fun k g hk => ⟨fun h => hlow k g hk h,fun h => ?_⟩,?_⟩
 ·rcases YI k p with h2 | h2
  ·exact h2
  ·have:=hhigh k g hk h2;omega
 ·unfold Z1;rw [h1];simp only [Y0]
  by_cases hlt:p < l.length
  ·rw [ZP (show (p:Int) < l.length by omega),cond_true,at?_nat hlt]
   simp only [Y0,hcmp,Y5,Y3,true_and];have:=hhigh p _ (Y2 hlt) (YB _)
   rw [Y2 hlt]
   by_cases he:l[p].Index = t
   ·rw [if_neg (by omega),if_neg (by omega)];simp [he]
   ·rw [if_neg (by omega),if_pos (by omega)];simp [he]
  ·rw [ZQ (show ¬ (p:Int) < l.length by omega),cond_false]
   simp only [Y0,Y5,Y3,true_and];rw [YR (by omega)]
   simp
structure Shape (f:Form):Prop where
 count:f.Count = f.Core.length
 zero:f.Count = 0 ↔ f.Period = 0
 per:0≤f.Period∧f.Period≤1099511627776
 core:∀ l ∈ f.Core,RightL l
 odd:∀ g ∈ f.Odd,RightL g.Ticks∧ZD g.Index
 inc:Inc f.Odd
structure Lim (f:Form):Prop where
 core:f.Core.length * 24≤reachBytes
 sets:∀ l ∈ f.Core,Len l∧Sp64 l
 odd:f.Odd.length * 32≤reachBytes
 ticks:∀ g ∈ f.Odd,In64 g.Index∧Len g.Ticks∧Sp64 g.Ticks
 count:In64 f.Count
 period:In64 f.Period
theorem Form.lim {f:Form} (h:f.ok):Lim f:=by
 obtain ⟨h1,h2,h3,h4⟩:=h
 exact ⟨h3.1,fun l hl => okSpans (h3.2 l hl),h4.1,fun g hg => ⟨(h4.2 g hg).1,okSpans (h4.2 g hg).2⟩,h2,h1⟩
theorem Z6t {f:Form} (hl:Lim f) (hs:Inc f.Odd) (i:Int):∃ p:Nat,p≤f.Odd.length∧(∀ (k:Nat) (g:Granule),f.Odd[k]? = some g→(k < p ↔ g.Index < i))∧Z5S f i = some ((p:Int),decide (∃ g,f.Odd[p]? = some g∧g.Index = i)):=by
 obtain ⟨p,h1,h2,h3⟩:=ZE3 (t:=i) hl.odd hs
 exact ⟨p,h1,h2,by unfold Z5S;rw [h3];rfl⟩
def Z0B (f:Form) (i:Int):Prop:=∃ g ∈ f.Odd,g.Index = i
def Z2M (f:Form) (i:Int):List Span:=f.Core.getD (i % f.Count).toNat []
def Z5U (f:Form) (i:Int):Int:=i / f.Count * f.Period
open Classical in
noncomputable def ZJ (f:Form) (i:Int):List Span:=if h:Z0B f i then h.choose.Ticks else if f.Count = 0 then [] else (Z2M f i).map (Z0A (Z5U f i))
theorem Inc.uniq {l:List Granule} (h:Inc l) {a b:Granule} (ha:a ∈ l) (hb:b ∈ l) (he:a.Index = b.Index):a = b:=by
 obtain ⟨j,hj⟩:=YC ha
 obtain ⟨k,hk⟩:=YC hb
 rcases Nat.lt_trichotomy j k with hjk | rfl | hjk
 ·have:=h j k a b hjk hj hk;omega
 ·rw [hj] at hk;cases hk;rfl
 ·have:=h k j b a hjk hk hj;omega
theorem Z1Y {f:Form} (hs:Inc f.Odd) {g:Granule} (hg:g ∈ f.Odd):ZJ f g.Index = g.Ticks:=by
 have h:Z0B f g.Index:=⟨g,hg,rfl⟩
 unfold ZJ
 rw [dif_pos h]
 rw [hs.uniq h.choose_spec.1 hg h.choose_spec.2]
theorem Z1r {f:Form} {i:Int} (h:¬ Z0B f i) (h0:f.Count = 0):ZJ f i = []:=by unfold ZJ;rw [dif_neg h,if_pos h0]
theorem Z3V {f:Form} {i:Int} (h:¬ Z0B f i) (h0:f.Count ≠ 0):ZJ f i = (Z2M f i).map (Z0A (Z5U f i)):=by unfold ZJ;rw [dif_neg h,if_neg h0]
theorem ZAj {f:Form} (hs:Shape f) (h0:f.Count ≠ 0):0 < f.Count:=by have:=hs.count;omega
theorem Z2g {f:Form} (hs:Shape f) (h0:f.Count ≠ 0) (i:Int):at? f.Core (i % f.Count) = some (Z2M f i)∧Z2M f i ∈ f.Core:=by
 have hp:=ZAj hs h0
 have h1:=Yn i h0
 have h2:=Yx i hp
 have h3:(i % f.Count).toNat < f.Core.length:=by have:=hs.count;omega
 unfold Z2M
 rw [at?_lt h1 (by have:=hs.count;omega),YJ,Y2 h3]
 exact ⟨rfl,YF h3⟩
theorem Z9r {f:Form} (hl:Lim f) (hs:Shape f) {g:Granule} (hg:g ∈ f.Odd):Z39 f g.Index = some (g.Ticks,0,0):=by
 obtain ⟨p,h1,h2,h3⟩:=Z6t hl hs.inc g.Index
 obtain ⟨k,hk⟩:=YC hg
 have hkl:=(List.getElem?_eq_some_iff.1 hk).1
 have hpk:p≤k:=by
  rcases YI k p with h | h
  ·have:=(h2 k g hk).1 h;omega
  ·exact h
 have hpl:p < f.Odd.length:=by omega
 have hpg:=h2 p _ (Y2 hpl)
 have:p = k:=by
  rcases YI p k with h | h
  ·have:=hs.inc p k _ g h (Y2 hpl) hk
   exact absurd (hpg.2 this) (Nat.lt_irrefl _)
  ·omega
 subst this
 unfold Z39
 rw [h3]
 simp only [Y0]
 rw [ZP ⟨g,hk,rfl⟩,cond_true,at?_nat hpl]
 rw [Y2 hpl] at hk
 cases hk;rfl
theorem Z8n {f:Form} (hl:Lim f) (hs:Shape f) {i:Int} (hi:In64 i) (ho:¬ Z0B f i):Z39 f i = if f.Count = 0 then some ([],0,0) else some (Z2M f i,(fitS (Z5U f i)).1,(fitS (Z5U f i)).2):=by
 obtain ⟨p,h1,h2,h3⟩:=Z6t hl hs.inc i
 unfold Z39
 rw [h3]
 simp only [Y0]
 rw [ZQ (by rintro ⟨g,hg,he⟩;exact ho ⟨g,Y7 hg,he⟩),cond_false]
 by_cases h0:f.Count = 0
 ·rw [beq_t h0,cond_true,if_pos h0]
 ·rw [beq_f h0,cond_false,if_neg h0,Z3D hi hl.count,Z6e (ZAj hs h0)];simp only [Y0];rw [(Z2g hs h0 i).1];simp only [Y0];have hq:In64 (i / f.Count):=by
   have hp:=ZAj hs h0
   unfold In64 at hi ⊢
   constructor
   ·have : -9223372036854775808≤i / f.Count:=by
     rw [Int.le_ediv_iff_mul_le hp];have:(-9223372036854775808) * f.Count≤-9223372036854775808:=by
      have:(-9223372036854775808) * f.Count≤(-9223372036854775808) * 1:=Int.mul_le_mul_of_nonpos_left (by omega) (by omega)
      omega
     omega
    exact this
   ·have:i / f.Count≤9223372036854775807:=by
     rcases Int.lt_or_le i 0 with h | h
     ·have:i / f.Count < 0:=Int.ediv_neg_of_neg_of_pos h hp
      omega
     ·have:=Y0d f.Count h
      omega
    exact this
  rw [safe_Mul_eq hq hl.period]
  rfl
def fits (f:Form) (i:Int):Prop:=∀ s ∈ ZJ f i,ZD s.From∧ZD s.To
theorem ZA0 (l:List Span):l.map (Z0A 0) = l:=by
 have:Z0A 0 = id:=by funext s;simp [Z0A]
 rw [this,List.map_id]
theorem Z2t {f:Form} {i:Int} (ho:¬ Z0B f i) (h0:f.Count ≠ 0):ZJ f i = [] ↔ Z2M f i = []:=by rw [Z3V ho h0,List.map_eq_nil_iff]
open Classical in
theorem Z5d {f:Form} (hl:Lim f) (hs:Shape f) {i:Int} (hi:In64 i):Z0c f i = some (if ZD i∧fits f i then (ZJ f i,0) else ([],20)):=by
 unfold Z0c
 rw [Z80]
 by_cases ht:ZD i
 ·rw [ZP ht,YD,cond_false]
  by_cases ho:Z0B f i
  ·obtain ⟨g,hg,rfl⟩:=ho
   have hset:=Z1Y hs.inc hg
   have hr:=(hs.odd g hg).1
   have hf:fits f g.Index:=by
    intro s hsm;rw [hset] at hsm;obtain ⟨k,hk⟩:=YC hsm
    exact ⟨(hr.ok k s hk).1,(hr.ok k s hk).2.1⟩
   rw [Z9r hl hs hg,if_pos ⟨ht,hf⟩,hset];simp only [Y0]
   by_cases hn:g.Ticks = []
   ·rw [hn];rfl
   ·have:((g.Ticks.length:Int) == 0) = false:=beq_f (by have:=List.length_pos_iff.2 hn;omega)
    rw [this,cond_false];simp only [bne_self_eq_false,cond_false]
    rcases Z9v (b:=0) (hl.ticks g hg).2.1 hr.sp64 ⟨by decide,by decide⟩ with ⟨_,h2⟩ | ⟨h1,_⟩
    ·rw [h2,ZA0];rfl
    ·refine absurd (fun s hsm => ?_) h1
     rw [← hset] at hsm
     simpa using hf s hsm
  ·rw [Z8n hl hs hi ho]
   by_cases h0:f.Count = 0
   ·rw [if_pos h0,if_pos ⟨ht,by intro s hsm;rw [Z1r ho h0] at hsm;cases hsm⟩,Z1r ho h0];rfl
   ·rw [if_neg h0];simp only [Y0]
    by_cases hn:Z2M f i = []
    ·rw [if_pos ⟨ht,by intro s hsm;rw [(Z2t ho h0).2 hn] at hsm;cases hsm⟩,(Z2t ho h0).2 hn,hn];rfl
    ·have:(((Z2M f i).length:Int) == 0) = false:=beq_f (by have:=List.length_pos_iff.2 hn;omega)
     rw [this,cond_false];have hmem:=(Z2g hs h0 i).2
     have hr:=hs.core _ hmem
     have hfe:fits f i ↔ ∀ s ∈ Z2M f i,ZD (s.From + Z5U f i)∧ZD (s.To + Z5U f i):=by
      unfold fits;rw [Z3V ho h0]
      constructor
      ·intro h s hsm;exact h (Z0A (Z5U f i) s) (List.mem_map.2 ⟨s,hsm,rfl⟩)
      ·intro h s hsm;obtain ⟨s,hsm',rfl⟩:=List.mem_map.1 hsm
       exact h s hsm'
     rcases fit_or (Z5U f i) with ⟨q1,q2⟩ | ⟨q1,q2⟩ <;> rw [q2]
     ·simp only [bne_self_eq_false,cond_false]
      rcases Z9v (b:=Z5U f i) (hl.sets _ hmem).1 hr.sp64 q1 with ⟨h1,h2⟩ | ⟨h1,h2⟩
      ·rw [h2,if_pos ⟨ht,hfe.2 h1⟩,Z3V ho h0];rfl
      ·rw [h2,if_neg (fun h => h1 (hfe.1 h.2))];rfl
     ·rw [if_neg]
      ·rfl
      ·rintro ⟨_,h⟩;have h:=hfe.1 h
       obtain ⟨s,hsm⟩:=List.exists_mem_of_ne_nil _ hn
       have h1:=(h s hsm).1
       obtain ⟨k,hk⟩:=YC hsm
       have h2:=(hr.ok k s hk).1
       unfold ZD at h1 h2;exact q1 (by unfold In64;omega)
 ·rw [ZQ ht,if_neg (fun h => ht h.1)];rfl
open Classical in
theorem ZBC {f:Form} (hl:Lim f) (hs:Shape f) {i:Int} (hi:In64 i):Z58 f i = some (decide (ZJ f i ≠ [])):=by
 unfold Z58
 by_cases ho:Z0B f i
 ·obtain ⟨g,hg,rfl⟩:=ho
  rw [Z9r hl hs hg,Z1Y hs.inc hg];simp only [Y0];cases g.Ticks <;> simp
 ·rw [Z8n hl hs hi ho]
  by_cases h0:f.Count = 0
  ·rw [if_pos h0,Z1r ho h0];rfl
  ·rw [if_neg h0];simp only [Y0,Ne,Z2t ho h0];cases Z2M f i <;> simp
end Go.Dn

namespace Go.Dn
open Go
theorem Z3F {α:Type} {l:List α} {b:Nat} (h:l.length * (b + 1)≤reachBytes):(l.length:Int) < 4611686018427387904:=by
 have:=Z1J
 have:l.length≤l.length * (b + 1):=Nat.le_mul_of_pos_right _ (by omega)
 omega
theorem Z93 {α:Type} {l:List α} {k:Nat} {x:α} (h:l[k]? = some x):at? l (k:Int) = some x∧(k:Int) < l.length:=by
 have hlt:=(List.getElem?_eq_some_iff.1 h).1
 rw [Y2 hlt] at h
 exact ⟨by rw [at?_nat hlt];exact h,by omega⟩
theorem shape_core {f:Form} (hl:Lim f):(loopO (Zp.s0 f) 0 = some (.go ())∧∀ l ∈ f.Core,RightL l)∨(loopO (Zp.s0 f) 0 = some (.ret false)∧¬ ∀ l ∈ f.Core,RightL l):=by
 have hlen:=Z3F (b:=23) hl.core
 rcases Z2o (l:=f.Core) (step:=Zp.s0 f) (fun _ x => RightL x) (no:=.ret false) (yes:=.go ()) (fun k x hk _ => by
   obtain ⟨h1,h2⟩:=Z93 hk
   obtain ⟨b,hb,hr⟩:=Z8q (hl.sets x (Y7 hk)).1 (hl.sets x (Y7 hk)).2
   unfold Zp.s0;rw [ZP h2,cond_true,h1];simp only [Y0,hb,Z6 (show -9223372036854775808≤(k:Int) + 1∧(k:Int) + 1≤9223372036854775807 by omega)]
   cases b
   ·exact .inr ⟨rfl,fun h => by have:=hr.2 h;cases this⟩
   ·exact .inl ⟨rfl,hr.1 rfl⟩) (by unfold Zp.s0;rw [ZQ (by omega)];rfl) with ⟨h1,h2⟩ | ⟨h1,h2⟩
 ·exact .inl ⟨h1,fun l hm => by obtain ⟨k,hk⟩:=YC hm;exact h2 k l hk⟩
 ·exact .inr ⟨h1,fun h => h2 fun k x hk => h x (Y7 hk)⟩
def goodOdd (f:Form) (k:Nat) (g:Granule):Prop:=RightL g.Ticks∧ZD g.Index∧∀ p,k ≠ 0→f.Odd[k - 1]? = some p→p.Index < g.Index
theorem shape_odd {f:Form} (hl:Lim f):(loopO (Zp.s1 f) 0 = some (.go ())∧∀ k g,f.Odd[k]? = some g→goodOdd f k g)∨(loopO (Zp.s1 f) 0 = some (.ret false)∧¬ ∀ k g,f.Odd[k]? = some g→goodOdd f k g):=by
 have hlen:=Z3F (b:=31) hl.odd
 refine Z2o (l:=f.Odd) (step:=Zp.s1 f) (goodOdd f) (no:=.ret false) (yes:=.go ()) (fun k x hk _ => ?_) (by unfold Zp.s1;rw [ZQ (by omega)];rfl)
 obtain ⟨h1,h2⟩:=Z93 hk
 have hx:=hl.ticks x (Y7 hk)
 obtain ⟨b,hb,hr⟩:=Z8q hx.2.1 hx.2.2
 unfold Zp.s1
 rw [ZP h2,cond_true,h1]
 simp only [Y0,hb,Z80,Z6 (show -9223372036854775808≤(k:Int) + 1∧(k:Int) + 1≤9223372036854775807 by omega)]
 by_cases hbt:b = true∧ZD x.Index
 ·rw [hbt.1,ZP hbt.2];simp only [YD,Bool.or_self,cond_false]
  by_cases h0:k = 0
  ·subst h0;exact .inl ⟨by simp,hr.1 hbt.1,hbt.2,fun p h => absurd rfl h⟩
  ·have hpl:k - 1 < f.Odd.length:=by omega
   rw [ZP (show (k:Int) > 0 by omega),cond_true,Z6 (by omega),show (k:Int) - 1 = ((k - 1:Nat):Int) by omega,at?_nat hpl]
   simp only [Y0]
   by_cases hc:x.Index≤f.Odd[k - 1].Index
   ·rw [ZP hc];refine .inr ⟨rfl,fun h => ?_⟩
    have:=h.2.2 _ h0 (Y2 hpl);omega
   ·rw [ZQ hc];refine .inl ⟨rfl,hr.1 hbt.1,hbt.2,fun p _ hp => ?_⟩
    rw [Y2 hpl] at hp;cases hp;omega
 ·have:(!b || !decide (ZD x.Index)) = true:=by
   cases b
   ·rfl
   ·rw [ZQ (fun h => hbt ⟨rfl,h⟩)];rfl
  rw [this,cond_true];exact .inr ⟨rfl,fun h => hbt ⟨hr.2 h.1,h.2.1⟩⟩
theorem inc_of {f:Form} (h:∀ k g,f.Odd[k]? = some g→goodOdd f k g):Inc f.Odd:=by
 intro j k a b hjk ha hb
 induction k generalizing b with
 | zero => omega
 | succ k ih =>
  have hkl:=(List.getElem?_eq_some_iff.1 hb).1
  have h1:=(h (k + 1) b hb).2.2 f.Odd[k] (by omega) (by simp [Y2 (show k < f.Odd.length by omega)])
  rcases YI j k with h2 | h2
  ·have:=ih _ h2 (Y2 (show k < f.Odd.length by omega));omega
  ·have:j = k:=by omega
   subst this;rw [Y2 (show j < f.Odd.length by omega)] at ha;cases ha;exact h1
theorem gran_shape_eq {f:Form} (hl:Lim f):∃ b,Zp f = some b∧(b = true ↔ Shape f):=by
 unfold Zp
 by_cases h1:f.Count = f.Core.length∧(f.Count = 0 ↔ f.Period = 0)∧0≤f.Period∧f.Period≤1099511627776
 ·have e:(f.Count != (f.Core.length:Int) || (f.Count == 0) != (f.Period == 0) || decide (f.Period < 0) || decide (f.Period > 1099511627776)) = false:=by
   rw [bne_f h1.1,ZQ (show ¬ f.Period < 0 by omega),ZQ (show ¬ f.Period > 1099511627776 by omega)]
   simp only [Y0p,Y0a,bne_eq_false_iff_eq,ibeq,decide_eq_decide];exact h1.2.1
  rw [e,cond_false]
  rcases shape_core hl with ⟨h2,h3⟩ | ⟨h2,h3⟩
  ·rw [h2];simp only [Y0,Jx.elim]
   rcases shape_odd hl with ⟨h4,h5⟩ | ⟨h4,h5⟩
   ·rw [h4];exact ⟨true,rfl,fun _ => ⟨h1.1,h1.2.1,h1.2.2,h3,fun g hg => by obtain ⟨k,hk⟩:=YC hg;exact ⟨(h5 k g hk).1,(h5 k g hk).2.1⟩,inc_of h5⟩,fun _ => rfl⟩
   ·rw [h4];refine ⟨false,rfl,fun h => (by cases h),fun h => absurd (fun k g hk => ⟨(h.odd g (Y7 hk)).1,(h.odd g (Y7 hk)).2,fun p h0 hp => h.inc (k - 1) k p g (by omega) hp hk⟩) h5⟩
  ·rw [h2];exact ⟨false,rfl,fun h => (by cases h),fun h => absurd h.core h3⟩
 ·have e:(f.Count != (f.Core.length:Int) || (f.Count == 0) != (f.Period == 0) || decide (f.Period < 0) || decide (f.Period > 1099511627776)) = true:=by
   apply Classical.byContradiction;intro hn;simp only [Yy,Bool.or_eq_false_iff,bne_eq_false_iff_eq,decide_eq_false_iff_not,ibeq,decide_eq_decide] at hn;exact h1 ⟨hn.1.1.1,hn.1.1.2,by omega,by omega⟩
  rw [e,cond_true];exact ⟨false,rfl,fun h => (by cases h),fun h => absurd ⟨h.count,h.zero,h.per⟩ h1⟩
def fstT (l:List Span):Int:=(l.head?.map Span.From).getD 0
def lstT (l:List Span):Int:=(l.getLast?.map Span.To).getD 0
theorem ZD7 {a b:List Span} (ha:a ≠ []) (hb:b ≠ []):Z49 a b ↔ lstT a < fstT b:=by
 unfold Z49 lstT fstT
 rw [Y02 ha,Y08 hb]
 simp
theorem RightL.tail {s:Span} {l:List Span} (h:RightL (s :: l)):RightL l :=
 ⟨fun k x hk => h.ok (k + 1) x hk,fun k x y hx hy => h.gap (k + 1) x y hx hy⟩
theorem Z1m {l:List Span} (h:RightL l) (hn:l ≠ []):fstT l≤lstT l:=by
 induction l with
 | nil => exact absurd rfl hn
 | cons s l ih =>
  have h0:=h.ok 0 s rfl
  cases l with
  | nil => simp [fstT,lstT];exact h0.2.2
  | cons t l =>
   have h1:=h.gap 0 s t rfl rfl
   have h2:=ih h.tail (by simp)
   have e1:lstT (s :: t :: l) = lstT (t :: l):=by simp [lstT]
   have e2:fstT (t :: l) = t.From:=rfl
   have e3:fstT (s :: t :: l) = s.From:=rfl
   rw [e1,e3];rw [e2] at h2;omega
theorem Z5e {l:List Span} (h:RightL l) (hn:l ≠ []):ZD (lstT l)∧ZD (fstT l):=by
 have h1:l.getLast? = some (l.getLast hn):=Y02 hn
 have h2:l.head? = some (l.head hn):=Y08 hn
 obtain ⟨j,hj⟩:=YC (List.getLast_mem hn)
 obtain ⟨k,hk⟩:=YC (List.head_mem hn)
 unfold lstT fstT
 rw [h1,h2]
 exact ⟨(h.ok j _ hj).2.1,(h.ok k _ hk).1⟩
def full (f:Form):List (List Span):=f.Core.filter (fun l => decide (l.length > 0))
def Turns (f:Form):Prop:=(∀ (k:Nat) (a b:List Span),(full f)[k]? = some a→(full f)[k + 1]? = some b→lstT a < fstT b)∧∀ a b,(full f).getLast? = some a→(full f).head? = some b→lstT a < fstT b + f.Period
theorem full_loop {f:Form} (hl:Lim f):loopO (Z0T.s0 f) (0,[]) = some (full f):=by
 have hlen:=Z3F (b:=23) hl.core
 refine Z0z (I:=fun s r => r = full f∧∃ k:Nat,k≤f.Core.length∧s = ((k:Int),(f.Core.take k).filter (fun l => decide (l.length > 0)))) (fun s => f.Core.length - s.1.toNat) ?_ ⟨rfl,0,YM _,by simp⟩
 rintro s r ⟨rfl,k,hk,rfl⟩
 unfold Z0T.s0
 by_cases hlt:k < f.Core.length
 ·have htake:f.Core.take (k + 1) = f.Core.take k ++ [f.Core[k]]:=Y0Z hlt
  simp only;rw [ZP (show (k:Int) < f.Core.length by omega),cond_true,at?_nat hlt,Z6 (by omega)]
  simp only [Y0];refine .inl ?_;have hfl:((f.Core.take k).filter (fun l => decide (l.length > 0))).length≤k:=Yc (Y0W _ _) (by rw [YL];exact Nat.min_le_left _ _)
  by_cases hc:f.Core[k].length > 0
  ·rw [ZP (show ((f.Core[k].length:Int) > 0) by omega),cond_true,app?_ok (by have h1:=hl.core;rw [Z1J] at h1;rw [Z5K];simp only [List.length_singleton];omega)]
   exact ⟨_,rfl,⟨trivial,k + 1,hlt,by rw [htake,List.filter_append];simp [hc]⟩,by simp;omega⟩
  ·rw [ZQ (show ¬ ((f.Core[k].length:Int) > 0) by omega),cond_false]
   exact ⟨_,rfl,⟨trivial,k + 1,hlt,by rw [htake,List.filter_append];simp [hc]⟩,by simp;omega⟩
 ·have:k = f.Core.length:=by omega
  subst this;simp only;rw [ZQ (show ¬ ((f.Core.length:Int) < f.Core.length) by omega),cond_false,Yz]
  exact .inr rfl
theorem gran_turns_eq {f:Form} (hl:Lim f) (hs:Shape f):∃ b,Z0T f = some b∧(b = true ↔ Turns f):=by
 have hlen:=Z3F (b:=23) hl.core
 have hfl:(full f).length≤f.Core.length:=Y0W _ _
 have hmem:∀ x ∈ full f,x ∈ f.Core∧x ≠ []:=fun x hx => by
  have:=List.mem_filter.1 hx
  exact ⟨this.1,by rintro rfl;simp at this⟩
 unfold Z0T
 rw [full_loop hl]
 simp only [Y0]
 rcases Z2o (l:=full f) (step:=Z0T.s1 f (full f)) (fun k a => ∀ b,(full f)[(k + 1) % (full f).length]? = some b→lstT a < fstT b + (if k + 1 = (full f).length then f.Period else 0)) (no:=.ret false) (yes:=.go ()) (fun k a hk _ => by
   obtain ⟨h1,h2⟩:=Z93 hk
   have hkl:k < (full f).length:=by omega
   have hmod:(k + 1) % (full f).length < (full f).length:=Nat.mod_lt _ (by omega)
   have hnext:at? (full f) ((((k + 1) % (full f).length:Nat):Int)) = some (full f)[(k + 1) % (full f).length]:=at?_nat hmod
   obtain ⟨ha1,ha2⟩:=hmem a (Y7 hk)
   obtain ⟨hb1,hb2⟩:=hmem _ (YF hmod)
   have hra:=hs.core a ha1
   have hrb:=hs.core _ hb1
   have hal:a.length - 1 < a.length:=by have:=List.length_pos_iff.2 ha2;omega
   have hlast:at? a (w64 ((a.length:Int) - 1)) = some a[a.length - 1]:=by
    have:=Z3F (b:=15) (hl.sets a ha1).1
    rw [Z6 (by omega),show (a.length:Int) - 1 = ((a.length - 1:Nat):Int) by omega,at?_nat hal]
   have hlt:lstT a = a[a.length - 1].To:=by unfold lstT;rw [Y0X,Y2 hal];rfl
   unfold Z0T.s1;rw [ZP h2,cond_true,h1,nz?_ok (by omega),Z6 (x:=(k:Int) + 1) (by omega)]
   have htm:((k:Int) + 1).tmod ((full f).length:Int) = (((k + 1) % (full f).length:Nat):Int):=by
    rw [Int.tmod_eq_emod_of_nonneg (by omega)];push_cast;rfl
   simp only [Y0,htm,hnext,hlast];rw [Y2 hmod];generalize (full f)[(k + 1) % (full f).length] = b at *
   have hb0:at? b 0 = some (b.head hb2):=by
    cases b with
    | nil => exact absurd rfl hb2
    | cons y b => rfl
   have hbf:fstT b = (b.head hb2).From:=by unfold fstT;rw [Y08 hb2];rfl
   have htick:=(Z5e hrb hb2).2
   unfold ZD at htick;have hper:=hs.per
   by_cases hl1:k + 1 = (full f).length
   ·have e:((k:Int) + 1 == ((full f).length:Int)) = true:=beq_t (by omega)
    rw [e,cond_true];simp only [Y0,hb0,← hbf,Z6 (show -9223372036854775808≤fstT b + f.Period∧fstT b + f.Period≤9223372036854775807 by omega),← hlt,if_pos hl1]
    by_cases hc:lstT a ≥ fstT b + f.Period
    ·rw [ZP hc];exact .inr ⟨rfl,fun h => by have:=h b rfl;omega⟩
    ·rw [ZQ hc];exact .inl ⟨rfl,fun b' hb' => by cases hb';omega⟩
   ·have e:((k:Int) + 1 == ((full f).length:Int)) = false:=beq_f (by omega)
    rw [e,cond_false];simp only [Y0,hb0,← hbf,Z6 (show -9223372036854775808≤fstT b + 0∧fstT b + 0≤9223372036854775807 by omega),← hlt,if_neg hl1]
    by_cases hc:lstT a ≥ fstT b + 0
    ·rw [ZP hc];exact .inr ⟨rfl,fun h => by have:=h b rfl;omega⟩
    ·rw [ZQ hc];exact .inl ⟨rfl,fun b' hb' => by cases hb';omega⟩) (by unfold Z0T.s1;rw [ZQ (by omega)];rfl) with ⟨h1,h2⟩ | ⟨h1,h2⟩
 ·rw [h1];refine ⟨true,rfl,fun _ => ⟨fun k a b ha hb => ?_,fun a b ha hb => ?_⟩,fun _ => rfl⟩
  ·have hkl:=(List.getElem?_eq_some_iff.1 hb).1
   have:=h2 k a ha b (by rw [Nat.mod_eq_of_lt hkl];exact hb)
   rw [if_neg (by omega)] at this;omega
  ·have hn:full f ≠ []:=by rintro e;rw [e] at ha;simp at ha
   have hpos:=List.length_pos_iff.2 hn
   rw [Y0X] at ha;have e1:(full f).length - 1 + 1 = (full f).length:=by omega
   have:=h2 _ a ha b (by rw [e1,Nat.mod_self,← List.head?_eq_getElem?];exact hb)
   rw [if_pos e1] at this;exact this
 ·rw [h1];refine ⟨false,rfl,fun h => (by cases h),fun h => absurd (fun k a hk b hb => ?_) h2⟩
  have hkl:=(List.getElem?_eq_some_iff.1 hk).1
  by_cases hl1:k + 1 = (full f).length
  ·rw [if_pos hl1];rw [hl1,Nat.mod_self,← List.head?_eq_getElem?] at hb;exact h.2 a b (by rw [Y0X,← hl1];exact hk) hb
  ·rw [if_neg hl1];rw [Nat.mod_eq_of_lt (by omega)] at hb
   have:=h.1 k a b hk hb;omega
end Go.Dn

namespace Go.Dn
open Go
theorem ZCb {l:List (List Span)} {p:List Span→Bool} (hl:l.length * 24≤reachBytes):Zg l (fun z => some (p z)) = some (decide (∃ x ∈ l,p x = true)):=by
 have hlen:=Z3F (b:=23) hl
 unfold Zg ZC
 by_cases hall:∀ (k:Nat) (x:List Span),l[k]? = some x→¬ p x = true
 ·have:loopO (ZC.s0 l (fun z => some (p z))) 0 = some (.go ()):=by
   refine Z0z (I:=fun (s:Int) r => r = .go ()∧∃ k:Nat,s = k∧k≤l.length) (fun s => l.length - s.toNat) ?_ ⟨rfl,0,rfl,YM _⟩
   rintro s r ⟨rfl,k,rfl,hk⟩;unfold ZC.s0
   by_cases hlt:k < l.length
   ·rw [ZP (show (k:Int) < l.length by omega),cond_true,at?_nat hlt,Z6 (by omega)]
    have:=hall k _ (Y2 hlt)
    simp only [Y0,Yy] at this ⊢;rw [this];exact .inl ⟨_,rfl,⟨trivial,k + 1,by push_cast;rfl,hlt⟩,by simp;omega⟩
   ·rw [ZQ (show ¬ (k:Int) < l.length by omega)];exact .inr rfl
  rw [this,ZQ (by rintro ⟨x,hx,hp⟩;obtain ⟨k,hk⟩:=YC hx;exact hall k x hk hp)]
  rfl
 ·obtain ⟨k0,x0,hx0,hb0,hg⟩:=ZCA (good:=fun _ x => ¬ p x = true) hall
  have hb0:p x0 = true:=Classical.byContradiction hb0
  have hlt0:=(List.getElem?_eq_some_iff.1 hx0).1
  have:loopO (ZC.s0 l (fun z => some (p z))) 0 = some (.ret (k0:Int)):=by
   refine Z0z (I:=fun (s:Int) r => r = .ret (k0:Int)∧∃ k:Nat,s = k∧k≤k0) (fun s => l.length - s.toNat) ?_ ⟨rfl,0,rfl,YM _⟩
   rintro s r ⟨rfl,k,rfl,hk⟩;unfold ZC.s0;have hkl:k < l.length:=by omega
   rw [ZP (show (k:Int) < l.length by omega),cond_true,at?_nat hkl,Z6 (by omega)]
   by_cases hlt:k < k0
   ·have:=hg k _ hlt (Y2 hkl)
    simp only [Y0,Yy] at this ⊢;rw [this];exact .inl ⟨_,rfl,⟨trivial,k + 1,by push_cast;rfl,hlt⟩,by simp;omega⟩
   ·have:k = k0:=by omega
    subst this;rw [Y2 hkl] at hx0;cases hx0;simp only [Y0,hb0];exact .inr rfl
  rw [this,ZP ⟨x0,Y7 hx0,hb0⟩];simp only [Y0,Jx.elim];rw [ZP (by omega)]
def Bare (f:Form):Prop:=∀ l ∈ f.Core,l = []
theorem Z7o {f:Form} (hl:Lim f):∃ b,Z3g f = some b∧(b = true ↔ Bare f):=by
 unfold Z3g
 rw [ZCb hl.core]
 refine ⟨_,rfl,?_⟩
 simp only [Z5Y,YP,decide_eq_false_iff_not,decide_eq_true_eq]
 constructor
 ·intro h l hm;apply Classical.byContradiction;intro hn;exact h ⟨l,hm,by have:=List.length_pos_iff.2 hn;omega⟩
 ·rintro h ⟨l,hm,hp⟩;rw [h l hm] at hp;simp at hp
theorem Z8B {f:Form} (hs:Shape f) (hb:Bare f) {i:Int} (ho:¬ Z0B f i):ZJ f i = []:=by
 by_cases h0:f.Count = 0
 ·exact Z1r ho h0
 ·exact (Z2t ho h0).2 (hb _ (Z2g hs h0 i).2)
def UpTo (f:Form) (i:Int) (r:Int × Bool):Prop:=(r.2 = true∧i≤r.1∧ZD r.1∧ZJ f r.1 ≠ []∧∀ k,i≤k→k < r.1→ZJ f k = [])∨(r.2 = false∧r.1 = 0∧∀ k,i≤k→ZD k→ZJ f k = [])
def DownTo (f:Form) (i:Int) (r:Int × Bool):Prop:=(r.2 = true∧r.1≤i∧ZD r.1∧ZJ f r.1 ≠ []∧∀ k,k≤i→r.1 < k→ZJ f k = [])∨(r.2 = false∧r.1 = 0∧∀ k,k≤i→ZD k→ZJ f k = [])
theorem odd_split {f:Form} (hs:Shape f) {p:Nat} {i:Int} (hp:∀ (k:Nat) (g:Granule),f.Odd[k]? = some g→(k < p ↔ g.Index < i)) {j:Int} (hj:Z0B f j):∃ (k:Nat) (g:Granule),f.Odd[k]? = some g∧g.Index = j∧(k < p ↔ j < i):=by
 obtain ⟨g,hg,rfl⟩:=hj
 obtain ⟨k,hk⟩:=YC hg
 exact ⟨k,g,hk,rfl,hp k g hk⟩
theorem gran_step_up {f:Form} (hl:Lim f) (hs:Shape f) {i:Int} (hi : -1099511627776≤i∧i≤1099511627776):∃ r,Z05 f i 1 = some r∧UpTo f i r:=by
 have hi64:In64 i:=by unfold In64;omega
 obtain ⟨b,hb,hbb⟩:=Z7o hl
 have holen:=Z3F (b:=31) hl.odd
 unfold Z05
 rw [hb]
 simp only [Y0]
 cases b with
 | true =>
  have hbare:=hbb.1 rfl
  rw [cond_true];obtain ⟨p,h1,h2,h3⟩:=Z6t hl hs.inc i
  rw [h3];simp only [Y0,ZQ (show ¬ (1:Int) < 0 by omega),Y0T,cond_false]
  obtain ⟨r,hr,hpost⟩:=Z0Q (step:=Z05.s0 f 1) (I:=fun (s:Int) => ∃ k:Nat,s = k∧p≤k∧k≤f.Odd.length∧∀ (j:Nat) (g:Granule),f.Odd[j]? = some g→p≤j→j < k→g.Ticks = []) (fun s => f.Odd.length - s.toNat)
   (fun r => (∃ (k:Nat) (g:Granule),r = .ret (g.Index,true)∧f.Odd[k]? = some g∧p≤k∧g.Ticks ≠ []∧∀ (j:Nat) (g':Granule),f.Odd[j]? = some g'→p≤j→j < k→g'.Ticks = [])∨(r = .go ()∧∀ (j:Nat) (g':Granule),f.Odd[j]? = some g'→p≤j→g'.Ticks = [])) (by
   rintro s ⟨k,rfl,hpk,hk,hn⟩;unfold Z05.s0
   by_cases hlt:k < f.Odd.length
   ·rw [ZP (show (k:Int) ≥ 0 by omega),ZP (show (k:Int) < f.Odd.length by omega),Y04,cond_true,at?_nat hlt,Z6 (by omega)]
    simp only [Y0];have hget:=Y2 hlt
    by_cases hc:f.Odd[k].Ticks = []
    ·rw [hc];refine .inl ⟨(k:Int) + 1,rfl,⟨k + 1,by push_cast;rfl,by omega,hlt,fun j g hj hpj hjk => ?_⟩,by simp;omega⟩
     rcases YI j k with h | h
     ·exact hn j g hj hpj h
     ·have:j = k:=by omega
      subst this;rw [hget] at hj;cases hj;exact hc
    ·rw [ZP (show ((f.Odd[k].Ticks.length:Int) > 0) by have:=List.length_pos_iff.2 hc;omega),cond_true]
     exact .inr ⟨_,rfl,.inl ⟨k,_,rfl,hget,hpk,hc,hn⟩⟩
   ·rw [ZQ (show ¬ (k:Int) < f.Odd.length by omega),Bool.and_false,cond_false]
    refine .inr ⟨_,rfl,.inr ⟨rfl,fun j g hj hpj => hn j g hj hpj ?_⟩⟩
    have:=(List.getElem?_eq_some_iff.1 hj).1;omega) (p:Int) ⟨p,rfl,YB _,h1,fun j g _ h h' => by omega⟩
  rw [hr];simp only [Y0]
  rcases hpost with ⟨k,g,rfl,hk,hpk,hne,hn⟩ | ⟨rfl,hn⟩
  ·have hset:=Z1Y hs.inc (Y7 hk)
   have hgi:¬ g.Index < i:=fun h => by have:=(h2 k g hk).2 h;omega
   refine ⟨_,rfl,.inl ⟨rfl,by simp only;omega,(hs.odd g (Y7 hk)).2,by simp only;rw [hset];exact hne,fun j hij hjg => ?_⟩⟩
   simp only at hjg
   by_cases ho:Z0B f j
   ·obtain ⟨k',g',hk',rfl,hiff⟩:=odd_split hs h2 ho
    rw [Z1Y hs.inc (Y7 hk')];refine hn k' g' hk' ?_ ?_
    ·rcases YI k' p with h | h
     ·have:=hiff.1 h;omega
     ·exact h
    ·rcases YI k' k with h | h
     ·exact h
     ·rcases YI k k' with h' | h'
      ·have:=hs.inc k k' g g' h' hk hk';omega
      ·have:k = k':=by omega
       subst this;rw [hk] at hk';cases hk';omega
   ·exact Z8B hs hbare ho
  ·refine ⟨_,rfl,.inr ⟨rfl,rfl,fun j hij _ => ?_⟩⟩
   by_cases ho:Z0B f j
   ·obtain ⟨k',g',hk',rfl,hiff⟩:=odd_split hs h2 ho
    rw [Z1Y hs.inc (Y7 hk')];refine hn k' g' hk' ?_
    rcases YI k' p with h | h
    ·have:=hiff.1 h;omega
    ·exact h
   ·exact Z8B hs hbare ho
 | false =>
  rw [cond_false];obtain ⟨r,hr,hpost⟩:=Z0Q (step:=Z05.s1 f 1) (I:=fun (s:Int) => i≤s∧s≤1099511627777∧∀ k,i≤k→k < s→ZJ f k = []) (fun s => (1099511627777 - s).toNat)
   (fun r => (∃ j,r = .ret (j,true)∧i≤j∧ZD j∧ZJ f j ≠ []∧∀ k,i≤k→k < j→ZJ f k = [])∨(r = .go ()∧∀ k,i≤k→ZD k→ZJ f k = [])) (by
   rintro s ⟨hs1,hs2,hn⟩;unfold Z05.s1;rw [Z80]
   by_cases ht:ZD s
   ·rw [ZP ht,cond_true,ZBC hl hs (Z2x ht),Z6 (by unfold ZD at ht;omega)]
    simp only [Y0]
    by_cases hc:ZJ f s = []
    ·rw [hc];refine .inl ⟨s + 1,by simp,⟨by omega,by unfold ZD at ht;omega,fun k hk hks => ?_⟩,by unfold ZD at ht;omega⟩
     by_cases h:k = s
     ·rw [h];exact hc
     ·exact hn k hk (by omega)
    ·rw [ZP hc,cond_true];exact .inr ⟨_,rfl,.inl ⟨s,rfl,hs1,ht,hc,hn⟩⟩
   ·rw [ZQ ht,cond_false];exact .inr ⟨_,rfl,.inr ⟨rfl,fun k hk htk => hn k hk (by unfold ZD at ht htk;omega)⟩⟩) i ⟨Yb _,by omega,fun k h h' => by omega⟩
  rw [hr];simp only [Y0]
  rcases hpost with ⟨j,rfl,h1,h2,h3,h4⟩ | ⟨rfl,hn⟩
  ·exact ⟨_,rfl,.inl ⟨rfl,h1,h2,h3,h4⟩⟩
  ·exact ⟨_,rfl,.inr ⟨rfl,rfl,hn⟩⟩
theorem ZDs {f:Form} (hl:Lim f) (hs:Shape f) {i:Int} (hi : -1099511627776≤i∧i≤1099511627776):∃ r,Z05 f i (-1) = some r∧DownTo f i r:=by
 have hi64:In64 i:=by unfold In64;omega
 obtain ⟨b,hb,hbb⟩:=Z7o hl
 have holen:=Z3F (b:=31) hl.odd
 unfold Z05
 rw [hb]
 simp only [Y0]
 cases b with
 | true =>
  have hbare:=hbb.1 rfl
  rw [cond_true];obtain ⟨p,h1,h2,h3⟩:=Z6t hl hs.inc i
  rw [h3]
  -- the number of exceptions up to the index
  obtain ⟨q,hq1,hq2,hq3⟩ : ∃ q:Nat,q≤f.Odd.length∧(∀ (k:Nat) (g:Granule),f.Odd[k]? = some g→(k < q ↔ g.Index≤i))∧((bif (decide ((-1:Int) < 0) && !decide (∃ g,f.Odd[p]? = some g∧g.Index = i)) then some (w64 ((p:Int) - 1)) else some (p:Int)):Option Int) = some ((q:Int) - 1):=by
   by_cases he:∃ g,f.Odd[p]? = some g∧g.Index = i
   ·obtain ⟨g,hg,hgi⟩:=he
    have hpl:=(List.getElem?_eq_some_iff.1 hg).1
    refine ⟨p + 1,by omega,fun k g' hk => ?_,by rw [ZP (p:=∃ g,f.Odd[p]? = some g∧g.Index = i) ⟨g,hg,hgi⟩];simp⟩
    have:=h2 k g' hk
    constructor
    ·intro h
     rcases YI k p with h' | h'
     ·have:=this.1 h';omega
     ·have:k = p:=by omega
      subst this;rw [hg] at hk;cases hk;omega
    ·intro h
     rcases YI p k with h' | h'
     ·have:=hs.inc p k g g' h' hg hk;omega
     ·omega
   ·refine ⟨p,h1,fun k g' hk => ?_,by rw [ZQ (p:=∃ g,f.Odd[p]? = some g∧g.Index = i) he,Z6 (by omega)];simp⟩
    have:=h2 k g' hk
    constructor
    ·intro h;have:=this.1 h;omega
    ·intro h
     by_cases hgi:g'.Index = i
     ·exfalso
      have hkp:¬ k < p:=fun h' => by have:=this.1 h';omega
      rcases YI p k with h' | h'
      ·have hpl:p < f.Odd.length:=by have:=(List.getElem?_eq_some_iff.1 hk).1;omega
       have h5:=hs.inc p k _ g' h' (Y2 hpl) hk
       have h6:=(h2 p _ (Y2 hpl)).2 (by omega)
       omega
      ·have:k = p:=by omega
       subst this;exact he ⟨g',hk,hgi⟩
     ·exact this.2 (by omega)
  simp only [Y0];rw [hq3];simp only [Y0];obtain ⟨r,hr,hpost⟩:=Z0Q (step:=Z05.s0 f (-1)) (I:=fun (s:Int) => ∃ k:Nat,s = (k:Int) - 1∧k≤q∧∀ (j:Nat) (g:Granule),f.Odd[j]? = some g→k≤j→j < q→g.Ticks = []) (fun s => (s + 1).toNat)
   (fun r => (∃ (k:Nat) (g:Granule),r = .ret (g.Index,true)∧f.Odd[k]? = some g∧k < q∧g.Ticks ≠ []∧∀ (j:Nat) (g':Granule),f.Odd[j]? = some g'→k < j→j < q→g'.Ticks = [])∨(r = .go ()∧∀ (j:Nat) (g':Granule),f.Odd[j]? = some g'→j < q→g'.Ticks = [])) (by
   rintro s ⟨k,rfl,hk,hn⟩;unfold Z05.s0
   by_cases h0:0 < k
   ·have hlt:k - 1 < f.Odd.length:=by omega
    rw [ZP (show (k:Int) - 1 ≥ 0 by omega),ZP (show (k:Int) - 1 < f.Odd.length by omega),Y04,cond_true,show (k:Int) - 1 = ((k - 1:Nat):Int) by omega,at?_nat hlt,Z6 (by omega)]
    simp only [Y0];have hget:=Y2 hlt
    by_cases hc:f.Odd[k - 1].Ticks = []
    ·rw [hc];refine .inl ⟨((k - 1:Nat):Int) + -1,rfl,⟨k - 1,by omega,by omega,fun j g hj hpj hjk => ?_⟩,by simp;omega⟩
     rcases YI j k with h | h
     ·have:j = k - 1:=by omega
      subst this;rw [hget] at hj;cases hj;exact hc
     ·exact hn j g hj h hjk
    ·rw [ZP (show ((f.Odd[k - 1].Ticks.length:Int) > 0) by have:=List.length_pos_iff.2 hc;omega),cond_true]
     exact .inr ⟨_,rfl,.inl ⟨k - 1,_,rfl,hget,by omega,hc,fun j g hj h1 h2 => hn j g hj (by omega) h2⟩⟩
   ·rw [ZQ (show ¬ (k:Int) - 1 ≥ 0 by omega),Y0T,cond_false]
    exact .inr ⟨_,rfl,.inr ⟨rfl,fun j g hj hjq => hn j g hj (by omega) hjq⟩⟩) ((q:Int) - 1) ⟨q,rfl,YB _,fun j g _ h h' => by omega⟩
  rw [hr];simp only [Y0]
  rcases hpost with ⟨k,g,rfl,hk,hkq,hne,hn⟩ | ⟨rfl,hn⟩
  ·have hset:=Z1Y hs.inc (Y7 hk)
   have hgi:=(hq2 k g hk).1 hkq
   refine ⟨_,rfl,.inl ⟨rfl,hgi,(hs.odd g (Y7 hk)).2,by simp only;rw [hset];exact hne,fun j hij hjg => ?_⟩⟩
   simp only at hjg
   by_cases ho:Z0B f j
   ·obtain ⟨g',hg',rfl⟩:=ho
    obtain ⟨k',hk'⟩:=YC hg'
    rw [Z1Y hs.inc hg'];refine hn k' g' hk' ?_ ((hq2 k' g' hk').2 hij)
    rcases YI k k' with h | h
    ·exact h
    ·rcases YI k' k with h' | h'
     ·have:=hs.inc k' k g' g h' hk' hk;omega
     ·have:k = k':=by omega
      subst this;rw [hk] at hk';cases hk';omega
   ·exact Z8B hs hbare ho
  ·refine ⟨_,rfl,.inr ⟨rfl,rfl,fun j hij _ => ?_⟩⟩
   by_cases ho:Z0B f j
   ·obtain ⟨g',hg',rfl⟩:=ho
    obtain ⟨k',hk'⟩:=YC hg'
    rw [Z1Y hs.inc hg'];exact hn k' g' hk' ((hq2 k' g' hk').2 hij)
   ·exact Z8B hs hbare ho
 | false =>
  rw [cond_false];obtain ⟨r,hr,hpost⟩:=Z0Q (step:=Z05.s1 f (-1)) (I:=fun (s:Int) => s≤i∧-1099511627777≤s∧∀ k,k≤i→s < k→ZJ f k = []) (fun s => (s + 1099511627777).toNat)
   (fun r => (∃ j,r = .ret (j,true)∧j≤i∧ZD j∧ZJ f j ≠ []∧∀ k,k≤i→j < k→ZJ f k = [])∨(r = .go ()∧∀ k,k≤i→ZD k→ZJ f k = [])) (by
   rintro s ⟨hs1,hs2,hn⟩;unfold Z05.s1;rw [Z80]
   by_cases ht:ZD s
   ·rw [ZP ht,cond_true,ZBC hl hs (Z2x ht),Z6 (by unfold ZD at ht;omega)]
    simp only [Y0]
    by_cases hc:ZJ f s = []
    ·rw [hc];refine .inl ⟨s + -1,by simp,⟨by omega,by unfold ZD at ht;omega,fun k hk hks => ?_⟩,by unfold ZD at ht;omega⟩
     by_cases h:k = s
     ·rw [h];exact hc
     ·exact hn k hk (by omega)
    ·rw [ZP hc,cond_true];exact .inr ⟨_,rfl,.inl ⟨s,rfl,hs1,ht,hc,hn⟩⟩
   ·rw [ZQ ht,cond_false];exact .inr ⟨_,rfl,.inr ⟨rfl,fun k hk htk => hn k hk (by unfold ZD at ht htk;omega)⟩⟩) i ⟨Yb _,by omega,fun k h h' => by omega⟩
  rw [hr];simp only [Y0]
  rcases hpost with ⟨j,rfl,h1,h2,h3,h4⟩ | ⟨rfl,hn⟩
  ·exact ⟨_,rfl,.inl ⟨rfl,h1,h2,h3,h4⟩⟩
  ·exact ⟨_,rfl,.inr ⟨rfl,rfl,hn⟩⟩
def Above (f:Form) (i:Int) (r:Int × Bool):Prop:=(r.2 = true∧i < r.1∧ZD r.1∧ZJ f r.1 ≠ []∧∀ k,i < k→k < r.1→ZD k→ZJ f k = [])∨(r.2 = false∧r.1 = 0∧∀ k,i < k→ZD k→ZJ f k = [])
def Under (f:Form) (i:Int) (r:Int × Bool):Prop:=(r.2 = true∧r.1 < i∧ZD r.1∧ZJ f r.1 ≠ []∧∀ k,k < i→r.1 < k→ZD k→ZJ f k = [])∨(r.2 = false∧r.1 = 0∧∀ k,k < i→ZD k→ZJ f k = [])
theorem Z3R {f:Form} (hl:Lim f) (hs:Shape f) {i:Int} (hi:In64 i):∃ r,Z1c f i = some r∧Above f i r:=by
 unfold Z1c
 by_cases h:i ≥ 1099511627776
 ·rw [ZP h,cond_true];exact ⟨_,rfl,.inr ⟨rfl,rfl,fun k hk ht => by unfold ZD at ht;omega⟩⟩
 ·rw [ZQ h,cond_false,Z6 (by unfold In64 at hi;omega)]
  have hm:iMax (i + 1) (-1099511627776) = max (i + 1) (-1099511627776):=by unfold iMax;omega
  rw [hm];obtain ⟨r,h1,h2⟩:=gran_step_up hl hs (i:=max (i + 1) (-1099511627776)) (by omega)
  rw [h1];refine ⟨r,rfl,?_⟩
  rcases h2 with ⟨a,b,c,d,e⟩ | ⟨a,b,e⟩
  ·exact .inl ⟨a,by omega,c,d,fun k hk hkr ht => e k (by unfold ZD at ht;omega) hkr⟩
  ·exact .inr ⟨a,b,fun k hk ht => e k (by have:=ht;unfold ZD at this;omega) ht⟩
theorem Z6f {f:Form} (hl:Lim f) (hs:Shape f) {i:Int} (hi:In64 i):∃ r,Z1z f i = some r∧Under f i r:=by
 unfold Z1z
 by_cases h:i≤-1099511627776
 ·rw [ZP h,cond_true];exact ⟨_,rfl,.inr ⟨rfl,rfl,fun k hk ht => by unfold ZD at ht;omega⟩⟩
 ·rw [ZQ h,cond_false,Z6 (by unfold In64 at hi;omega)]
  have hm:iMin (i - 1) 1099511627776 = min (i - 1) 1099511627776:=by unfold iMin;omega
  rw [hm];obtain ⟨r,h1,h2⟩:=ZDs hl hs (i:=min (i - 1) 1099511627776) (by omega)
  rw [h1];refine ⟨r,rfl,?_⟩
  rcases h2 with ⟨a,b,c,d,e⟩ | ⟨a,b,e⟩
  ·exact .inl ⟨a,by omega,c,d,fun k hk hkr ht => e k (by unfold ZD at ht;omega) hkr⟩
  ·exact .inr ⟨a,b,fun k hk ht => e k (by have:=ht;unfold ZD at this;omega) ht⟩
end Go.Dn

namespace Go.Dn
open Go
def BesideR (f:Form) (i:Int) (lo hi:Int × Bool):Prop :=
 fits f i∧(lo.2 = true→fits f lo.1∧Z49 (ZJ f lo.1) (ZJ f i))∧(hi.2 = true→fits f hi.1∧Z49 (ZJ f i) (ZJ f hi.1))∧(lo.2 = true→hi.2 = true→Z49 (ZJ f lo.1) (ZJ f hi.1))
theorem aheadL_nil_l (b:List Span):Z49 [] b:=by intro x hx;cases hx
theorem aheadL_nil_r (a:List Span):Z49 a []:=by intro x _ y hy;cases hy
theorem Z9M {f:Form} (hl:Lim f) (hs:Shape f) (i:Int):Len (ZJ f i):=by
 by_cases ho:Z0B f i
 ·obtain ⟨g,hg,rfl⟩:=ho
  rw [Z1Y hs.inc hg];exact (hl.ticks g hg).2.1
 ·by_cases h0:f.Count = 0
  ·rw [Z1r ho h0];unfold Len;simp
  ·rw [Z3V ho h0];unfold Len;rw [YS];exact (hl.sets _ (Z2g hs h0 i).2).1
theorem Z6s {f:Form} (hs:Shape f) {i:Int} (hf:fits f i):RightL (ZJ f i):=by
 by_cases ho:Z0B f i
 ·obtain ⟨g,hg,rfl⟩:=ho
  rw [Z1Y hs.inc hg];exact (hs.odd g hg).1
 ·by_cases h0:f.Count = 0
  ·rw [Z1r ho h0];exact ⟨by simp,by simp⟩
  ·unfold fits at hf;rw [Z3V ho h0] at hf ⊢;exact (hs.core _ (Z2g hs h0 i).2).shift fun s hs' => hf (Z0A (Z5U f i) s) (List.mem_map.2 ⟨s,hs',rfl⟩)
theorem near_l {c:Bool} {X S:List Span}:Z49 (if c = true then X else []) S ↔ (c = true→Z49 X S):=by
 cases c
 ·simp [aheadL_nil_l]
 ·simp
theorem near_r {c:Bool} {X S:List Span}:Z49 S (if c = true then X else []) ↔ (c = true→Z49 S X):=by
 cases c
 ·simp [aheadL_nil_r]
 ·simp
noncomputable def sideG (f:Form) (r:Int × Bool):Option (Jx (List Span) Bool) :=
 (bif r.2 then (Z0c f r.1).bind fun x => (bif (x.2 != 0) then some (.ret false) else some (.go x.1)) else some (.go []))
open Classical in
theorem sideG_eq {f:Form} (hl:Lim f) (hs:Shape f) {r:Int × Bool} (ht:r.2 = true→ZD r.1):(r.2 = true∧¬ fits f r.1∧sideG f r = some (.ret false))∨((r.2 = true→fits f r.1)∧sideG f r = some (.go (if r.2 = true then ZJ f r.1 else []))):=by
 obtain ⟨j,c⟩:=r
 unfold sideG
 cases c with
 | false => exact .inr ⟨by simp,by simp⟩
 | true =>
  simp only [cond_true];rw [Z5d hl hs (Z2x (ht rfl))]
  by_cases hfl:fits f j
  ·rw [if_pos ⟨ht rfl,hfl⟩];exact .inr ⟨fun _ => hfl,by simp⟩
  ·rw [if_neg (fun h => hfl h.2)];exact .inl ⟨trivial,hfl,rfl⟩
open Classical in
theorem ZDF {f:Form} (hl:Lim f) (hs:Shape f) {i:Int} (hi:ZD i) {lo hi':Int × Bool} (hlo:Z1z f i = some lo) (hhi:Z1c f i = some hi') (tlo:lo.2 = true→ZD lo.1) (thi:hi'.2 = true→ZD hi'.1) :
  ∃ b,Z2Y f i = some b∧(b = true ↔ BesideR f i lo hi'):=by
 have e:Z2Y f i = (Z0c f i).bind fun x1 => (bif (x1.2 != 0) then some false else (sideG f lo).bind fun y1 => y1.elim (fun r' => some r') fun a2 => (sideG f hi').bind fun y2 => y2.elim (fun r' => some r') fun a4 =>
   (Z0y a2 x1.1).bind fun x6 => ((bif x6 then (Z0y x1.1 a4).bind fun x7 => some x7 else some false)).bind fun y3 => ((bif y3 then (Z0y a2 a4).bind fun x8 => some x8 else some false)).bind fun y4 => some y4):=by
  unfold Z2Y sideG;rw [hlo,hhi];simp only [Y0]
 rw [e,Z5d hl hs (Z2x hi)]
 clear e
 by_cases hf:fits f i
 ·rw [if_pos ⟨hi,hf⟩];simp only [Y0,bne_self_eq_false,cond_false]
  rcases sideG_eq hl hs tlo with ⟨h1,h2,h0⟩ | ⟨h1,h0⟩
  ·rw [h0];exact ⟨false,rfl,fun h => (by cases h),fun h => absurd (h.2.1 h1).1 h2⟩
  ·rw [h0];simp only [Y0,Jx.elim]
   rcases sideG_eq hl hs thi with ⟨h3,h4,h0'⟩ | ⟨h3,h0'⟩
   ·rw [h0'];exact ⟨false,rfl,fun h => (by cases h),fun h => absurd (h.2.2.1 h3).1 h4⟩
   ·rw [h0'];simp only [Y0];have lenA:Len (if lo.2 = true then ZJ f lo.1 else []):=by
     by_cases hc:lo.2 = true
     ·rw [if_pos hc];exact Z9M hl hs _
     ·rw [if_neg hc];unfold Len;simp
    generalize hA:(if lo.2 = true then ZJ f lo.1 else []) = A at lenA
    generalize hB:(if hi'.2 = true then ZJ f hi'.1 else []) = B
    obtain ⟨r1,q1,p1⟩:=Z6V (b:=ZJ f i) lenA
    obtain ⟨r2,q2,p2⟩:=Z6V (a:=ZJ f i) (b:=B) (Z9M hl hs i)
    obtain ⟨r3,q3,p3⟩:=Z6V (b:=B) lenA
    rw [q1,q2,q3];subst hA hB;rw [near_l] at p1;rw [near_r] at p2;rw [near_l,near_r] at p3;refine ⟨r1 && r2 && r3,by cases r1 <;> cases r2 <;> rfl,?_⟩
    rw [Y9,Y9,p1,p2,p3]
    constructor
    ·rintro ⟨⟨a,b⟩,c⟩;exact ⟨hf,fun h => ⟨h1 h,a h⟩,fun h => ⟨h3 h,b h⟩,c⟩
    ·rintro ⟨_,a,b,c⟩;exact ⟨⟨fun h => (a h).2,fun h => (b h).2⟩,c⟩
 ·rw [if_neg (fun h => hf h.2)]
  exact ⟨false,rfl,fun h => (by cases h),fun h => absurd h.1 hf⟩
def Beside (f:Form) (i:Int):Prop:=∀ lo hi,Under f i lo→Above f i hi→BesideR f i lo hi
theorem Under.uniq {f:Form} {i:Int} {r r':Int × Bool} (h:Under f i r) (h':Under f i r'):r = r':=by
 obtain ⟨a,b⟩:=r
 obtain ⟨a',b'⟩:=r'
 rcases h with ⟨rfl,h1,h2,h3,h4⟩ | ⟨rfl,rfl,h4⟩ <;> rcases h' with ⟨rfl,k1,k2,k3,k4⟩ | ⟨rfl,rfl,k4⟩
 ·simp only at *
  rcases Int.lt_trichotomy a a' with h | h | h
  ·exact absurd (h4 a' k1 h k2) k3
  ·rw [h]
  ·exact absurd (k4 a h1 h h2) h3
 ·exact absurd (k4 a h1 h2) h3
 ·exact absurd (h4 a' k1 k2) k3
 ·rfl
theorem Above.uniq {f:Form} {i:Int} {r r':Int × Bool} (h:Above f i r) (h':Above f i r'):r = r':=by
 obtain ⟨a,b⟩:=r
 obtain ⟨a',b'⟩:=r'
 rcases h with ⟨rfl,h1,h2,h3,h4⟩ | ⟨rfl,rfl,h4⟩ <;> rcases h' with ⟨rfl,k1,k2,k3,k4⟩ | ⟨rfl,rfl,k4⟩
 ·simp only at *
  rcases Int.lt_trichotomy a a' with h | h | h
  ·exact absurd (k4 a h1 h h2) h3
  ·rw [h]
  ·exact absurd (h4 a' k1 h k2) k3
 ·exact absurd (k4 a h1 h2) h3
 ·exact absurd (h4 a' k1 k2) k3
 ·rfl
theorem ZCr {f:Form} (hl:Lim f) (hs:Shape f) {i:Int} (hi:ZD i):∃ b,Z2Y f i = some b∧(b = true ↔ Beside f i):=by
 obtain ⟨lo,h1,h2⟩:=Z6f hl hs (Z2x hi)
 obtain ⟨hi',h3,h4⟩:=Z3R hl hs (Z2x hi)
 obtain ⟨b,h5,h6⟩:=ZDF hl hs hi h1 h3 (fun h => by rcases h2 with ⟨_,_,h,_⟩ | ⟨h',_⟩ <;> simp_all) (fun h => by rcases h4 with ⟨_,_,h,_⟩ | ⟨h',_⟩ <;> simp_all)
 refine ⟨b,h5,h6.trans ⟨fun h lo' hi'' q1 q2 => ?_,fun h => h lo hi' h2 h4⟩⟩
 rw [q1.uniq h2,q2.uniq h4];exact h
def sizeF (f:Form):Nat:=(f.Core.map List.length).sum + (f.Odd.map (·.Ticks.length)).sum
theorem sum_take {α:Type} (g:α→Nat) {l:List α} {k:Nat} (h:k < l.length):((l.take (k + 1)).map g).sum = ((l.take k).map g).sum + g l[k]:=by
 rw [Y0Z h,Y0J,List.sum_append];simp
theorem ZAt {f:Form} (hl:Lim f) (hc:f.Core.length≤6000) (ho:f.Odd.length≤6000):Z0L f = some (sizeF f:Int):=by
 have hr:=Z1J
 have lenC:∀ l ∈ f.Core,l.length≤8796093022207:=fun l hm => by have:=(hl.sets l hm).1;unfold Len at this;omega
 have lenO:∀ g ∈ f.Odd,g.Ticks.length≤8796093022207:=fun l hm => by have:=(hl.ticks l hm).2.1;unfold Len at this;omega
 obtain ⟨a,h1,h2,h3⟩:=fold_loop (l:=f.Core) (step:=Z0L.s0 f) (f:=fun a _ x => a + (x.length:Int)) (fin:=id) (a0:=(0:Int)) (fun k a => a = ((((f.Core.take k).map List.length).sum:Nat):Int)∧a≤k * 8796093022207) ⟨by simp,by simp⟩ (fun k x a hk ⟨ha,hb⟩ => by
   obtain ⟨q1,q2⟩:=Z93 hk
   have hx:=lenC x (Y7 hk)
   have hkl:k < f.Core.length:=by omega
   have h0:0≤a:=by rw [ha];omega
   unfold Z0L.s0;simp only;rw [ZP q2,cond_true,q1,Z6 (x:=(k:Int) + 1) (by omega)]
   simp only [Y0];rw [Z6 (x:=a + (x.length:Int)) (by omega)]
   refine ⟨rfl,?_,by push_cast;omega⟩
   rw [sum_take _ hkl];rw [Y2 hkl] at hk;cases hk;rw [ha];push_cast;rfl) (fun a _ => by unfold Z0L.s0;simp only;rw [ZQ (by omega)];rfl)
 rw [Yz] at h2
 obtain ⟨b,h4,h5,h6⟩:=fold_loop (l:=f.Odd) (step:=Z0L.s1 f) (f:=fun a _ x => a + (x.Ticks.length:Int)) (fin:=id) (a0:=a) (fun k b => b = a + ((((f.Odd.take k).map (·.Ticks.length)).sum:Nat):Int)∧b≤a + k * 8796093022207) ⟨by simp,by simp⟩ (fun k x b hk ⟨ha,hb⟩ => by
   obtain ⟨q1,q2⟩:=Z93 hk
   have hx:=lenO x (Y7 hk)
   have hkl:k < f.Odd.length:=by omega
   have h0:0≤b:=by rw [ha,h2];omega
   unfold Z0L.s1;simp only;rw [ZP q2,cond_true,q1,Z6 (x:=(k:Int) + 1) (by omega)]
   simp only [Y0];rw [Z6 (x:=b + (x.Ticks.length:Int)) (by omega)]
   refine ⟨rfl,?_,by push_cast;omega⟩
   rw [sum_take _ hkl];rw [Y2 hkl] at hk;cases hk;rw [ha];push_cast;omega) (fun a _ => by unfold Z0L.s1;simp only;rw [ZQ (by omega)];rfl)
 rw [Yz] at h5
 unfold Z0L
 rw [h1]
 simp only [Y0,id]
 rw [h4]
 simp only [Y0,id,h5,h2,sizeF]
 push_cast;rfl
structure RightF (f:Form):Prop where
 shape:Shape f
 turns:Turns f
 beside:∀ g ∈ f.Odd,Beside f g.Index
def LongF (f:Form):Prop:=6000 < f.Core.length∨6000 < f.Odd.length∨60000 < sizeF f
theorem Z3t {f:Form} (hl:Lim f):(LongF f∧Zo f = some 3)∨(¬ LongF f∧RightF f∧Zo f = some 0)∨(¬ LongF f∧¬ RightF f∧Zo f = some 50):=by
 have holen:=Z3F (b:=31) hl.odd
 unfold Zo
 by_cases h1:6000 < f.Core.length∨6000 < f.Odd.length
 ·have e:(decide ((f.Core.length:Int) > 6000) || decide ((f.Odd.length:Int) > 6000)) = true:=by
   rcases h1 with h | h
   ·rw [ZP (show (f.Core.length:Int) > 6000 by omega)];rfl
   ·rw [ZP (show (f.Odd.length:Int) > 6000 by omega)];simp
  rw [e];exact .inl ⟨h1.elim .inl (fun h => .inr (.inl h)),rfl⟩
 ·have e:(decide ((f.Core.length:Int) > 6000) || decide ((f.Odd.length:Int) > 6000)) = false:=by
   rw [ZQ (show ¬ (f.Core.length:Int) > 6000 by omega),ZQ (show ¬ (f.Odd.length:Int) > 6000 by omega)];rfl
  rw [e,cond_false,ZAt hl (by omega) (by omega)]
  simp only [Y0]
  by_cases h2:60000 < sizeF f
  ·rw [ZP (show (sizeF f:Int) > 60000 by omega)]
   exact .inl ⟨.inr (.inr h2),rfl⟩
  ·have hnl:¬ LongF f:=by unfold LongF;omega
   rw [ZQ (show ¬ (sizeF f:Int) > 60000 by omega),cond_false]
   obtain ⟨b,hb,hbs⟩:=gran_shape_eq hl
   rw [hb];simp only [Y0];refine .inr ?_;cases b with
   | false => exact .inr ⟨hnl,fun h => (by have:=hbs.2 h.shape;cases this),rfl⟩
   | true =>
    have hs:=hbs.1 rfl
    obtain ⟨c,hc,hct⟩:=gran_turns_eq hl hs
    rw [hc];simp only [Y0,YD,cond_false];cases c with
    | false => exact .inr ⟨hnl,fun h => (by have:=hct.2 h.turns;cases this),rfl⟩
    | true =>
     simp only [YD,cond_false]
     rcases Z2o (l:=f.Odd) (step:=Zo.s0 f) (fun _ g => Beside f g.Index) (no:=.ret 50) (yes:=.go ()) (fun k g hk _ => by
       obtain ⟨q1,q2⟩:=Z93 hk
       obtain ⟨b,hb,hbb⟩:=ZCr hl hs (hs.odd g (Y7 hk)).2
       unfold Zo.s0;rw [ZP q2,cond_true,q1,Z6 (by omega)]
       simp only [Y0,hb];cases b
       ·exact .inr ⟨rfl,fun h => by have:=hbb.2 h;cases this⟩
       ·exact .inl ⟨rfl,hbb.1 rfl⟩) (by unfold Zo.s0;rw [ZQ (by omega)];rfl) with ⟨q1,q2⟩ | ⟨q1,q2⟩
     ·rw [q1];exact .inl ⟨hnl,⟨hs,hct.1 rfl,fun g hg => by obtain ⟨k,hk⟩:=YC hg;exact q2 k g hk⟩,rfl⟩
     ·rw [q1];exact .inr ⟨hnl,fun h => q2 fun k g hk => h.beside g (Y7 hk),rfl⟩
def Z8f (f:Form):Prop:=f.Core.length≤12∧f.Odd.length≤8∧sizeF f≤60
theorem Z9g {f:Form} (hl:Lim f):∃ b,Z0s f = some b∧(b = true ↔ Z8f f):=by
 unfold Z0s
 by_cases h:f.Core.length≤12∧f.Odd.length≤8
 ·rw [ZP (show (f.Core.length:Int)≤12 by omega),ZP (show (f.Odd.length:Int)≤8 by omega),ZAt hl (by omega) (by omega)]
  refine ⟨decide ((sizeF f:Int)≤60),rfl,?_⟩;rw [decide_eq_true_iff];exact ⟨fun h' => ⟨h.1,h.2,by omega⟩,fun h' => by have:=h'.2.2;omega⟩
 ·have e:(decide ((f.Core.length:Int)≤12) && decide ((f.Odd.length:Int)≤8)) = false:=by
   by_cases h1:f.Core.length≤12
   ·rw [ZQ (show ¬ (f.Odd.length:Int)≤8 by omega)];simp
   ·rw [ZQ (show ¬ (f.Core.length:Int)≤12 by omega)];rfl
  rw [e];exact ⟨false,rfl,fun h => (by cases h),fun h' => absurd ⟨h'.1,h'.2.1⟩ h⟩
end Go.Dn

namespace Go.Dn
open Go
theorem Z3r {f:Form} {l:List Span}:l ∈ full f ↔ l ∈ f.Core∧l ≠ []:=by
 unfold full
 rw [List.mem_filter,decide_eq_true_iff,gt_iff_lt,List.length_pos_iff]
theorem full_pair {f:Form} (hs:Shape f) (ht:Turns f):(full f).Pairwise (fun a b => lstT a < fstT b):=by
 have hm:∀ x ∈ full f,fstT x≤lstT x:=fun x hx => Z1m (hs.core x (Z3r.1 hx).1) (Z3r.1 hx).2
 have h1:=ht.1
 generalize full f = l at hm h1
 induction l with
 | nil => exact .nil
 | cons x l ih =>
  have ih:=ih (fun y hy => hm y (YY _ hy)) (fun k a b ha hb => h1 (k + 1) a b ha hb)
  refine List.pairwise_cons.2 ⟨fun y hy => ?_,ih⟩
  cases l with
  | nil => cases hy
  | cons z l =>
   have hxz:=h1 0 x z rfl rfl
   rcases List.mem_cons.1 hy with rfl | hy
   ·exact hxz
   ·have:=(List.pairwise_cons.1 ih).1 y hy
    have:=hm z (by simp)
    omega
theorem core_pair {f:Form} (hs:Shape f) (ht:Turns f) {j k:Nat} {a b:List Span} (hjk:j < k) (ha:f.Core[j]? = some a) (hb:f.Core[k]? = some b) (na:a ≠ []) (nb:b ≠ []):lstT a < fstT b:=by
 have h:=full_pair hs ht
 unfold full at h
 rw [List.pairwise_filter] at h
 have hj:=(List.getElem?_eq_some_iff.1 ha)
 have hk:=(List.getElem?_eq_some_iff.1 hb)
 obtain ⟨hj,rfl⟩:=hj
 obtain ⟨hk,rfl⟩:=hk
 exact List.pairwise_iff_getElem.1 h j k hj hk hjk (by rw [decide_eq_true_iff];exact List.length_pos_iff.2 na) (by rw [decide_eq_true_iff];exact List.length_pos_iff.2 nb)
theorem core_turn {f:Form} (hs:Shape f) (ht:Turns f) {a b:List Span} (ha:a ∈ f.Core) (hb:b ∈ f.Core) (na:a ≠ []) (nb:b ≠ []):lstT a < fstT b + f.Period:=by
 have hA:=Z3r.2 ⟨ha,na⟩
 have hB:=Z3r.2 ⟨hb,nb⟩
 have hm:∀ x ∈ full f,fstT x≤lstT x:=fun x hx => Z1m (hs.core x (Z3r.1 hx).1) (Z3r.1 hx).2
 have hn:full f ≠ []:=Y0v hA
 have hlast:=Y02 hn
 have hhead:=Y08 hn
 have h2:=ht.2 _ _ hlast hhead
 have hp:=full_pair hs ht
 have e1:lstT a≤lstT ((full f).getLast hn):=by
  obtain ⟨j,hj⟩:=YC hA
  obtain ⟨hjl,hj⟩:=List.getElem?_eq_some_iff.1 hj
  by_cases hc:j = (full f).length - 1
  ·subst hc;rw [List.getLast_eq_getElem,hj];exact Yb _
  ·have:=List.pairwise_iff_getElem.1 hp j ((full f).length - 1) hjl (by omega) (by omega)
   rw [hj] at this;have h5:=hm _ (List.getLast_mem hn)
   rw [List.getLast_eq_getElem] at h5 ⊢;omega
 have e2:fstT ((full f).head hn)≤fstT b:=by
  obtain ⟨j,hj⟩:=YC hB
  obtain ⟨hjl,hj⟩:=List.getElem?_eq_some_iff.1 hj
  have hh:(full f).head hn = (full f)[0]'(by omega):=List.head_eq_getElem hn
  by_cases hc:j = 0
  ·subst hc;rw [hh,hj];exact Yb _
  ·have:=List.pairwise_iff_getElem.1 hp 0 j (by omega) hjl (by omega)
   rw [hj,← hh] at this;have h5:=hm _ (List.head_mem hn)
   omega
 omega
theorem ZE0 {f:Form} (hs:Shape f) (h0:f.Count ≠ 0) (i:Int):f.Core[(i % f.Count).toNat]? = some (Z2M f i):=by
 have:=(Z2g hs h0 i).1
 unfold at? at this
 rwa [if_pos (Yn i h0)] at this
theorem ZDX {f:Form} (hs:Shape f) (ht:Turns f) (h0:f.Count ≠ 0) {i k:Int} (hik:i < k) (ni:Z2M f i ≠ []) (nk:Z2M f k ≠ []):lstT (Z2M f i) + Z5U f i < fstT (Z2M f k) + Z5U f k:=by
 have hp:=ZAj hs h0
 have di:=Yv i f.Count
 have dk:=Yv k f.Count
 have mi:=Yn i h0
 have mk:=Yn k h0
 have li:=Yx i hp
 have lk:=Yx k hp
 have hq:i / f.Count≤k / f.Count:=Int.ediv_le_ediv hp (by omega)
 unfold Z5U
 rcases Int.lt_or_eq_of_le hq with h | h
 ·have h1:=core_turn hs ht (Z2g hs h0 i).2 (Z2g hs h0 k).2 ni nk
  have h2:(i / f.Count + 1) * f.Period≤k / f.Count * f.Period:=Y00 (by omega) hs.per.1
  rw [Int.add_mul,Int.one_mul] at h2;omega
 ·rw [h] at di ⊢;have:i % f.Count < k % f.Count:=by omega
  have h1:=core_pair hs ht (j:=(i % f.Count).toNat) (k:=(k % f.Count).toNat) (by omega) (ZE0 hs h0 i) (ZE0 hs h0 k) ni nk
  omega
theorem Z0d {l:List Span} (d:Int) (hn:l ≠ []):lstT (l.map (Z0A d)) = lstT l + d∧fstT (l.map (Z0A d)) = fstT l + d:=by
 unfold lstT fstT
 rw [List.getLast?_map,List.head?_map,Y02 hn,Y08 hn]
 exact ⟨rfl,rfl⟩
theorem under_some {f:Form} (hl:Lim f) (hs:Shape f) {i k:Int} (hk:In64 k) (hik:i < k) (ti:ZD i) (ni:ZJ f i ≠ []):∃ j,Under f k (j,true)∧i≤j:=by
 obtain ⟨r,_,h⟩:=Z6f hl hs hk
 obtain ⟨j,b⟩:=r
 have h':=h
 rcases h with ⟨rfl,h1,h2,h3,h4⟩ | ⟨rfl,_,h4⟩
 ·refine ⟨j,h',?_⟩;apply Classical.byContradiction;intro hc;exact ni (h4 i hik (by simp only;omega) ti)
 ·exact absurd (h4 i hik ti) ni
theorem above_some {f:Form} (hl:Lim f) (hs:Shape f) {i k:Int} (hk:In64 k) (hik:k < i) (ti:ZD i) (ni:ZJ f i ≠ []):∃ j,Above f k (j,true)∧j≤i:=by
 obtain ⟨r,_,h⟩:=Z3R hl hs hk
 obtain ⟨j,b⟩:=r
 have h':=h
 rcases h with ⟨rfl,h1,h2,h3,h4⟩ | ⟨rfl,_,h4⟩
 ·refine ⟨j,h',?_⟩;apply Classical.byContradiction;intro hc;exact ni (h4 i hik (by simp only;omega) ti)
 ·exact absurd (h4 i hik ti) ni
theorem RightF.order {f:Form} (hl:Lim f) (hr:RightF f):∀ (n:Nat) (i k:Int),(k - i).toNat = n→i < k→ZD i→ZD k→fits f i→fits f k→ZJ f i ≠ []→ZJ f k ≠ []→lstT (ZJ f i) < fstT (ZJ f k):=by
 have hs:=hr.shape
 intro n
 induction n using Nat.strongRecOn with
 | _ n ih =>
  intro i k hn hik ti tk fi fk ni nk
  by_cases ok:Z0B f k
  ·obtain ⟨g,hg,rfl⟩:=ok
   obtain ⟨j,hj,hij⟩:=under_some hl hs (Z2x tk) hik ti ni
   obtain ⟨hi',_,hab⟩:=Z3R hl hs (Z2x tk)
   obtain ⟨_,hlo,_,_⟩:=hr.beside g hg _ _ hj hab
   obtain ⟨fj,aj⟩:=hlo rfl
   have hj2:=hj
   rcases hj2 with ⟨_,j1,j2,j3,j4⟩ | ⟨h,_⟩
   ·simp only at fj aj j1 j2 j3;have hjk:=(ZD7 j3 nk).1 aj
    by_cases hji:i = j
    ·rw [hji];exact hjk
    ·have h1:=ih (j - i).toNat (by omega) i j rfl (by omega) ti j2 fi fj ni j3
     have h2:=Z1m (Z6s hs fj) j3
     omega
   ·cases h
  ·by_cases oi:Z0B f i
   ·obtain ⟨g,hg,rfl⟩:=oi
    obtain ⟨j,hj,hij⟩:=above_some hl hs (Z2x ti) hik tk nk
    obtain ⟨lo',_,hun⟩:=Z6f hl hs (Z2x ti)
    obtain ⟨_,_,hhi,_⟩:=hr.beside g hg _ _ hun hj
    obtain ⟨fj,aj⟩:=hhi rfl
    have hj2:=hj
    rcases hj2 with ⟨_,j1,j2,j3,j4⟩ | ⟨h,_⟩
    ·simp only at fj aj j1 j2 j3;have hjk:=(ZD7 ni j3).1 aj
     by_cases hji:j = k
     ·rw [← hji];exact hjk
     ·have h1:=ih (k - j).toNat (by omega) j k rfl (by omega) j2 tk fj fk j3 nk
      have h2:=Z1m (Z6s hs fj) j3
      omega
    ·cases h
   ·have h0:f.Count ≠ 0:=fun h => ni (Z1r oi h)
    have ni':=fun h => ni ((Z2t oi h0).2 h)
    have nk':=fun h => nk ((Z2t ok h0).2 h)
    rw [Z3V oi h0,Z3V ok h0,(Z0d _ ni').1,(Z0d _ nk').2];exact ZDX hs hr.turns h0 hik ni' nk'
theorem Z7w (a b:Int):iMin a b = min a b:=by unfold iMin;omega
theorem ZAo (a b:Int):iMax a b = max a b:=by unfold iMax;omega
end Go.Dn

namespace Go.Dn
open Go
theorem Above.tick {f:Form} {i:Int} {r:Int × Bool} (h:Above f i r) (hr:r.2 = true):i < r.1∧ZD r.1∧ZJ f r.1 ≠ []∧∀ k,i < k→k < r.1→ZD k→ZJ f k = []:=by
 rcases h with ⟨_,h1,h2,h3,h4⟩ | ⟨h,_⟩
 ·exact ⟨h1,h2,h3,h4⟩
 ·rw [hr] at h;cases h
theorem Under.tick {f:Form} {i:Int} {r:Int × Bool} (h:Under f i r) (hr:r.2 = true):r.1 < i∧ZD r.1∧ZJ f r.1 ≠ []∧∀ k,k < i→r.1 < k→ZD k→ZJ f k = []:=by
 rcases h with ⟨_,h1,h2,h3,h4⟩ | ⟨h,_⟩
 ·exact ⟨h1,h2,h3,h4⟩
 ·rw [hr] at h;cases h
end Go.Dn

namespace Go.Dn
open Go
theorem eqf_loop {α β:Type} {a:List α} {b:List β} {step:Int→Option (Int ⊕ Jx Unit Bool)} {eq:α→β→Option Bool} (P:α→β→Prop)
  (hl:(a.length:Int) < 9223372036854775807) (hab:a.length = b.length)
  (heq:∀ (k:Nat) x y,a[k]? = some x→b[k]? = some y→∃ r,eq x y = some r∧(r = true ↔ P x y))
  (hstep:∀ s,step s = bif decide (s < (a.length:Int)) then (at? a s).bind fun x1 => (at? b s).bind fun x2 => (eq x1 x2).bind fun x3 => bif (!x3) then some (.inr (.ret false)) else some (.inl (w64 (s + 1))) else some (.inr (.go ()))) :
  (loopO step 0 = some (.go ())∧∀ (k:Nat) x y,a[k]? = some x→b[k]? = some y→P x y)∨(loopO step 0 = some (.ret false)∧¬ ∀ (k:Nat) x y,a[k]? = some x→b[k]? = some y→P x y):=by
 rcases Z2o (l:=a) (step:=step) (fun k x => ∀ y,b[k]? = some y→P x y) (no:=.ret false) (yes:=.go ()) (fun k x hk hp => by
  have hlt:=(List.getElem?_eq_some_iff.1 hk).1
  have hat:at? a (k:Int) = some x:=by rw [at?_nat hlt];rw [Y2 hlt] at hk;exact hk
  have hbt:at? b (k:Int) = some (b[k]'(by omega)):=at?_nat (by omega)
  have hbk:b[k]? = some (b[k]'(by omega)):=Y2 (by omega)
  obtain ⟨r,h1,h2⟩:=heq k x _ hk hbk
  rw [hstep,ZP (show (k:Int) < a.length by omega),cond_true,hat,hbt,Z6 (show _ by omega)]
  simp only [Y0,h1];cases r with
  | true => exact .inl ⟨rfl,fun y hy => by rw [hbk] at hy;cases hy;exact h2.1 rfl⟩
  | false => exact .inr ⟨rfl,fun h => by have:=h2.2 (h _ hbk);cases this⟩) (by
  rw [hstep,ZQ (by omega)];rfl) with ⟨h1,h2⟩ | ⟨h1,h2⟩
 ·exact .inl ⟨h1,fun k x y hx hy => h2 k x hx y hy⟩
 ·exact .inr ⟨h1,fun h => h2 fun k x hx y hy => h k x y hx hy⟩
theorem ZCW {a b:List Span} {d:Int} (hl:a.length = b.length):(∀ (k:Nat) x y,a[k]? = some x→b[k]? = some y→y.From - x.From = d∧y.To - x.To = d) ↔ b = a.map (Z0A d):=by
 constructor
 ·intro h;apply Y0Q;intro k
  by_cases hk:k < a.length
  ·have h1:a[k]? = some a[k]:=Y2 hk
   have h2:b[k]? = some (b[k]'(by omega)):=Y2 (by omega)
   rw [h2,YN,h1];obtain ⟨q1,q2⟩:=h k _ _ h1 h2
   simp only [YA,Z0A,Y5];generalize b[k]'(by omega) = y at q1 q2 ⊢
   obtain ⟨y1,y2⟩:=y
   simp only at q1 q2;simp only [Span.mk.injEq];omega
  ·rw [YR (by omega),YR (by simp;omega)]
 ·rintro rfl k x y hx hy;rw [YN,hx] at hy;simp only [YA,Y5] at hy;subst hy;simp only [Z0A];omega
theorem ZBa {a b:List Span} {d:Int} (ha:RightL a) (hb:RightL b) (hl:Len a):∃ r,Z2a a b d = some r∧(r = true ↔ b = a.map (Z0A d)):=by
 have hl':(a.length:Int) < 9223372036854775807:=by have:=Z1J;unfold Len at hl;omega
 unfold Z2a Z8
 by_cases hlen:a.length = b.length
 ·rw [bne_f (by omega),cond_false]
  have tk:∀ {l:List Span},RightL l→∀ (k:Nat) s,l[k]? = some s→ZD s.From∧ZD s.To:=fun {l} h k s hs => by
   have:=Z8L.1 h k s hs
   unfold Z5X at this;exact ⟨this.1,this.2.1⟩
  rcases eqf_loop (a:=a) (b:=b) (step:=Z8.s0 a b (fun z0 z1 => some (Z1o z0 z1 d))) (eq:=fun z0 z1 => some (Z1o z0 z1 d)) (fun x y => y.From - x.From = d∧y.To - x.To = d) hl' hlen (fun k x y hx hy => by
   refine ⟨_,rfl,?_⟩;obtain ⟨x1,x2⟩:=tk ha k x hx
   obtain ⟨y1,y2⟩:=tk hb k y hy
   unfold ZD at x1 x2 y1 y2;unfold Z1o;rw [Z6 (by omega),Z6 (by omega)]
   simp) (fun s => rfl) with ⟨h1,h2⟩ | ⟨h1,h2⟩
  ·rw [h1];exact ⟨true,rfl,⟨fun _ => (ZCW hlen).1 h2,fun _ => rfl⟩⟩
  ·rw [h1];refine ⟨false,rfl,by simp only [Y6,false_iff];exact fun h => h2 ((ZCW hlen).2 h)⟩
 ·rw [bne_t (by omega),cond_true]
  refine ⟨false,rfl,by simp only [Y6,false_iff];rintro rfl;exact hlen (by simp)⟩
end Go.Dn

namespace Go.Dn
open Go
noncomputable def cs (f:Form) (i:Int):List Span:=(Z2M f i).map (Z0A (Z5U f i))
theorem Z21 (l:List Span) (a b:Int):(l.map (Z0A a)).map (Z0A b) = l.map (Z0A (a + b)):=by
 rw [List.map_map]
 congr 1
 funext s
 simp only [Function.comp,Z0A,Span.mk.injEq]
 omega
theorem shift_inj {a b:List Span} {d:Int} (h:a.map (Z0A d) = b.map (Z0A d)):a = b:=by
 have:=congrArg (List.map (Z0A (-d))) h
 rw [Z21,Z21,Int.add_right_neg,ZA0,ZA0] at this
 exact this
theorem Z7X {f:Form} (h0:f.Count ≠ 0) (i:Int):cs f (i + f.Count) = (cs f i).map (Z0A f.Period):=by
 unfold cs Z2M Z5U
 rw [Z21,Int.add_emod_right,Int.add_ediv_of_dvd_right (Int.dvd_refl _),Int.ediv_self h0,Int.add_mul,Int.one_mul]
theorem Z88 {f:Form} (h0:f.Count ≠ 0) (i k:Int):cs f (i + f.Count * k) = (cs f i).map (Z0A (k * f.Period)):=by
 unfold cs Z2M Z5U
 rw [Z21,Int.add_mul_emod_self_left,Int.add_mul_ediv_left _ _ h0,Int.add_mul]
theorem Z3u {f:Form} {i:Int} (h0:0≤i) (h1:i < f.Count):cs f i = f.Core.getD i.toNat []:=by
 unfold cs Z2M Z5U
 rw [Int.emod_eq_of_lt h0 h1,Int.ediv_eq_zero_of_lt h0 h1,Int.zero_mul,ZA0]
def TurnZ (f:Form) (d q:Int):Prop:=∀ i,cs f (i + d) = (cs f i).map (Z0A q)
theorem turn_of {f:Form} (h0:0 < f.Count) {d q:Int} (h:∀ i,0≤i→i < f.Count→cs f (i + d) = (cs f i).map (Z0A q)):TurnZ f d q:=by
 intro i
 have e:i = i % f.Count + f.Count * (i / f.Count):=(Yv i f.Count).symm
 have h1:=h (i % f.Count) (Yn i (by omega)) (Yx i h0)
 have e2:i + d = (i % f.Count + d) + f.Count * (i / f.Count):=by omega
 rw [e2,Z88 (by omega),h1]
 conv => rhs;rw [e,Z88 (by omega)]
 rw [Z21,Z21,Int.add_comm]
def Z7c (f:Form) (d k:Int):Int:=if k + d ≥ f.Count then k + d - f.Count else k + d
def Z8u (f:Form) (d k:Int):Int:=if k + d ≥ f.Count then f.Period else 0
theorem wrap_cs {f:Form} {d k:Int} (hd:1≤d) (hdn:d≤f.Count) (h0:0≤k) (h1:k < f.Count):0≤Z7c f d k∧Z7c f d k < f.Count∧cs f (k + d) = (cs f (Z7c f d k)).map (Z0A (Z8u f d k)):=by
 unfold Z7c Z8u
 by_cases h:k + d ≥ f.Count
 ·rw [if_pos h,if_pos h];refine ⟨by omega,by omega,?_⟩
  rw [← Z7X (by omega)]
  congr 1;omega
 ·rw [if_neg h,if_neg h,ZA0];exact ⟨by omega,by omega,rfl⟩
theorem canon_turn_eq {f:Form} (hl:Lim f) (hs:Shape f) {d q:Int} (hd:1≤d) (hdn:d≤f.Count) (hq:0≤q∧q≤1099511627776):∃ r,Z17 f d q = some r∧(r = true ↔ TurnZ f d q):=by
 have hcl:(f.Core.length:Int) < 4611686018427387904:=Z3F (b:=23) hl.core
 have hcnt:=hs.count
 have key:∀ k:Int,0≤k→k < f.Count→(cs f (Z7c f d k) = (cs f k).map (Z0A (q - Z8u f d k)) ↔ cs f (k + d) = (cs f k).map (Z0A q)):=fun k k0 k1 => by
  obtain ⟨_,_,h⟩:=wrap_cs hd hdn k0 k1
  rw [h]
  constructor
  ·intro e;rw [e,Z21]
   congr 2;omega
  ·intro e;apply shift_inj (d:=Z8u f d k)
   rw [e,Z21]
   congr 2;omega
 unfold Z17
 rcases Z2o (l:=f.Core) (step:=Z17.s0 f d q) (fun k x => cs f (Z7c f d k) = x.map (Z0A (q - Z8u f d k))) (no:=.ret false) (yes:=.go ()) (fun k x hk hp => by
  have hlt:=(List.getElem?_eq_some_iff.1 hk).1
  have hat:at? f.Core (k:Int) = some x:=by rw [at?_nat hlt];rw [Y2 hlt] at hk;exact hk
  obtain ⟨w0,w1,_⟩:=wrap_cs (f:=f) (k:=(k:Int)) hd hdn (by omega) (by omega)
  have hx:=hs.core x (Y7 hk)
  have hlx:=(hl.sets x (Y7 hk)).1
  have hwl:(Z7c f d k).toNat < f.Core.length:=by omega
  have hgw:cs f (Z7c f d k) = f.Core[(Z7c f d k).toNat]:=by rw [Z3u w0 w1,YJ,Y2 hwl];rfl
  have hy:=hs.core _ (YF hwl)
  have hat2:at? f.Core (Z7c f d k) = some f.Core[(Z7c f d k).toNat]:=at?_lt w0 (by omega)
  have hpk:(bif decide (w64 ((k:Int) + d) ≥ f.Count) then some (w64 (w64 ((k:Int) + d) - f.Count),f.Period) else some (w64 ((k:Int) + d),0)) = some (Z7c f d k,Z8u f d k):=by
   rw [Z6 (show _ by omega)]
   unfold Z7c Z8u
   by_cases h:(k:Int) + d ≥ f.Count
   ·rw [ZP h,cond_true,if_pos h,if_pos h,Z6 (show _ by omega)]
   ·rw [ZQ h,cond_false,if_neg h,if_neg h]
  obtain ⟨r,h1,h2⟩:=ZBa (d:=q - Z8u f d k) hx hy hlx
  have hwp:0≤Z8u f d k∧Z8u f d k≤1099511627776:=by have:=hs.per;unfold Z8u;split <;> omega
  unfold Z17.s0;rw [ZP (show (k:Int) < f.Core.length by omega),cond_true,hat]
  simp only [Y0,hpk,hat2];rw [Z6 (show _ by omega),h1]
  simp only [Y0];rw [hgw];cases r with
  | true => exact .inl ⟨by simp only [YD,cond_false,Y0,Jx.elim];rw [Z6 (show _ by omega)],h2.1 rfl⟩
  | false => exact .inr ⟨rfl,fun h => by have:=h2.2 h;cases this⟩) (by
  unfold Z17.s0;rw [ZQ (by omega)];rfl) with ⟨h1,h2⟩ | ⟨h1,h2⟩
 ·rw [h1];refine ⟨true,rfl,⟨fun _ => turn_of (by omega) fun i i0 i1 => ?_,fun _ => rfl⟩⟩
  have hlt:i.toNat < f.Core.length:=by omega
  have:=h2 i.toNat _ (Y2 hlt)
  rw [Y0b i0] at this;refine (key i i0 i1).1 ?_;rw [this,Z3u i0 i1,YJ,Y2 hlt];rfl
 ·rw [h1];refine ⟨false,rfl,⟨(fun h => nomatch h),fun ht => absurd (fun k x hk => ?_) h2⟩⟩
  have hlt:=(List.getElem?_eq_some_iff.1 hk).1
  have:=(key k (by omega) (by omega)).2 (ht k)
  rw [this,Z3u (by omega) (by omega),YJ,YU,hk];rfl
end Go.Dn

namespace Go.Dn
open Go
structure Good (f:Form) (d:Int):Prop where
 pos:1≤d
 dvd:d ∣ f.Count
 rest:f.Period % (f.Count / d) = 0
 turn:TurnZ f d (f.Period / (f.Count / d))
theorem good_self {f:Form} (h0:0 < f.Count):Good f f.Count:=by
 have e:f.Count / f.Count = 1:=Int.ediv_self (by omega)
 exact ⟨by omega,Int.dvd_refl _,by rw [e];omega,by rw [e,Int.ediv_one];exact Z7X (by omega)⟩
theorem copy_loop {x4:List (List Span)} (hc:x4.length * 24≤reachBytes) (hs:∀ l ∈ x4,Len l):loopO (Z00.s1 x4) (0,[]) = some x4:=by
 have hcl:(x4.length:Int) < 4611686018427387904:=Z3F (b:=23) hc
 have hr:=Z1J
 have hro:=Z5K
 refine Z0z (I:=fun s r => r = x4∧∃ k:Nat,k≤x4.length∧s = ((k:Int),x4.take k)) (fun s => x4.length - s.1.toNat) ?_ ⟨rfl,0,YM _,rfl⟩
 rintro s r ⟨rfl,k,hk,rfl⟩
 unfold Z00.s1
 by_cases hlt:k < r.length
 ·left
  have hl:=hs _ (YF hlt)
  unfold Len at hl;have hcp:clone? 16 r[k] = some r[k]:=by unfold clone?;rw [if_pos (by omega)]
  have hap:app? 24 (r.take k) [r[k]] = some (r.take (k + 1)):=by
   rw [app?_ok (by simp only [YL,Yk,Y06];have:min k r.length + 1≤r.length:=(by omega);have:=YQ 24 this;omega)]
   rw [Y05 hlt]
  refine ⟨((k:Int) + 1,r.take (k + 1)),?_,⟨rfl,k + 1,hlt,by push_cast;rfl⟩,by simp;omega⟩
  rw [ZP (show (k:Int) < r.length by omega),cond_true,at?_nat hlt]
  simp only [Y0,hcp,hap];rw [Z6 (show _ by omega)]
 ·right
  have:k = r.length:=by omega
  subst this;rw [ZQ (show ¬ ((r.length:Int) < r.length) by omega),cond_false,Yz]
theorem core_b0_eq {f:Form} (hl:Lim f) (hs:Shape f) {d:Int} (hd:1≤d) (hdn:d ∣ f.Count) (h0:0 < f.Count) :
  (Good f d∧Z00.b0 f ([],0,0) d = some ((f.Core.take d.toNat,f.Period / (f.Count / d),d),1))∨(¬ Good f d∧Z00.b0 f ([],0,0) d = some (([],0,0),0)):=by
 have hle:d≤f.Count:=Int.le_of_dvd h0 hdn
 have hcl:(f.Core.length:Int) < 4611686018427387904:=Z3F (b:=23) hl.core
 have hcnt:=hs.count
 have hm:0 < f.Count / d:=Y0m h0 (by omega) hdn
 have hmle:f.Count / d≤f.Count:=Y0d _ (by omega)
 have htd:f.Count.tdiv d = f.Count / d:=Int.tdiv_eq_ediv_of_nonneg (by omega)
 have hq:0≤f.Period / (f.Count / d)∧f.Period / (f.Count / d)≤1099511627776:=by
  have h1:=hs.per
  have h2:f.Period / (f.Count / d)≤f.Period:=Y0d _ h1.1
  have h3:0≤f.Period / (f.Count / d):=Int.ediv_nonneg h1.1 (by omega)
  omega
 have hfl:Z18 f.Period (w64 (f.Count.tdiv d)) = some (f.Period / (f.Count / d),f.Period % (f.Count / d),0):=by
  rw [htd,Z6 (show _ by omega),Z3D hl.period (by unfold In64;omega),Z6e hm]
 unfold Z00.b0
 rw [nz?_ok (by omega),hfl]
 simp only [Y0]
 by_cases hr:f.Period % (f.Count / d) = 0
 ·rw [bne_f hr,cond_false];obtain ⟨r,h1,h2⟩:=canon_turn_eq hl hs hd hle hq
  rw [h1];cases r with
  | true =>
   left
   refine ⟨⟨hd,hdn,hr,h2.1 rfl⟩,?_⟩;have hcut:cut? f.Core 0 d = some (f.Core.take d.toNat):=by
    unfold cut?;rw [if_pos ⟨by omega,by omega,by omega⟩]
    rfl
   simp only [Y0,YD,cond_false,hcut];have:=copy_loop (x4:=f.Core.take d.toNat) (by have:=hl.core;simp only [YL];have h:=YQ 24 (Nat.min_le_right d.toNat f.Core.length);omega) (fun l hl' => (hl.sets l (YX hl')).1)
   rw [this]
   rfl
  | false =>
   right
   exact ⟨fun g => (by have:=h2.2 g.turn;cases this),rfl⟩
 ·right
  refine ⟨fun g => hr g.rest,?_⟩
  rw [bne_t hr]
  rfl
theorem least_good {f:Form} (h0:0 < f.Count):∃ d,Good f d∧∀ d',Good f d'→d≤d':=by
 have:∃ n:Nat,Good f n:=⟨f.Count.toNat,by rw [Y0b (by omega)];exact good_self h0⟩
 obtain ⟨n,hn⟩:=this
 induction n using Nat.strongRecOn with
 | _ n ih =>
  by_cases h:∃ m:Nat,m < n∧Good f m
  ·obtain ⟨m,h1,h2⟩:=h
   exact ih m h1 h2
  ·refine ⟨n,hn,fun d' hd' => ?_⟩
   apply Classical.byContradiction;intro hlt;have:=hd'.pos
   exact h ⟨d'.toNat,by omega,by rw [Y0b (by omega)];exact hd'⟩
theorem canon_bare_eq {f:Form} (hl:Lim f):Z45 f = Z3g f:=by
 unfold Z45 Z3g
 rfl
theorem canon_core_eq {f:Form} (hl:Lim f) (hs:Shape f):(Bare f∧Z00 f = some (Form.mk 0 0 [] [])) ∨
  (¬ Bare f∧0 < f.Count∧∃ d,Good f d∧(∀ d',Good f d'→d≤d')∧Z00 f = some (Form.mk (f.Period / (f.Count / d)) d (f.Core.take d.toNat) [])):=by
 have hcl:(f.Core.length:Int) < 4611686018427387904:=Z3F (b:=23) hl.core
 have hcnt:=hs.count
 obtain ⟨b,h1,h2⟩:=Z7o hl
 unfold Z00
 rw [canon_bare_eq hl,h1]
 cases b with
 | true => exact .inl ⟨h2.1 rfl,rfl⟩
 | false =>
  right
  have hnb:¬ Bare f:=fun h => by have:=h2.2 h;cases this
  have h0:0 < f.Count:=by
   rcases Nat.eq_zero_or_pos f.Core.length with h | h
   ·exact absurd (fun l hl' => by rw [List.length_eq_zero_iff.1 h] at hl';cases hl') hnb
   ·omega
  obtain ⟨d,hg,hmin⟩:=least_good h0
  refine ⟨hnb,h0,d,hg,hmin,?_⟩;have hdn:d≤f.Count:=Int.le_of_dvd h0 hg.dvd
  have hd1:=hg.pos
  have hloop:loopO (Z06.s0 f.Count (Z4A (Z00.b0 f))) (1,(([],0,0),0)) = some (.ret ((f.Core.take d.toNat,f.Period / (f.Count / d),d),1)):=by
   refine Z0z (I:=fun s r => r = .ret ((f.Core.take d.toNat,f.Period / (f.Count / d),d),1)∧∃ k:Int,1≤k∧k≤d∧s = (k,(([],0,0),0))) (fun s => (d - s.1).toNat) ?_ ⟨rfl,1,by omega,hd1,rfl⟩
   rintro s r ⟨rfl,k,k1,k2,rfl⟩;unfold Z06.s0;rw [ZP (show k≤f.Count by omega),cond_true,nz?_ok (by omega)]
   simp only [Y0]
   by_cases hkd:k ∣ f.Count
   ·rw [beq_t (show f.Count.tmod k = 0 from Int.tmod_eq_zero_of_dvd hkd),cond_true]
    rcases core_b0_eq hl hs k1 hkd h0 with ⟨g,e⟩ | ⟨g,e⟩
    ·have:k = d:=by have:=hmin k g;omega
     subst this
     right
     simp only [Z4A,if_true,e,YA,Y0]
     rfl
    ·left
     have hne:k ≠ d:=fun h => g (h ▸ hg)
     refine ⟨(k + 1,(([],0,0),0)),?_,⟨trivial,k + 1,by omega,by omega,rfl⟩,by simp;omega⟩
     simp only [Z4A,if_true,e,YA,Y0];rw [Z6 (show _ by omega)]
     rfl
   ·left
    have hne:k ≠ d:=fun h => hkd (h ▸ hg.dvd)
    refine ⟨(k + 1,(([],0,0),0)),?_,⟨trivial,k + 1,by omega,by omega,rfl⟩,by simp;omega⟩
    rw [beq_f (fun h => hkd (Int.dvd_of_tmod_eq_zero h)),cond_false]
    simp only [Y0,cond_false];rw [Z6 (show _ by omega)]
  unfold Z06;rw [hloop]
  rfl
end Go.Dn

namespace Go.Dn
open Go
def Turn (h:Int→List Span) (d q:Int):Prop:=∀ i,h (i + d) = (h i).map (Z0A q)
theorem Turn.neg {h:Int→List Span} {d q:Int} (t:Turn h d q):Turn h (-d) (-q):=fun i => by
 have:=t (i + -d)
 rw [show i + -d + d = i by omega] at this
 rw [this,Z21,Int.add_right_neg,ZA0]
theorem Turn.add {h:Int→List Span} {d q d' q':Int} (t:Turn h d q) (t':Turn h d' q'):Turn h (d + d') (q + q'):=fun i => by
 rw [show i + (d + d') = (i + d) + d' by omega,t',t,Z21]
theorem Turn.zero (h:Int→List Span):Turn h 0 0:=fun i => by rw [Int.add_zero,ZA0]
theorem Turn.nat {h:Int→List Span} {d q:Int} (t:Turn h d q):∀ k:Nat,Turn h (k * d) (k * q)
 | 0 => by simpa using Turn.zero h
 | k + 1 => by
  have:=(Turn.nat t k).add t
  push_cast
  rw [Int.add_mul,Int.one_mul,Int.add_mul,Int.one_mul];exact this
theorem Turn.mul {h:Int→List Span} {d q:Int} (t:Turn h d q) (k:Int):Turn h (k * d) (k * q):=by
 rcases Int.natAbs_eq k with e | e
 ·rw [e];exact t.nat _
 ·rw [e,Int.neg_mul,Int.neg_mul];exact (t.nat _).neg
theorem Turn.agree {h h':Int→List Span} {d q a:Int} (t:Turn h d q) (t':Turn h' d q) (hd:0 < d) (he:∀ i,a≤i→i < a + d→h i = h' i):h = h':=by
 funext i
 have e:i = ((i - a) % d + a) + (i - a) / d * d:=by
  have:=Yv (i - a) d
  rw [Ys] at this;omega
 have h1:=Yn (i - a) (show d ≠ 0 by omega)
 have h2:=Yx (i - a) hd
 rw [e,t.mul,t'.mul,he _ (by omega) (by omega)]
noncomputable def csz (f:Form) (i:Int):List Span:=if f.Count = 0 then [] else cs f i
theorem Z61 {f:Form} (h0:0 < f.Count):csz f = cs f:=by funext i;exact if_neg (by omega)
theorem Z6A {f:Form} {i:Int} (h:¬ Z0B f i):ZJ f i = csz f i:=by
 unfold csz
 by_cases h0:f.Count = 0
 ·rw [if_pos h0,Z1r h h0]
 ·rw [if_neg h0,Z3V h h0];rfl
theorem csz_bare {f:Form} (hs:Shape f) (hb:Bare f) (i:Int):csz f i = []:=by
 unfold csz
 by_cases h0:f.Count = 0
 ·rw [if_pos h0]
 ·rw [if_neg h0];unfold cs;rw [hb _ (Z2g hs h0 i).2];rfl
def Z2w (f c:Form):Prop:=(Bare f∧c = Form.mk 0 0 [] [])∨(¬ Bare f∧0 < f.Count∧∃ d,Good f d∧(∀ d',Good f d'→d≤d')∧c = Form.mk (f.Period / (f.Count / d)) d (f.Core.take d.toNat) [])
theorem canon_core_ok {f:Form} (hl:Lim f) (hs:Shape f):∃ c,Z00 f = some c∧Z2w f c:=by
 rcases canon_core_eq hl hs with ⟨h1,h2⟩ | ⟨h1,h2,d,h3,h4,h5⟩
 ·exact ⟨_,h2,.inl ⟨h1,rfl⟩⟩
 ·exact ⟨_,h5,.inr ⟨h1,h2,d,h3,h4,rfl⟩⟩
theorem Z2w.odd {f c:Form} (h:Z2w f c):c.Odd = []:=by
 rcases h with ⟨_,rfl⟩ | ⟨_,_,d,_,_,rfl⟩ <;> rfl
theorem Z2w.csz {f c:Form} (hs:Shape f) (h:Z2w f c):csz c = csz f:=by
 rcases h with ⟨hb,rfl⟩ | ⟨hb,h0,d,hg,_,rfl⟩
 ·funext i;rw [csz_bare hs hb];rfl
 ·have hd:=hg.pos
  have hdn:d≤f.Count:=Int.le_of_dvd h0 hg.dvd
  have hcnt:=hs.count
  rw [Z61 h0,Z61 (show 0 < (Form.mk (f.Period / (f.Count / d)) d (f.Core.take d.toNat) []).Count by show 0 < d;omega)]
  refine Turn.agree (a:=0) (d:=d) (q:=f.Period / (f.Count / d)) (Z7X (f:=Form.mk (f.Period / (f.Count / d)) d (f.Core.take d.toNat) []) (show d ≠ 0 by omega)) hg.turn (by omega) (fun i i0 i1 => ?_)
  rw [Z3u i0 (show i < d by omega),Z3u i0 (by omega)]
  show (f.Core.take d.toNat).getD i.toNat [] = _
  rw [YJ,YJ,List.getElem?_take_of_lt (by omega)]
theorem Z2w.shape {f c:Form} (hs:Shape f) (h:Z2w f c):Shape c:=by
 rcases h with ⟨hb,rfl⟩ | ⟨hb,h0,d,hg,_,rfl⟩
 ·exact ⟨rfl,by simp,by simp,by simp,by simp,fun j k a b _ h => by simp at h⟩
 ·have hd:=hg.pos
  have hdn:d≤f.Count:=Int.le_of_dvd h0 hg.dvd
  have hcnt:=hs.count
  have hm:0 < f.Count / d:=Y0m h0 (by omega) hg.dvd
  have hp:0 < f.Period:=by
   have:=hs.per;have:=hs.zero
   rcases Int.lt_or_le 0 f.Period with h | h
   ·exact h
   ·have:f.Period = 0:=by omega
    have:=hs.zero.2 this
    omega
  have hq:0 < f.Period / (f.Count / d):=Y0m hp (by omega) (Int.dvd_of_emod_eq_zero hg.rest)
  have hq2:f.Period / (f.Count / d)≤f.Period:=Y0d _ (by omega)
  refine ⟨?_,?_,?_,?_,by simp,fun j k a b _ h => by simp at h⟩
  ·simp only [YL];omega
  ·simp only;omega
  ·simp only;have:=hs.per;omega
  ·intro l hl';exact hs.core l (YX hl')
theorem Z2w.lim {f c:Form} (hl:Lim f) (hs:Shape f) (h:Z2w f c):Lim c:=by
 have hsc:=h.shape hs
 have hn:c.Core.length≤f.Core.length∧∀ l ∈ c.Core,l ∈ f.Core:=by
  rcases h with ⟨hb,rfl⟩ | ⟨hb,h0,d,hg,_,rfl⟩
  ·exact ⟨YM _,fun l hl' => by cases hl'⟩
  ·exact ⟨by simp only [YL];omega,fun l hl' => YX hl'⟩
 have hc:=hl.core
 have h24:=YQ 24 hn.1
 have hp:=hsc.per
 have hcnt:=hsc.count
 have hcl:(f.Core.length:Int) < 4611686018427387904:=Z3F (b:=23) hl.core
 exact ⟨by omega,fun l hl' => hl.sets l (hn.2 l hl'),by rw [h.odd];simp [Z1J],by rw [h.odd];simp,by unfold In64;omega,by unfold In64;omega⟩
theorem Z2w.ZJ {f c:Form} (hs:Shape f) (h:Z2w f c) (i:Int):ZJ c i = Go.Dn.csz f i:=by
 rw [Z6A (by rintro ⟨g,hg,_⟩;rw [h.odd] at hg;cases hg),h.csz hs]
theorem ZDE {f c:Form} (hl:Lim f) (hs:Shape f) (h:Z2w f c) {g:Granule} (hg:g ∈ f.Odd):∃ r,Z3W c g = some r∧(r = true ↔ csz f g.Index = g.Ticks):=by
 obtain ⟨hr,ht⟩:=hs.odd g hg
 have hlc:=h.lim hl hs
 have hsc:=h.shape hs
 unfold Z3W
 rw [Z5d hlc hsc (Z2x ht)]
 by_cases hf:fits c g.Index
 ·rw [if_pos ⟨ht,hf⟩];obtain ⟨r,h1,h2⟩:=spans_Same_eq (a:=Go.Dn.ZJ c g.Index) (b:=g.Ticks) (Z9M hlc hsc _)
  refine ⟨r,?_,?_⟩
  ·simp only [Y0];rw [beq_t rfl,cond_true,h1];rfl
  ·rw [h2,h.ZJ hs]
 ·rw [if_neg (fun h' => hf h'.2)]
  refine ⟨false,rfl,⟨(fun h' => nomatch h'),fun e => absurd (fun s hs' => ?_) hf⟩⟩
  rw [h.ZJ hs,e] at hs';obtain ⟨k,hk⟩:=YC hs'
  have:=Z8L.1 hr k s hk
  exact ⟨this.1,this.2.1⟩
open Classical in
noncomputable def oddly (f:Form) (g:Granule):Bool:=decide (¬ csz f g.Index = g.Ticks)
noncomputable def Z76 (f c:Form):Form:=Form.mk c.Period c.Count c.Core (f.Odd.filter (oddly f))
theorem canon_Form_eq {f:Form} (hl:Lim f) (hs:Shape f):∃ c,Z2w f c∧Zy f = some (Z76 f c):=by
 obtain ⟨c,h1,hc⟩:=canon_core_ok hl hs
 refine ⟨c,hc,?_⟩
 unfold Zy
 rw [h1]
 simp only [Y0]
 have hol:(f.Odd.length:Int) < 4611686018427387904:=Z3F (b:=31) hl.odd
 have hr:=Z1J
 have hro:=Z5K
 have:loopO (Zy.s0 f c) (0,[]) = some (f.Odd.filter (oddly f)):=by
  refine Z0z (I:=fun s r => r = f.Odd.filter (oddly f)∧∃ k:Nat,k≤f.Odd.length∧s = ((k:Int),(f.Odd.take k).filter (oddly f))) (fun s => f.Odd.length - s.1.toNat) ?_ ⟨rfl,0,YM _,rfl⟩
  rintro s r ⟨rfl,k,hk,rfl⟩;unfold Zy.s0
  by_cases hlt:k < f.Odd.length
  ·left
   have hmem:=YF hlt
   obtain ⟨r,p1,p2⟩:=ZDE hl hs hc hmem
   have htk:f.Odd.take (k + 1) = f.Odd.take k ++ [f.Odd[k]]:=(Y05 hlt).symm
   have hlen:=(hl.ticks _ hmem).2.1
   unfold Len at hlen;refine ⟨((k:Int) + 1,(f.Odd.take (k + 1)).filter (oddly f)),?_,⟨rfl,k + 1,hlt,by push_cast;rfl⟩,by simp;omega⟩
   rw [ZP (show (k:Int) < f.Odd.length by omega),cond_true,at?_nat hlt]
   simp only [Y0,p1];rw [Z6 (show _ by omega),htk,List.filter_append]
   cases r with
   | true =>
    have:oddly f f.Odd[k] = false:=by unfold oddly;rw [decide_eq_false_iff_not];exact fun h => h (p2.1 rfl)
    simp only [YD,cond_false,Y0,List.filter_cons,this,Y6,if_false,List.filter_nil,YH]
   | false =>
    have:oddly f f.Odd[k] = true:=by unfold oddly;rw [decide_eq_true_iff];exact fun h => by have:=p2.2 h;cases this
    have hcp:clone? 16 f.Odd[k].Ticks = some f.Odd[k].Ticks:=by unfold clone?;rw [if_pos (by omega)]
    have hfl:((f.Odd.take k).filter (oddly f)).length≤k:=by
     have:=Y0W (oddly f) (f.Odd.take k)
     simp only [YL] at this;omega
    have hap:app? 32 ((f.Odd.take k).filter (oddly f)) [Granule.mk f.Odd[k].Index f.Odd[k].Ticks] = some ((f.Odd.take k).filter (oddly f) ++ [f.Odd[k]]):=by
     rw [app?_ok (by simp only [Yk,Y06];have h3:=hl.odd;have:=YQ 32 (show ((f.Odd.take k).filter (oddly f)).length + 1≤f.Odd.length by omega);omega)]
    simp only [Yp,cond_true,Y0,hcp,hap,List.filter_cons,this,if_true,List.filter_nil]
  ·right
   have:k = f.Odd.length:=by omega
   subst this;rw [ZQ (show ¬ ((f.Odd.length:Int) < f.Odd.length) by omega),cond_false,Yz]
 rw [this]
 rfl
end Go.Dn

namespace Go.Dn
open Go
end Go.Dn

namespace Go.Dn
open Go
theorem ZBK {l:List Granule}:Inc l ↔ l.Pairwise (fun a b => a.Index < b.Index):=by
 rw [Yr]
 constructor
 ·intro h i j hi hj hij;exact h i j _ _ hij (Y2 hi) (Y2 hj)
 ·intro h j k a b hjk ha hb;obtain ⟨h1,rfl⟩:=List.getElem?_eq_some_iff.1 ha
  obtain ⟨h2,rfl⟩:=List.getElem?_eq_some_iff.1 hb
  exact h j k h1 h2 hjk
theorem Inc.filter {l:List Granule} (h:Inc l) (p:Granule→Bool):Inc (l.filter p):=ZBK.2 ((ZBK.1 h).filter p)
theorem Z8I {f c:Form} (hs:Shape f) (h:Z2w f c):csz (Z76 f c) = csz f:=by
 rw [← h.csz hs];rfl
theorem oddly_iff {f:Form} {g:Granule}:oddly f g = true ↔ ¬ csz f g.Index = g.Ticks:=by unfold oddly;rw [decide_eq_true_iff]
theorem Z4t {f c:Form} {g:Granule}:g ∈ (Z76 f c).Odd ↔ g ∈ f.Odd∧oddly f g = true:=List.mem_filter
theorem ZAi {f c:Form} (hs:Shape f) (h:Z2w f c):ZJ (Z76 f c) = ZJ f:=by
 funext i
 by_cases ho:Z0B f i
 ·obtain ⟨g,hg,rfl⟩:=ho
  rw [Z1Y hs.inc hg]
  by_cases hod:oddly f g = true
  ·exact Z1Y (hs.inc.filter _) (Z4t.2 ⟨hg,hod⟩)
  ·have he:csz f g.Index = g.Ticks:=Classical.byContradiction fun hn => hod (oddly_iff.2 hn)
   rw [Z6A (f:=Z76 f c),Z8I hs h,he]
   rintro ⟨g',hg',e⟩;obtain ⟨m1,m2⟩:=Z4t.1 hg'
   have:=hs.inc.uniq m1 hg e
   subst this;exact hod m2
 ·rw [Z6A ho,Z6A (f:=Z76 f c),Z8I hs h]
  rintro ⟨g',hg',e⟩;exact ho ⟨g',(Z4t.1 hg').1,e⟩
theorem Z85 {f c:Form} (hs:Shape f) (h:Z2w f c):Shape (Z76 f c):=by
 have:=h.shape hs
 exact ⟨this.count,this.zero,this.per,this.core,fun g hg => hs.odd g (Z4t.1 hg).1,hs.inc.filter _⟩
theorem canonF_lim {f c:Form} (hl:Lim f) (hs:Shape f) (h:Z2w f c):Lim (Z76 f c):=by
 have:=h.lim hl hs
 refine ⟨this.core,this.sets,?_,fun g hg => hl.ticks g (Z4t.1 hg).1,this.count,this.period⟩
 have h1:(Z76 f c).Odd.length≤f.Odd.length:=Y0W _ _
 have:=hl.odd
 have:=YQ 32 h1
 omega
theorem turns_of {f:Form} (hs:Shape f) (h:0 < f.Count→∀ i k,i < k→cs f i ≠ []→cs f k ≠ []→lstT (cs f i) < fstT (cs f k)):Turns f:=by
 have hcnt:=hs.count
 have at_:∀ (j:Nat) (a:List Span),f.Core[j]? = some a→cs f j = a:=fun j a ha => by
  have:=(List.getElem?_eq_some_iff.1 ha).1
  rw [Z3u (by omega) (by omega),YJ,YU,ha];rfl
 have hpw:f.Core.Pairwise (fun a b => a ≠ []→b ≠ []→lstT a < fstT b):=by
  rw [Yr];intro i j hi hj hij na nb;have h1:=at_ i _ (Y2 hi)
  have h2:=at_ j _ (Y2 hj)
  have:=h (by omega) i j (by omega) (by rw [h1];exact na) (by rw [h2];exact nb)
  rw [h1,h2] at this;exact this
 constructor
 ·intro k a b ha hb;have hp:=hpw.filter (fun l => decide (l.length > 0))
  rw [Yr] at hp;obtain ⟨h1,rfl⟩:=List.getElem?_eq_some_iff.1 ha
  obtain ⟨h2,rfl⟩:=List.getElem?_eq_some_iff.1 hb
  exact hp k (k + 1) h1 h2 (by omega) (Z3r.1 (YF h1)).2 (Z3r.1 (YF h2)).2
 ·intro a b ha hb;obtain ⟨ma,na⟩:=Z3r.1 (List.mem_of_getLast? ha)
  obtain ⟨mb,nb⟩:=Z3r.1 (List.mem_of_head? hb)
  obtain ⟨j,hj⟩:=YC ma
  obtain ⟨k,hk⟩:=YC mb
  have hjl:=(List.getElem?_eq_some_iff.1 hj).1
  have h1:=at_ j _ hj
  have h2:=at_ k _ hk
  have h3:cs f ((k:Int) + f.Count) = b.map (Z0A f.Period):=by rw [Z7X (by omega),h2]
  have:=h (by omega) j ((k:Int) + f.Count) (by omega) (by rw [h1];exact na) (by rw [h3];simpa using nb)
  rw [h1,h3,(Z0d _ nb).2] at this;exact this
theorem csz_order {f:Form} (hs:Shape f) (ht:Turns f) {i k:Int} (hik:i < k) (ni:csz f i ≠ []) (nk:csz f k ≠ []):lstT (csz f i) < fstT (csz f k):=by
 have h0:f.Count ≠ 0:=fun h => ni (by unfold csz;rw [if_pos h])
 unfold csz at ni nk ⊢
 rw [if_neg h0] at ni nk ⊢
 rw [if_neg h0]
 have n1:Z2M f i ≠ []:=fun h => ni (by unfold cs;rw [h];rfl)
 have n2:Z2M f k ≠ []:=fun h => nk (by unfold cs;rw [h];rfl)
 have:=ZDX hs ht h0 hik n1 n2
 unfold cs
 rw [(Z0d _ n1).1,(Z0d _ n2).2]
 exact this
theorem beside_congr {f g:Form} (h:ZJ g = ZJ f) {i:Int} (hb:Beside f i):Beside g i:=by
 intro lo hi hlo hhi
 have hu:Under f i lo:=by unfold Under at hlo ⊢;rw [h] at hlo;exact hlo
 have ha:Above f i hi:=by unfold Above at hhi ⊢;rw [h] at hhi;exact hhi
 have:=hb lo hi hu ha
 unfold BesideR fits at this ⊢
 rw [h]
 exact this
theorem canonF_right {f c:Form} (hr:RightF f) (h:Z2w f c):RightF (Z76 f c):=by
 have hs:=hr.shape
 refine ⟨Z85 hs h,turns_of (Z85 hs h) (fun h0 i k hik ni nk => ?_),fun g hg => beside_congr (ZAi hs h) (hr.beside g (Z4t.1 hg).1)⟩
 rw [← Z61 h0,Z8I hs h] at ni nk ⊢
 exact csz_order hs hr.turns hik ni nk
end Go.Dn

namespace Go.Dn
open Go
theorem ZCI {α:Type} (g:α→Nat):∀ (n:Nat) (l:List α),((l.take n).map g).sum≤(l.map g).sum
 | 0,l => by simp
 | n + 1,[] => by simp
 | n + 1,x :: l => by
  have:=ZCI g n l
  simp only [List.take_succ_cons,Y0A,List.sum_cons];omega
theorem coreOf_le {f c:Form} (hs:Shape f) (h:Z2w f c):c.Count≤f.Count∧c.Period≤f.Period∧c.Core.length≤f.Core.length∧(c.Core.map List.length).sum≤(f.Core.map List.length).sum:=by
 have hp:=hs.per
 have hcnt:=hs.count
 rcases h with ⟨hb,rfl⟩ | ⟨hb,h0,d,hg,hmin,rfl⟩
 ·exact ⟨by simp only;omega,by simp only;omega,YM _,YM _⟩
 ·exact ⟨Int.le_of_dvd h0 hg.dvd,Y0d _ hp.1,by simp only [YL];omega,ZCI _ _ _⟩
end Go.Dn

namespace Go.Dn
open Go
theorem shift_ne {l:List Span} (hn:l ≠ []) {a b:Int} (h:l.map (Z0A a) = l.map (Z0A b)):a = b:=by
 cases l with
 | nil => exact absurd rfl hn
 | cons s l =>
  simp only [Y0A,List.cons.injEq,Z0A,Span.mk.injEq] at h;omega
theorem Turn.uniq {h:Int→List Span} {d q q':Int} (t:Turn h d q) (t':Turn h d q') {i:Int} (hn:h i ≠ []):q = q':=shift_ne hn ((t i).symm.trans (t' i))
theorem ZDt {f:Form} (h0:0 < f.Count):Turn (cs f) f.Count f.Period:=Z7X (by omega)
theorem cs_some {f:Form} (hs:Shape f) (hb:¬ Bare f) (h0:0 < f.Count) (a:Int):∃ i,a≤i∧i < a + f.Count∧cs f i ≠ []:=by
 apply Classical.byContradiction
 intro hn
 apply hb
 have hz:cs f = fun _ => []:=Turn.agree (a:=a) (ZDt h0) (fun i => rfl) h0 (fun i i0 i1 => Classical.byContradiction fun h => hn ⟨i,i0,i1,h⟩)
 intro l hl
 obtain ⟨k,hk⟩:=YC hl
 have hkl:=(List.getElem?_eq_some_iff.1 hk).1
 have hcnt:=hs.count
 have:=congrFun hz (k:Int)
 rw [Z3u (by omega) (by omega),YJ,YU,hk] at this
 exact this
def NearF (f:Form) (m:Int):Prop:=∀ g ∈ f.Odd,-m≤g.Index∧g.Index≤m
end Go.Dn

namespace Go.Dn
open Go
end Go.Dn

namespace Go.Dn
open Go
theorem pigeon:∀ (l:List Int) (c:Nat→Int),(∀ a b,c a = c b→a = b)→∃ k,k≤l.length∧c k ∉ l
 | [],c,_ => ⟨0,YB _,by simp⟩
 | x :: l,c,hc => by
  by_cases h:∃ k0,c k0 = x
  ·obtain ⟨k0,rfl⟩:=h
   obtain ⟨k,h1,h2⟩:=pigeon l (fun k => if k < k0 then c k else c (k + 1)) (fun a b hab => by
    split at hab <;> split at hab <;> have:=hc _ _ hab <;> omega)
   split at h2
   ·rename_i hk;refine ⟨k,by simp;omega,?_⟩
    rw [List.mem_cons];rintro (h | h)
    ·have:=hc _ _ h;omega
    ·exact h2 h
   ·rename_i hk;refine ⟨k + 1,by simp;omega,?_⟩
    rw [List.mem_cons];rintro (h | h)
    ·have:=hc _ _ h;omega
    ·exact h2 h
  ·obtain ⟨k,h1,h2⟩:=pigeon l c hc
   refine ⟨k,by simp;omega,?_⟩
   rw [List.mem_cons];rintro (h' | h')
   ·exact h ⟨k,h'⟩
   ·exact h2 h'
theorem free_core {f:Form} (hs:Shape f) (hb:¬ Bare f) (h0:0 < f.Count) (ho:f.Odd.length≤8) (a:Int):∃ j,a≤j∧j < a + f.Count * 9∧¬ Z0B f j∧ZJ f j ≠ []:=by
 obtain ⟨i,h1,h2,h3⟩:=cs_some hs hb h0 a
 obtain ⟨k,hk,hn⟩:=pigeon (f.Odd.map (·.Index)) (fun k => i + f.Count * k) (fun a b hab => by
  have h4:f.Count * (a:Int) = f.Count * b:=by omega
  have:=Int.eq_of_mul_eq_mul_left (by omega) h4
  omega)
 rw [YS] at hk
 have hk9:(k:Int) + 1≤9:=by omega
 have hkc:f.Count * ((k:Int) + 1)≤f.Count * 9:=Yj hk9 (by omega)
 rw [Int.mul_add,Int.mul_one] at hkc
 have hkn:0≤f.Count * (k:Int):=Int.mul_nonneg (by omega) (by omega)
 have hno:¬ Z0B f (i + f.Count * k):=by
  rintro ⟨g,hg,he⟩;exact hn (List.mem_map.2 ⟨g,hg,he⟩)
 refine ⟨i + f.Count * k,by omega,by omega,hno,?_⟩
 rw [Z6A hno,Z61 h0,Z88 (by omega)]
 intro h
 rw [List.map_eq_nil_iff] at h
 exact h3 h
end Go.Dn

namespace Go.Dn
open Go
def Mid (x:Int):Prop:=-1000000000000000000≤x∧x≤1000000000000000000
end Go.Dn

namespace Go.Dn
open Go
end Go.Dn

namespace Go.Dn
open Go
theorem ZBf {n:Int} (h0:0≤n) (hn:n≤4611686018427387904) {f:Int→Option Bool} {p:Int→Bool} (hf:∀ z,0≤z→z < n→f z = some (p z)) (hm:∀ a b,0≤a→a≤b→b < n→p a = true→p b = true) :
  ∃ r,Z0f n f = some r∧0≤r∧r≤n∧(∀ z,0≤z→z < r→p z = false)∧(∀ z,r≤z→z < n→p z = true):=by
 unfold Z0f
 obtain ⟨r,h1,h2⟩:=Z0Q (step:=Z0f.s0 f)
  (fun s => 0≤s.1∧s.1≤s.2∧s.2≤n∧(∀ z,0≤z→z < s.1→p z = false)∧(∀ z,s.2≤z→z < n→p z = true))
  (fun s => (s.2 - s.1).toNat) (fun r => 0≤r∧r≤n∧(∀ z,0≤z→z < r→p z = false)∧(∀ z,r≤z→z < n→p z = true)) (by
   rintro ⟨i,j⟩ ⟨a1,a2,a3,a4,a5⟩;simp only at a1 a2 a3 a4 a5;unfold Z0f.s0;simp only
   by_cases hlt:i < j
   ·left
    rw [ZP hlt,cond_true];have e:w64 ((IntKind.u64.wrap (w64 (i + j))).fdiv (2 ^ 1)) = (i + j) / 2:=by
     rw [Z6 (x:=i + j) (by omega),Z4g,Y0E _ (by decide)]
     have:(2 ^ 1:Int) = 2:=rfl
     rw [this,Z6 (by omega)]
     omega
    rw [e,hf _ (by omega) (by omega)]
    simp only [Y0];cases hp:p ((i + j) / 2) with
    | false =>
     simp only [Yp,cond_true,Y0];rw [Z6 (by omega)]
     refine ⟨_,rfl,⟨by simp only;omega,by simp only;omega,a3,?_,a5⟩,by simp only;omega⟩
     intro z z0 z1;cases hz:p z with
     | false => rfl
     | true =>
      have:=hm z ((i + j) / 2) z0 (by simp only at z1;omega) (by omega) hz
      rw [hp] at this;cases this
    | true =>
     simp only [YD,cond_false,Y0];refine ⟨_,rfl,⟨a1,by simp only;omega,by simp only;omega,a4,?_⟩,by simp only;omega⟩
     intro z z0 z1;exact hm ((i + j) / 2) z (by omega) z0 z1 hp
   ·right
    rw [ZQ hlt,cond_false];exact ⟨_,rfl,a1,by omega,a4,fun z z0 z1 => a5 z (by omega) z1⟩) (0,n) ⟨by simp,h0,by simp,fun z z0 z1 => by simp only at z1;omega,fun z z0 z1 => by simp only at z0;omega⟩
 rw [h1]
 exact ⟨r,rfl,h2⟩
theorem Z9U {l:List Span} (hl:Len l):Z1I l = some (if l = [] then (⟨0,0⟩,false) else (⟨fstT l,lstT l⟩,true)):=by
 have hlen:=Z3F (b:=15) hl
 unfold Z1I
 by_cases h:l = []
 ·subst h;rfl
 ·have hp:0 < l.length:=List.length_pos_iff.2 h
  rw [if_neg h,beq_f (by omega),cond_false,Z6 (by omega)]
  have e1:at? l 0 = some (l.head h):=by
   have:=at?_nat (l:=l) (k:=0) hp
   rw [show ((0:Nat):Int) = 0 from rfl] at this
   rw [this,List.head_eq_getElem]
  have e2:at? l ((l.length:Int) - 1) = some (l.getLast h):=by
   have:=at?_nat (l:=l) (k:=l.length - 1) (by omega)
   rw [show ((l.length - 1:Nat):Int) = (l.length:Int) - 1 by omega] at this
   rw [this,List.getLast_eq_getElem]
  rw [e1,e2];simp only [Y0];unfold fstT lstT;rw [Y08 h,Y02 h]
  rfl
def Z96 (g:Form) (j:Nat):Option size_spot:=if g.Core.getD j [] = [] then none else some ⟨(j:Int),⟨fstT (g.Core.getD j []),lstT (g.Core.getD j [])⟩⟩
def Z8M (g:Form) (k:Nat):List size_spot:=(List.range k).filterMap (Z96 g)
theorem spotsUp_succ (g:Form) (k:Nat):Z8M g (k + 1) = Z8M g k ++ (Z96 g k).toList:=by
 unfold Z8M
 rw [List.range_succ,List.filterMap_append]
 cases h:Z96 g k <;> simp [h]
theorem Z8b (g:Form) (k:Nat):(Z8M g k).length≤k:=by
 have:=List.length_filterMap_le (Z96 g) (List.range k)
 rw [List.length_range] at this
 exact this
abbrev Z2F (g:Form):List size_spot:=Z8M g g.Core.length
theorem made_eq {f g:Form} (hg:Zy f = some g) (hl:Lim g) (hc:g.Core.length≤12):Z25 f = some ⟨g,Z2F g⟩:=by
 have hr:=Z5K
 unfold Z25
 rw [hg]
 simp only [Y0]
 have:loopO (Z25.s0 g) (0,[]) = some (Z2F g):=by
  refine Z0z (I:=fun s r => r = Z2F g∧∃ k:Nat,k≤g.Core.length∧s = ((k:Int),Z8M g k)) (fun s => g.Core.length - s.1.toNat) ?_ ⟨rfl,0,YM _,rfl⟩
  rintro s r ⟨rfl,k,hk,rfl⟩;unfold Z25.s0
  by_cases hlt:k < g.Core.length
  ·left
   have hm:=YF hlt
   have hgd:g.Core.getD k [] = g.Core[k]:=by rw [YJ,Y2 hlt];rfl
   have hul:=Z8b g k
   simp only;rw [ZP (show (k:Int) < g.Core.length by omega),cond_true,at?_nat hlt]
   simp only [Y0];rw [Z9U (hl.sets _ hm).1];simp only [Y0];have hsp:=spotsUp_succ g k
   unfold Z96 at hsp;rw [hgd] at hsp
   by_cases hne:g.Core[k] = []
   ·rw [if_pos hne];rw [if_pos hne] at hsp;simp only [cond_false,Y0];rw [Z6 (by omega)]
    exact ⟨_,rfl,⟨trivial,k + 1,hlt,by rw [hsp];push_cast;simp⟩,by simp only;omega⟩
   ·rw [if_neg hne];rw [if_neg hne] at hsp;simp only [cond_true];rw [app?_ok (by simp only [Yk,Y06];omega)]
    simp only [Y0];rw [Z6 (by omega)]
    exact ⟨_,rfl,⟨trivial,k + 1,hlt,by rw [hsp];push_cast;simp⟩,by simp only;omega⟩
  ·right
   have:k = g.Core.length:=by omega
   subst this;rw [ZQ (by simp only;omega),cond_false]
 rw [this]
 rfl
structure Spots (g:Form) (l:List size_spot):Prop where
 mem:∀ s ∈ l,0≤s.index∧s.index < g.Count∧cs g s.index ≠ []∧s.place.first = fstT (cs g s.index)∧s.place.last = lstT (cs g s.index)
 all:∀ j,0≤j→j < g.Count→cs g j ≠ []→∃ s ∈ l,s.index = j
 inc:l.Pairwise (fun a b => a.index < b.index)
theorem spots_ok {g:Form} (hs:Shape g):Spots g (Z2F g):=by
 have hcnt:=hs.count
 have hcs:∀ j:Nat,j < g.Core.length→cs g j = g.Core.getD j []:=fun j hj => by
  rw [Z3u (by omega) (by omega)];rfl
 refine ⟨?_,?_,?_⟩
 ·intro s hs';obtain ⟨j,hj,hjs⟩:=List.mem_filterMap.1 hs'
  have hj:=List.mem_range.1 hj
  unfold Z96 at hjs
  split at hjs
  ·cases hjs
  ·rename_i hne;cases hjs;refine ⟨by simp only;omega,by simp only;omega,?_,?_,?_⟩ <;> simp only <;> rw [hcs j hj]
   exact hne
 ·intro j h0 h1 hne;have hj:j.toNat < g.Core.length:=by omega
  have e:((j.toNat:Nat):Int) = j:=by omega
  have:=hcs j.toNat hj
  rw [e] at this;rw [this] at hne;refine ⟨⟨(j.toNat:Int),⟨fstT (g.Core.getD j.toNat []),lstT (g.Core.getD j.toNat [])⟩⟩,List.mem_filterMap.2 ⟨j.toNat,List.mem_range.2 hj,?_⟩,e⟩;unfold Z96;rw [if_neg hne]
 ·unfold Z2F Z8M;rw [List.pairwise_filterMap];refine List.Pairwise.imp ?_ List.pairwise_lt_range;intro a b hab x hx y hy;unfold Z96 at hx hy
  split at hx <;> split at hy <;> simp_all
  subst hx hy;simp only;omega
theorem Z6b {g:Form} (hs:Shape g) (ht:Turns g) (h0:0 < g.Count) {i k:Int} (hik:i < k) (ni:cs g i ≠ []) (nk:cs g k ≠ []):lstT (cs g i) < fstT (cs g k):=by
 have:=csz_order hs ht hik (by rw [Z61 h0];exact ni) (by rw [Z61 h0];exact nk)
 rwa [Z61 h0] at this
theorem Z32 {g:Form} (hs:Shape g) (h0:0 < g.Count) {j:Int} (j0:0≤j) (j1:j < g.Count):RightL (cs g j):=by
 rw [Z3u j0 j1]
 have:=hs.count
 have hj:j.toNat < g.Core.length:=by omega
 rw [YJ,Y2 hj]
 exact hs.core _ (YF hj)
theorem Z5w {g:Form} (h0:0 < g.Count) (i q:Int):cs g (i + g.Count * q) = (cs g i).map (Z0A (q * g.Period)):=Z88 (by omega) i q
def LastC (g:Form) (t i:Int):Prop:=cs g i ≠ []∧fstT (cs g i)≤t∧∀ k,i < k→cs g k ≠ []→t < fstT (cs g k)
def FirstC (g:Form) (t i:Int):Prop:=cs g i ≠ []∧t≤lstT (cs g i)∧∀ k,k < i→cs g k ≠ []→lstT (cs g k) < t
theorem at?_get {α:Type} {l:List α} {i:Int} (h0:0≤i) (h1:i < l.length):∃ x,at? l i = some x∧l[i.toNat]? = some x∧x ∈ l:=by
 have h:i.toNat < l.length:=by omega
 exact ⟨l[i.toNat],at?_lt h0 h1,Y2 h,YF h⟩
theorem Z6C {g:Form} {l:List size_spot} (h:Spots g l) {a b:Nat} {x y:size_spot} (ha:l[a]? = some x) (hb:l[b]? = some y) (hab:a < b):x.index < y.index:=by
 have h1:=(List.getElem?_eq_some_iff.1 ha)
 have h2:=(List.getElem?_eq_some_iff.1 hb)
 obtain ⟨l1,e1⟩:=h1
 obtain ⟨l2,e2⟩:=h2
 have:=List.pairwise_iff_getElem.1 h.inc a b l1 l2 hab
 rw [e1,e2] at this
 exact this
structure Fit (g:Form):Prop where
 lim:Lim g
 shape:Shape g
 turns:Turns g
 few:g.Core.length≤12
 odds:g.Odd.length≤8
theorem Fit.per {g:Form} (h:Fit g) (h0:0 < g.Count):0 < g.Period:=by
 have h1:=h.shape.per
 have h2:=h.shape.zero
 omega
def BigT (t:Int):Prop:=-4398046511104≤t∧t≤4398046511104
theorem Z52 {g:Form} (h0:0 < g.Count) (k:Int):∃ j q,0≤j∧j < g.Count∧k = j + g.Count * q∧cs g k = (cs g j).map (Z0A (q * g.Period)):=by
 have e:k = k % g.Count + g.Count * (k / g.Count):=(Yv k g.Count).symm
 refine ⟨k % g.Count,k / g.Count,Yn k (by omega),Yx k h0,e,?_⟩
 conv => lhs;rw [e]
 exact Z5w h0 _ _
theorem ZE5 {n p:Int} (hp:0 < p) (hn : -8796093022208≤n∧n≤8796093022208) : -8796093022208≤n / p∧n / p≤8796093022208:=by
 constructor
 ·have : -8796093022208≤n / p ↔ -8796093022208 * p≤n:=Int.le_ediv_iff_mul_le hp
  rw [this];have : -8796093022208 * p≤-8796093022208 * 1:=by omega
  omega
 ·by_cases h:0≤n
  ·have:=Y0d p h;omega
  ·have:=Int.ediv_neg_of_neg_of_pos (show n < 0 by omega) hp;omega
theorem ZDA {q c:Int} (hq : -8796093022208≤q∧q≤8796093022208) (hc:0≤c∧c≤12) : -105553116266496≤q * c∧q * c≤105553116266496:=by
 constructor
 ·have:=Y00 hq.1 hc.1
  omega
 ·have:=Y00 hq.2 hc.1
  omega
theorem ZBE {g:Form} (h:Fit g) (h0:0 < g.Count) {sp:List size_spot} (hsp:Spots g sp) (hn:sp ≠ []) (hln:sp.length≤12) {t:Int} (ht:BigT t) :
  ∃ i,Z0S ⟨g,sp⟩ t false = some i∧LastC g t i∧-211106232532992≤i∧i≤211106232532992:=by
 unfold BigT at ht
 have hs:=h.shape
 have hper:=h.per h0
 have hper2:=hs.per
 have hcnt:=hs.count
 have hfew:=h.few
 have hlen:0 < sp.length:=List.length_pos_iff.2 hn
 obtain ⟨x5,a1,a2,a3⟩:=at?_get (l:=sp) (i:=0) (by omega) (by omega)
 obtain ⟨b1,b2,b3,b4,b5⟩:=hsp.mem x5 a3
 have r5:=Z5e (Z32 hs h0 b1 b2) b3
 rw [← b4,← b5] at r5
 unfold ZD at r5
 unfold Z0S
 rw [cond_false]
 simp only
 rw [a1]
 simp only [Y0]
 rw [Z6 (x:=t - x5.place.first) (by omega),Z3D (by unfold In64;omega) (by unfold In64;omega),Z6e hper]
 simp only [Y0]
 have qb:=ZE5 hper (n:=t - x5.place.first) (by omega)
 have qm:=Yv (t - x5.place.first) g.Period
 have q0:=Yn (t - x5.place.first) (show g.Period ≠ 0 by omega)
 have q1:=Yx (t - x5.place.first) hper
 generalize (t - x5.place.first) / g.Period = q at *
 have qp : -10995116277760≤q * g.Period∧q * g.Period≤10995116277760:=by rw [Ys];omega
 obtain ⟨r,s1,s2,s3,s4,s5⟩:=ZBf (n:=(sp.length:Int)) (by omega) (by omega)
  (f:=fun z0 => Z26 z0 ⟨g,sp⟩ q t) (p:=fun z => match sp[z.toNat]? with | some s => decide (s.place.first + q * g.Period > t) | none => true) (by
   intro z z0 z1;obtain ⟨x,e1,e2,e3⟩:=at?_get (l:=sp) z0 z1
   obtain ⟨c1,c2,c3,c4,c5⟩:=hsp.mem x e3
   have rx:=Z5e (Z32 hs h0 c1 c2) c3
   rw [← c4,← c5] at rx;unfold ZD at rx;unfold Z26;simp only;rw [e1,e2];simp only [Y0];rw [Z6 (x:=q * g.Period) (by omega),Z6 (by omega)]) (by
   intro a b a0 hab hb hp;obtain ⟨x,e1,e2,e3⟩:=at?_get (l:=sp) a0 (by omega)
   obtain ⟨y,f1,f2,f3⟩:=at?_get (l:=sp) (show 0≤b by omega) hb
   simp only [e2,f2,decide_eq_true_eq] at hp ⊢
   by_cases hne:a = b
   ·subst hne;rw [e2] at f2;cases f2;exact hp
   ·have hlt:=Z6C hsp e2 f2 (by omega)
    obtain ⟨c1,c2,c3,c4,c5⟩:=hsp.mem x e3
    obtain ⟨d1,d2,d3,d4,d5⟩:=hsp.mem y f3
    have o1:=Z6b hs h.turns h0 hlt c3 d3
    have o2:=Z1m (Z32 hs h0 c1 c2) c3
    omega)
 rw [s1]
 simp only [Y0]
 have r1:1≤r:=by
  by_cases hr:1≤r
  ·exact hr
  ·have:r = 0:=by omega
   subst this;have:=s5 0 (by omega) (by omega)
   rw [show (0:Int).toNat = 0 from rfl] at this
   rw [show (0:Int).toNat = 0 from rfl] at a2
   simp only [a2,decide_eq_true_eq] at this;rw [Ys] at this;omega
 rw [Z6 (x:=r - 1) (by omega)]
 obtain ⟨x8,e1,e2,e3⟩:=at?_get (l:=sp) (i:=r - 1) (by omega) (by omega)
 rw [e1]
 simp only [Y0]
 obtain ⟨c1,c2,c3,c4,c5⟩:=hsp.mem x8 e3
 have hqc:=ZDA qb (c:=g.Count) (by omega)
 rw [Z6 (x:=q * g.Count) (by omega),Z6 (by omega)]
 refine ⟨_,rfl,⟨?_,?_,?_⟩,by omega,by omega⟩
 ·rw [Ys q,Z5w h0];simpa using c3
 ·rw [Ys q,Z5w h0,(Z0d _ c3).2,← c4];have:=s4 (r - 1) (by omega) (by omega)
  simp only [e2,decide_eq_false_iff_not] at this;omega
 ·intro k hk hkn;obtain ⟨j,q',j0,j1,rfl,ek⟩:=Z52 h0 k
  rw [ek] at hkn ⊢;have hjn:cs g j ≠ []:=fun h => hkn (by rw [h];rfl)
  rw [(Z0d _ hjn).2];obtain ⟨y,y1,rfl⟩:=hsp.all j j0 j1 hjn
  obtain ⟨d1,d2,d3,d4,d5⟩:=hsp.mem y y1
  obtain ⟨z,hz⟩:=YC y1
  have hz2:=(List.getElem?_eq_some_iff.1 hz).1
  have fy:x5.place.first≤y.place.first:=by
   by_cases hz0:z = 0
   ·subst hz0;rw [show (0:Int).toNat = 0 from rfl] at a2
    rw [a2] at hz;cases hz;exact Yb _
   ·have hlt:=Z6C hsp a2 hz (by omega)
    have o1:=Z6b hs h.turns h0 hlt b3 d3
    have o2:=Z1m (Z32 hs h0 b1 b2) b3
    omega
  rw [← d4]
  by_cases hqq:q'≤q
  ·have hqe:q' = q:=by
    by_cases h':q' = q
    ·exact h'
    ·have:g.Count * (q' + 1)≤g.Count * q:=Yj (by omega) (by omega)
     rw [Int.mul_add,Int.mul_one] at this;rw [Ys q] at hk;omega
   subst hqe;rw [Ys q'] at hk;have hyi:x8.index < y.index:=by omega
   have hzr:r≤(z:Int):=by
    by_cases h':r≤(z:Int)
    ·exact h'
    ·by_cases h'':z = (r - 1).toNat
     ·subst h'';rw [e2] at hz;cases hz;omega
     ·have:=Z6C hsp hz e2 (by omega);omega
   have:=s5 z hzr (by omega)
   rw [YU] at this;simp only [hz,decide_eq_true_eq] at this;omega
  ·have:g.Period * (q + 1)≤g.Period * q':=Yj (by omega) (by omega)
   rw [Int.mul_add,Int.mul_one] at this;rw [Ys q'];omega
end Go.Dn

namespace Go.Dn
open Go
theorem ZDM {g:Form} (h:Fit g) (h0:0 < g.Count) {sp:List size_spot} (hsp:Spots g sp) (hn:sp ≠ []) (hln:sp.length≤12) {t:Int} (ht:BigT t) :
  ∃ i,Z0S ⟨g,sp⟩ t true = some i∧FirstC g t i∧-211106232532992≤i∧i≤211106232532992:=by
 unfold BigT at ht
 have hs:=h.shape
 have hper:=h.per h0
 have hper2:=hs.per
 have hcnt:=hs.count
 have hfew:=h.few
 have hlen:0 < sp.length:=List.length_pos_iff.2 hn
 obtain ⟨x5,a1,a2,a3⟩:=at?_get (l:=sp) (i:=(sp.length:Int) - 1) (by omega) (by omega)
 obtain ⟨b1,b2,b3,b4,b5⟩:=hsp.mem x5 a3
 have r5:=Z5e (Z32 hs h0 b1 b2) b3
 rw [← b4,← b5] at r5
 unfold ZD at r5
 unfold Z0S
 rw [cond_true]
 simp only
 rw [Z6 (x:=(sp.length:Int) - 1) (by omega),a1]
 simp only [Y0]
 rw [Z6 (x:=x5.place.last - t) (by omega),Z3D (by unfold In64;omega) (by unfold In64;omega),Z6e hper]
 simp only [Y0]
 have qb:=ZE5 hper (n:=x5.place.last - t) (by omega)
 have qm:=Yv (x5.place.last - t) g.Period
 have q0:=Yn (x5.place.last - t) (show g.Period ≠ 0 by omega)
 have q1:=Yx (x5.place.last - t) hper
 generalize (x5.place.last - t) / g.Period = q at *
 have qp : -10995116277760≤q * g.Period∧q * g.Period≤10995116277760:=by rw [Ys];omega
 obtain ⟨r,s1,s2,s3,s4,s5⟩:=ZBf (n:=(sp.length:Int)) (by omega) (by omega)
  (f:=fun z0 => Z28 z0 ⟨g,sp⟩ q t) (p:=fun z => match sp[z.toNat]? with | some s => decide (s.place.last - q * g.Period ≥ t) | none => true) (by
   intro z z0 z1;obtain ⟨x,e1,e2,e3⟩:=at?_get (l:=sp) z0 z1
   obtain ⟨c1,c2,c3,c4,c5⟩:=hsp.mem x e3
   have rx:=Z5e (Z32 hs h0 c1 c2) c3
   rw [← c4,← c5] at rx;unfold ZD at rx;unfold Z28;simp only;rw [e1,e2];simp only [Y0];rw [Z6 (x:=q * g.Period) (by omega),Z6 (by omega)]) (by
   intro a b a0 hab hb hp;obtain ⟨x,e1,e2,e3⟩:=at?_get (l:=sp) a0 (by omega)
   obtain ⟨y,f1,f2,f3⟩:=at?_get (l:=sp) (show 0≤b by omega) hb
   simp only [e2,f2,decide_eq_true_eq] at hp ⊢
   by_cases hne:a = b
   ·subst hne;rw [e2] at f2;cases f2;exact hp
   ·have hlt:=Z6C hsp e2 f2 (by omega)
    obtain ⟨c1,c2,c3,c4,c5⟩:=hsp.mem x e3
    obtain ⟨d1,d2,d3,d4,d5⟩:=hsp.mem y f3
    have o1:=Z6b hs h.turns h0 hlt c3 d3
    have o2:=Z1m (Z32 hs h0 d1 d2) d3
    omega)
 rw [s1]
 simp only [Y0]
 have r1:r < sp.length:=by
  by_cases hr:r < sp.length
  ·exact hr
  ·have:=s4 ((sp.length:Int) - 1) (by omega) (by omega)
   simp only [a2,decide_eq_false_iff_not] at this;rw [Ys] at this;omega
 obtain ⟨x8,e1,e2,e3⟩:=at?_get (l:=sp) (i:=r) (by omega) (by omega)
 rw [e1]
 simp only [Y0]
 obtain ⟨c1,c2,c3,c4,c5⟩:=hsp.mem x8 e3
 have hqc:=ZDA qb (c:=g.Count) (by omega)
 rw [Z6 (x:=q * g.Count) (by omega),Z6 (by omega)]
 have ei:x8.index - q * g.Count = x8.index + g.Count * (-q):=by rw [Int.mul_neg,Ys];omega
 refine ⟨_,rfl,⟨?_,?_,?_⟩,by omega,by omega⟩
 ·rw [ei,Z5w h0];simpa using c3
 ·rw [ei,Z5w h0,(Z0d _ c3).1,← c5];have:=s5 r (by omega) (by omega)
  simp only [e2,decide_eq_true_eq] at this;rw [Int.neg_mul];omega
 ·intro k hk hkn;obtain ⟨j,q',j0,j1,rfl,ek⟩:=Z52 h0 k
  rw [ek] at hkn ⊢;have hjn:cs g j ≠ []:=fun h => hkn (by rw [h];rfl)
  rw [(Z0d _ hjn).1];obtain ⟨y,y1,rfl⟩:=hsp.all j j0 j1 hjn
  obtain ⟨d1,d2,d3,d4,d5⟩:=hsp.mem y y1
  obtain ⟨z,hz⟩:=YC y1
  have hz2:=(List.getElem?_eq_some_iff.1 hz).1
  have fy:y.place.last≤x5.place.last:=by
   by_cases hz0:z = ((sp.length:Int) - 1).toNat
   ·subst hz0;rw [a2] at hz;cases hz;exact Yb _
   ·have hlt:=Z6C hsp hz a2 (by omega)
    have o1:=Z6b hs h.turns h0 hlt d3 b3
    have o2:=Z1m (Z32 hs h0 b1 b2) b3
    omega
  rw [← d5]
  by_cases hqq : -q≤q'
  ·have hqe:q' = -q:=by
    by_cases h':q' = -q
    ·exact h'
    ·have:g.Count * (-q + 1)≤g.Count * q':=Yj (by omega) (by omega)
     rw [Int.mul_add,Int.mul_one] at this;rw [ei] at hk;omega
   subst hqe;rw [ei] at hk;have hyi:y.index < x8.index:=by omega
   have hzr:(z:Int) < r:=by
    by_cases h':(z:Int) < r
    ·exact h'
    ·by_cases h'':z = r.toNat
     ·subst h'';rw [e2] at hz;cases hz;omega
     ·have:=Z6C hsp e2 hz (by omega);omega
   have:=s4 z (by omega) hzr
   rw [YU] at this;simp only [hz,decide_eq_false_iff_not] at this;rw [Int.neg_mul];omega
  ·have:g.Period * q'≤g.Period * (-q - 1):=Yj (by omega) (by omega)
   rw [Int.mul_sub,Int.mul_one,Int.mul_neg] at this;rw [Ys q'];omega
def putB (b:Int × Bool) (n:Int):Int × Bool:=if b.2 = false∨n > b.1 then (n,true) else b
structure Best (S:Int→Prop) (b:Int × Bool):Prop where
 yes:b.2 = true→S b.1∧∀ n,S n→n≤b.1
 no:b.2 = false→b.1 = 0∧∀ n,¬ S n
theorem Best.put {S S':Int→Prop} {b:Int × Bool} {n:Int} (h:Best S b) (hS:∀ m,S' m ↔ S m∨m = n):Best S' (putB b n):=by
 unfold putB
 split
 ·rename_i hc;refine ⟨fun _ => ⟨(hS n).2 (.inr rfl),fun m hm => ?_⟩,fun h => by cases h⟩
  rcases (hS m).1 hm with h1 | h1
  ·cases hb:b.2 with
   | false => exact absurd h1 ((h.no hb).2 m)
   | true =>
    have:=(h.yes hb).2 m h1
    rcases hc with h2 | h2
    ·rw [hb] at h2;cases h2
    ·simp only;omega
  ·subst h1;exact Yb _
 ·rename_i hc;have hb:b.2 = true:=by cases hb:b.2 <;> simp_all
  refine ⟨fun _ => ⟨(hS b.1).2 (.inl (h.yes hb).1),fun m hm => ?_⟩,fun h => by rw [hb] at h;cases h⟩
  rcases (hS m).1 hm with h1 | h1
  ·exact (h.yes hb).2 m h1
  ·subst h1;have:¬ (m > b.1):=fun h => hc (.inr h)
   omega
theorem Best.congr {S S':Int→Prop} {b:Int × Bool} (h:Best S b) (hS:∀ m,S' m ↔ S m):Best S' b :=
 ⟨fun hb => ⟨(hS _).2 (h.yes hb).1,fun n hn => (h.yes hb).2 n ((hS n).1 hn)⟩,fun hb => ⟨(h.no hb).1,fun n hn => (h.no hb).2 n ((hS n).1 hn)⟩⟩
theorem Best.none {S:Int→Prop} (h:∀ n,¬ S n):Best S (0,false):=⟨fun h => by (cases h),fun _ => ⟨rfl,h⟩⟩
theorem Z8E (n b:Int) (c:Bool):loopO (Z2.s1) (([n].length:Int),0,[n],b,c) = some ([n],putB (b,c) n):=by
 rw [Z1e]
 have e1:Z2.s1 (([n].length:Int),0,[n],b,c) = some (.inl (([n].length:Int),1,[n],putB (b,c) n)):=by
  unfold Z2.s1;simp only;rw [ZP (show (0:Int) < ([n].length:Int) by simp),cond_true,show at? [n] 0 = some n from rfl]
  simp only [Y0];unfold putB;cases c with
  | false => rfl
  | true =>
   by_cases h:n > b
   ·simp only [h,decide_true,Y0x,cond_true,or_true,if_true];rfl
   ·simp only [h,decide_false,YD,Y0a,cond_false,Y0S,or_self,if_false];rfl
 rw [e1]
 simp only
 rw [Z1e]
 have e2:Z2.s1 (([n].length:Int),1,[n],putB (b,c) n) = some (.inr ([n],putB (b,c) n)):=by
  unfold Z2.s1;simp only;rw [ZQ (show ¬ (1:Int) < ([n].length:Int) by simp),cond_false]
 rw [e2]
theorem Z7n (n b:Int) (c:Bool):loopO (Z2.s3) (([n].length:Int),0,[n],b,c) = some ([n],putB (b,c) n):=by
 rw [Z1e]
 have e1:Z2.s3 (([n].length:Int),0,[n],b,c) = some (.inl (([n].length:Int),1,[n],putB (b,c) n)):=by
  unfold Z2.s3;simp only;rw [ZP (show (0:Int) < ([n].length:Int) by simp),cond_true,show at? [n] 0 = some n from rfl]
  simp only [Y0];unfold putB;cases c with
  | false => rfl
  | true =>
   by_cases h:n > b
   ·simp only [h,decide_true,Y0x,cond_true,or_true,if_true];rfl
   ·simp only [h,decide_false,YD,Y0a,cond_false,Y0S,or_self,if_false];rfl
 rw [e1]
 simp only
 rw [Z1e]
 have e2:Z2.s3 (([n].length:Int),1,[n],putB (b,c) n) = some (.inr ([n],putB (b,c) n)):=by
  unfold Z2.s3;simp only;rw [ZQ (show ¬ (1:Int) < ([n].length:Int) by simp),cond_false]
 rw [e2]
theorem ZCd (n b:Int) (c:Bool):loopO (ZT.s1) (([n].length:Int),0,[n],b,c) = some ([n],putB (b,c) n):=by
 rw [Z1e]
 have e1:ZT.s1 (([n].length:Int),0,[n],b,c) = some (.inl (([n].length:Int),1,[n],putB (b,c) n)):=by
  unfold ZT.s1;simp only;rw [ZP (show (0:Int) < ([n].length:Int) by simp),cond_true,show at? [n] 0 = some n from rfl]
  simp only [Y0];unfold putB;cases c with
  | false => rfl
  | true =>
   by_cases h:n > b
   ·simp only [h,decide_true,Y0x,cond_true,or_true,if_true];rfl
   ·simp only [h,decide_false,YD,Y0a,cond_false,Y0S,or_self,if_false];rfl
 rw [e1]
 simp only
 rw [Z1e]
 have e2:ZT.s1 (([n].length:Int),1,[n],putB (b,c) n) = some (.inr ([n],putB (b,c) n)):=by
  unfold ZT.s1;simp only;rw [ZQ (show ¬ (1:Int) < ([n].length:Int) by simp),cond_false]
 rw [e2]
theorem ZCt (n b:Int) (c:Bool):loopO (ZT.s3) (([n].length:Int),0,[n],b,c) = some ([n],putB (b,c) n):=by
 rw [Z1e]
 have e1:ZT.s3 (([n].length:Int),0,[n],b,c) = some (.inl (([n].length:Int),1,[n],putB (b,c) n)):=by
  unfold ZT.s3;simp only;rw [ZP (show (0:Int) < ([n].length:Int) by simp),cond_true,show at? [n] 0 = some n from rfl]
  simp only [Y0];unfold putB;cases c with
  | false => rfl
  | true =>
   by_cases h:n > b
   ·simp only [h,decide_true,Y0x,cond_true,or_true,if_true];rfl
   ·simp only [h,decide_false,YD,Y0a,cond_false,Y0S,or_self,if_false];rfl
 rw [e1]
 simp only
 rw [Z1e]
 have e2:ZT.s3 (([n].length:Int),1,[n],putB (b,c) n) = some (.inr ([n],putB (b,c) n)):=by
  unfold ZT.s3;simp only;rw [ZQ (show ¬ (1:Int) < ([n].length:Int) by simp),cond_false]
 rw [e2]
theorem ZCw (n b:Int) (c:Bool):loopO (ZT.s4) (([n].length:Int),0,[n],b,c) = some ([n],putB (b,c) n):=by
 rw [Z1e]
 have e1:ZT.s4 (([n].length:Int),0,[n],b,c) = some (.inl (([n].length:Int),1,[n],putB (b,c) n)):=by
  unfold ZT.s4;simp only;rw [ZP (show (0:Int) < ([n].length:Int) by simp),cond_true,show at? [n] 0 = some n from rfl]
  simp only [Y0];unfold putB;cases c with
  | false => rfl
  | true =>
   by_cases h:n > b
   ·simp only [h,decide_true,Y0x,cond_true,or_true,if_true];rfl
   ·simp only [h,decide_false,YD,Y0a,cond_false,Y0S,or_self,if_false];rfl
 rw [e1]
 simp only
 rw [Z1e]
 have e2:ZT.s4 (([n].length:Int),1,[n],putB (b,c) n) = some (.inr ([n],putB (b,c) n)):=by
  unfold ZT.s4;simp only;rw [ZQ (show ¬ (1:Int) < ([n].length:Int) by simp),cond_false]
 rw [e2]
end Go.Dn
