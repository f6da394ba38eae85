/- Part 4 of what the row stands on. -/
import Derived.Test.YtfknindefmcgdaaM3
set_option linter.unusedVariables false
set_option linter.unusedSimpArgs false
namespace Go.Dn
open Go Go.Proofs
set_option maxRecDepth 100000
set_option maxHeartbeats 4000000
theorem ZAi {f:Form} {m:Int} {r:Form × Int} (h:ZS f m = some r):FnO CX 31 [(.agg (vs (Form.cs f))),(vi m)] (fun q A => ∃ (w7:PV),q = (.tup [(.agg [(vi r.1.Period),(vi r.1.Count),w7,.nils]),(vi r.2)])∧A = [.sl w7 37 1 (r.1.Core.map (cL Span.cs)) true]):=by
 refine FnO.of Try.func31 V V V V V V ?_;intro σ T H;unfold ZS at h;refine .tR 3 V H fun b1 σ H => (.bxc (cs:=(vF f)) H V V V fun σ H => (.alc (cs:=[(vi 0),(vi 0),.nils,.nils]) H V V fun σ H => (.aV V (.na H fun H => (.tR 8 V H fun b2 σ H => (.LV (vF f) H 1 V (.mV V ?_)))))));obtain ⟨x1,q1,h⟩:=bs h;refine .cV (ZA3 q1) V (.m1 (.tup [(vi x1.1),(vi x1.2)]) V V (.xV V (.xV V (.aV V (.aV V (.na H fun H => (.then (.tR 2 V H fun b3 σ H => ?_))))))));refine .mV V (.iV V (.na H fun H => ?_));refine .wh h V ?_ ?_ <;> intro h
 ·refine .tR 3 V H fun b4 σ H => (.bV [(vi 0),(vi 0),.nils,.nils] V (.sV [(vi 0),(vi 0),.nils,.nils] H 0 V fun σ H => (.aV V (.na H fun H => (.ret ?_)))));replace H:=H.pushNil 37 1 true;obtain rfl:=sj h;exact ⟨.inr V,_,Z3u H (.agg (cs:=[(vi 0),(vi 0),.nils,.nils]) 1 V V V V V V V (.tmp (v:=(vi 0)) V .nil)),_,⟨.nils,V,V⟩,((H.erase 2).erase 1)⟩
 refine .skip (.tR 1 V H fun b5 σ H => (.aV V (.na H fun H => (.then (.tR 4 V H fun b6 σ H => (.fV H 1 V (.lV H 1 V (.nV V ?_))))))));refine .mV V (.na H fun H => (.inBlock ?_));refine .lp h (fun s1 => [(1,(vi m)),(2,(.ptr (b1 + 0) 4 0)),(4,(.ptr (b1 + 1) 4 0)),(6,(vi x1.1)),(7,(vi x1.2)),(8,(vi s1.1)),(27,(vl (cL Span.cs) f.Core)),(28,(vi (f.Core.length:Int))),(29,(vi s1.2))]) (fun s1 => (.blk (b1 + 1) 25 [(vi 0),(vi 0),.nils,.nils] :: .blk (b1 + 0) 25 (vF f) :: T)) (.exit 0) (fun y1 => [(1,(vi m)),(2,(.ptr (b1 + 0) 4 0)),(4,(.ptr (b1 + 1) 4 0)),(6,(vi x1.1)),(7,(vi x1.2)),(8,(vi y1))]) (fun y1 => (.blk (b1 + 1) 25 [(vi 0),(vi 0),.nils,.nils] :: .blk (b1 + 0) 25 (vF f) :: T)) (EI V) H (fun s1 e σ H z h => ?_) fun y1 e σ H h => ?_
 ·unfold ZS.s0 at h;refine .tR 1 V H fun b7 σ H => (.iV V (.na H fun H => (.then ?_)));refine .wh h V ?_ ?_ <;> intro h
  ·refine .skip (.then (.inBlock (.tR 3 V H fun b8 σ H => ?_)));obtain ⟨x2,q2,h⟩:=bs h;refine .jV q2 V (.pV V (.aV V (.na H fun H => (.ZF 5 V H fun b9 σ H => (.mV V (.mV V (.nV V (.iV V ?_))))))));refine .aV V (.na H fun H => (.ZF 2 V H fun b10 σ H => (.iV V (.mV V (.na H fun H => ?_)))));obtain rfl:=sj h;exact ⟨V,EI V,H⟩
  refine .exit ?_;obtain rfl:=sj h;exact ⟨nofun,⟨V,EI V,H⟩⟩
 refine .then (.tR 7 V H fun b11 σ H => (.mV V (.mV V (.fV H 1 V (.lV H 1 V ?_)))));obtain ⟨u1,q3,h⟩:=bs h;refine .quo (m:=x1.2) (m':=f.Count) V V (nz_ne q3) V (.iV V (.iV V (.na H fun H => ?_)));refine .wh h V ?_ ?_ <;> intro h
 ·refine .tR 3 V H fun b12 σ H => (.bV [(vi 0),(vi 0),.nils,.nils] V (.sV [(vi 0),(vi 0),.nils,.nils] H 0 V fun σ H => (.aV V (.na H fun H => (.ret ?_)))));replace H:=H.pushNil 37 1 true;obtain rfl:=sj h;exact ⟨.inr V,_,Z3u H (.agg (cs:=[(vi 0),(vi 0),.nils,.nils]) 1 V V V V V V V (.tmp (v:=(vi 3)) V .nil)),_,⟨.nils,V,V⟩,((H.erase 2).erase 1)⟩
 refine .skip (.tR 4 V H fun b13 σ H => (.mV V (.bV [(vi 0),(vi x1.1),.nils,.nils] V (.alc (cs:=[(vi 0),(vi 0),.nils,.nils]) H V V fun σ H => (.sV [(vi 0),(vi x1.1),.nils,.nils] H 0 V fun σ H => (.na H fun H => (.then (.Z2L 12 V (by kernel_rfl) H fun b14 σ H B14 => ?_))))))));refine .ZX H 2 V V V V V (so (B14 2 _ V _ V)) V (.ld (vi f.Period) H 2 V V V V V (so (B14 2 _ V _ V)) V (.mV V (.ZX H 2 V V V V V (so (B14 2 _ V _ V)) V (.ld (vi f.Count) H 2 V V V V V (so (B14 2 _ V _ V)) V ?_))));obtain ⟨u2,q4,h⟩:=bs h;refine .quo (m:=x1.2) (m':=f.Count) V V (nz_ne q4) V (.cV (Z79 V) V (.m1 (.tup [(vi (Za f.Period (w64 (x1.2.tdiv f.Count))).1),(vi (Za f.Period (w64 (x1.2.tdiv f.Count))).2)]) V V (.xV V (.xV V (.aV V (.aV V (.na H fun H => (.then ?_))))))));refine .tR 6 V H fun b15 σ H => (.mV V (.iV V (.mV V ?_)));refine .md H 3 [(63,(vb ((((Za f.Period (w64 (x1.2.tdiv f.Count))).2) != 0) || (decide (((Za f.Period (w64 (x1.2.tdiv f.Count))).1) > 1099511627776))))),(1,(vi m)),(2,(.ptr (b1 + 0) 4 0)),(4,(.ptr (b1 + 1) 4 0)),(6,(vi x1.1)),(11,(.ptr (b13 + 2) 4 0)),(12,(vi (Za f.Period (w64 (x1.2.tdiv f.Count))).1))] (.blk (b13 + 2) 25 [(vi 0),(vi x1.1),.nils,.nils] :: .blk (b1 + 1) 25 [(vi 0),(vi 0),.nils,.nils] :: .blk (b1 + 0) 25 (vF f) :: T) rfl ?_ fun e σ H => ?_
 ·refine .split V V ?_ ?_ <;> intro hc4
  ·refine .ps 2 V (.kT V (.nil ?_));exact ⟨⟨or_T hc4,V,V,V,V,V,V,U⟩,H.wk (by omega)⟩
  ·refine .mV V (.iV V (.kF V (.nil ?_)));exact ⟨⟨or_F hc4,V,V,V,V,V,V,U⟩,H.wk (by omega)⟩
 refine .na H fun H => ?_;refine .wh h V ?_ ?_ <;> intro h
 ·refine .tR 3 V H fun b16 σ H => (.bV [(vi 0),(vi 0),.nils,.nils] V (.sV [(vi 0),(vi 0),.nils,.nils] H 1 V fun σ H => (.aV V (.na H fun H => (.ret ?_)))));replace H:=H.pushNil 37 1 true;obtain rfl:=sj h;exact ⟨.inr V,_,Z3u H (.agg (cs:=[(vi 0),(vi 0),.nils,.nils]) 2 V V V V V V V (.tmp (v:=(vi 20)) V .nil)),_,⟨.nils,V,V⟩,(((H.erase 3).erase 2).erase 1)⟩
 refine .skip (.tR 3 V H fun b17 σ H => (.mV V (.fV H 0 V (.sV [(vi (Za f.Period (w64 (x1.2.tdiv f.Count))).1),(vi x1.1),.nils,.nils] H 0 V fun σ H => (.na H fun H => (.then (.tR 2 V H fun b18 σ H => (.mV V ?_))))))));refine .mV V (.na H fun H => (.inBlock ?_));replace H:=H.pushNil 37 1 true;obtain ⟨y2,hj2,h⟩:=bs h;obtain ⟨n2,hj2⟩:=ZK.1 hj2;refine .mono (Runs.loopO hj2 (fun s3 e σ => ∃ (w3:PV),Z8 e [(1,(vi m)),(2,(.ptr (b1 + 0) 4 0)),(4,(.ptr (b1 + 1) 4 0)),(11,(.ptr (b13 + 2) 4 0)),(67,(vi x1.1)),(68,(vi s3.1))]∧Hs σ (.sl w3 37 1 (s3.2.map (cL Span.cs)) true :: .blk (b13 + 2) 25 [(vi (Za f.Period (w64 (x1.2.tdiv f.Count))).1),(vi x1.1),w3,.nils] :: .blk (b1 + 1) 25 [(vi 0),(vi 0),.nils,.nils] :: .blk (b1 + 0) 25 (vF f) :: T)) (fun y2 x e σ => (∃ a1,∃ (w4:PV),y2 = (.go a1)∧x = .exit 2∧Z8 e [(4,(.ptr (b1 + 1) 4 0)),(11,(.ptr (b13 + 2) 4 0))]∧Hs σ (.sl w4 37 1 (a1.1.map (cL Span.cs)) true :: .blk (b13 + 2) 25 [(vi a1.2),(vi x1.1),w4,.nils] :: .blk (b1 + 1) 25 [(vi 0),(vi 0),.nils,.nils] :: T))∨(∃ a2,y2 = (.ret a2)∧x = .ret∧Z8 e [(4,(.ptr (b1 + 1) 4 0)),(5,(vi a2))]∧Hs σ (.blk (b1 + 1) 25 [(vi 0),(vi 0),.nils,.nils] :: T))) ⟨.nils,EI V,H⟩ ?_) ?_
 ·intro s3 e σ hI z h;obtain ⟨w3,he,H⟩:=hI;obtain ⟨e,rfl⟩:=he.ex;unfold ZS.s1 at h;refine .tR 1 V H fun b19 σ H => (.iV V (.na H fun H => (.then ?_)));refine .wh h V ?_ ?_ <;> intro h
  ·refine .skip (.then (.inBlock (.tR 2 V H fun b20 σ H => (.mV V (.aV V (.na H fun H => (.tR 11 V H fun b21 σ H => (.Z7T (fs:=[]) (cs:=[(.ptr (b1 + 0) 4 0)]) V V V V ?_))))))));refine .mV V (.mV V (.iV V (.mV V ?_)));obtain ⟨x3,q5,h⟩:=bs h;refine .Z7h (ys:=[(.clo 62 [] [(.ptr (b1 + 0) 4 0)]),(vi (w64 (s3.1 * m))),(vi m)]) (r:=(.tup [(vl Span.cs x3.1),(vi x3.2)])) H V (Z4y (C:=[.blk (b1 + 0) 25 (vF f)]) V (fun h => by simp [PV.pure] at h) (fun z0 y hz => (CloH.clo (Z91 hz))) q5) (.cons 3 V .nil) nofun V fun σ H => (.m1 (.tup [(vl Span.cs x3.1),(vi x3.2)]) V V (.xV V (.xV V (.aV V (.aV V (.na H fun H => (.then (.tR 2 V H fun b22 σ H => ?_))))))));refine .mV V (.iV V (.na H fun H => ?_));refine .wh h V ?_ ?_ <;> intro h
   ·refine .tR 4 V H fun b23 σ H => (.bV [(vi 0),(vi 0),.nils,.nils] V (.mV V (.sV [(vi 0),(vi 0),.nils,.nils] H 2 V fun σ H => (.aV V (.na H fun H => (.ret ?_))))));obtain rfl:=sj h;exact ⟨nofun,(.inr ⟨_,V,V,EI V,(((H.erase 3).erase 1).erase 0)⟩)⟩
   refine .skip (.ZF 7 V H fun b24 σ H => (.fV H 1 V (.lV H 1 V (.mV V (.Z2K (sz:=1) ([x3.1].map (cL Span.cs)) H (by omega) (by omega) V V V V V V V V V fun σ H => ?_)))));obtain ⟨x4,q6,h⟩:=bs h;refine .Z28 (c:=(cL Span.cs)) (v:=w3) (w:=(.buf (b24 + 3) 1 1)) (xs:=s3.2) (ys:=[x3.1]) H (by omega) (by omega) 1 V V V (.s 0 V) q6 V V V V V nofun V fun w5 σ H => (.fV H 2 V (.Z4N (v:=w5) (ys:=[w5]) (cells':=[(vi (Za f.Period (w64 (x1.2.tdiv f.Count))).1),(vi x1.1),w5,.nils]) H 2 V V V V (H.slCells (k:=1) V) V V V V nofun fun σ H => (.na H fun H => (.ZF 2 V H fun b25 σ H => (.iV V (.mV V (.na H fun H => ?_)))))));obtain rfl:=sj h;exact ⟨V,w5,EI V,(H.erase 0)⟩
  refine .exit ?_;obtain rfl:=sj h;exact ⟨nofun,(.inl ⟨_,w3,V,V,EI V,(H.erase 3)⟩)⟩
 ·rintro x e σ (⟨a3,w6,rfl,rfl,he,H⟩ | ⟨a4,rfl,rfl,he,H⟩)
  ·replace h:=jgo h;obtain ⟨e,rfl⟩:=he.ex;refine .tR 3 V H fun b26 σ H => (.LV [(vi a3.2),(vi x1.1),w6,.nils] H 1 V (.sV [(vi a3.2),(vi x1.1),w6,.nils] H 2 V fun σ H => (.aV V (.na H fun H => (.ret ?_)))));obtain rfl:=sj h;exact ⟨.inr V,_,Z3u H (.agg (cs:=[(vi a3.2),(vi x1.1),w6,.nils]) 2 V V V V V V V (.tmp (v:=(vi 0)) V .nil)),_,⟨w6,V,V⟩,((H.erase 2).erase 1)⟩
  ·replace h:=jret h;obtain ⟨e,rfl⟩:=he.ex;replace H:=H.pushNil 37 1 true;obtain rfl:=sj h;exact ⟨.inr V,_,Z3u H (.agg (cs:=[(vi 0),(vi 0),.nils,.nils]) 1 V V V V V V V (.tmp (v:=(vi a4)) V .nil)),_,⟨.nils,V,V⟩,(H.erase 1)⟩
theorem Z8u {i:Int} {p1':Form} {id0':Nat} {r:(List Span) × Int} (h:Z0E i p1' = some r):FnH CX 34 [(vi i),(.ptr id0' 4 0)] (.tup [(vl Span.cs r.1),(vi r.2)]) [.blk id0' 25 (vF p1')]:=by
 refine FnH.of Try.func34 V V V V V V (fun h => by have:=Z3T h 1 V;cases this) ?_;intro σ L hC H;have hC0:=hC;obtain ⟨k0',hk0',hC⟩:=hC.inv;unfold Z0E at h;refine .tR 2 V H fun b1 σ H => (.a1 .nils V V (.aV V (.na H fun H => (.tR 7 V H fun b2 σ H => (.Z9q (cs:=(vF p1')) H k0' hk0' V V V V V V nofun V (.mV V ?_))))));obtain ⟨x1,q1,h⟩:=bs h;refine .cV (Z1T q1) V (.xV V (.xV V (.aV V (.aV V (.na H fun H => (.ret ?_))))));obtain rfl:=sj h;exact (EndsH.H (xs:=[(vl Span.cs x1.1),(vi x1.2)]) (.inr V) H (.tmp (v:=(vl Span.cs x1.1)) V (.tmp (v:=(vi x1.2)) V .nil)) (.two (.cons (.c (.v _)) (.cons (.c (.v _)) .nil))) 0 V)
theorem ZAj {l:(List Span)} {r:Bool} (h:Z4S l = r):Fn CX 89 [(vl Span.cs l)] (vb r):=by
 refine Fn.go Try.func89 V fun σ H => ?_;unfold Z4S at h;refine .tR 1 V H fun b1 σ H => (.aV V (.na H fun H => (.tR 4 V H fun b2 σ H => (.mV V (.nV V (.iV V (.aV V (.na H fun H => ?_))))))));refine .ret ?_;subst h;exact Ends.eR V
theorem canon_bare_fn {f:Form} {r:Bool} (h:Z39 f = some r):Fn CX 64 [(.agg (vs (Form.cs f)))] (vb r):=by
 refine Fn.go Try.func64 V fun σ H => ?_;unfold Z39 at h;refine .tR 2 V H fun b1 σ H => (.bxc (cs:=(vF f)) H V V V fun σ H => (.aV V (.na H fun H => (.tR 5 V H fun b2 σ H => (.fV H 0 V (.lV H 0 V ?_))))));obtain ⟨x1,q1,h⟩:=bs h;refine .Z7h (ys:=[(vl (cL Span.cs) f.Core),(.v (.fn 89))]) (r:=(vb x1)) H V (Z16 (C:=[]) V (fun _ => V) (fun z0 y hz => (CloH.fn (Fn.toH (ZAj (Option.some.inj hz)) _))) q1) .nil nofun V fun σ H => (.tV V (.aV V (.na H fun H => (.ret ?_))));obtain rfl:=sj h;exact Ends.eR V
theorem Z8n {n:Int} {σ:Heap} {lo hi:Nat} {L:List Res} (H:Has σ lo hi L):∃ r σ',Z0H CX (.fn 65) [(vi n)] σ = some (r,σ')∧∃ i0':Nat,r = (.clo 90 [] [(.ptr i0' 1 0)])∧Hs σ' (.blk i0' 3 [(vi n)] :: L):=by
 refine callO_of (Post:=fun r σ' => ∃ i0':Nat,r = (.clo 90 [] [(.ptr i0' 1 0)])∧Hs σ' (.blk i0' 3 [(vi n)] :: L)) Try.func65 V V V V V V ?_;replace H:=H.all;refine .tR 2 V H fun b1 σ H => (.bxc (cs:=[(vi n)]) H V V V fun σ H => (.aV V (.na H fun H => (.tR 2 V H fun b2 σ H => (.Z7T (fs:=[]) (cs:=[(.ptr (b1 + 0) 1 0)]) V V V V (.a1 (.clo 90 [] [(.ptr (b1 + 0) 1 0)]) V V (.na H fun H => (.ret ?_))))))));exact ⟨.inr V,[(.clo 90 [] [(.ptr (b1 + 0) 1 0)])],Z3u H (.tmp (v:=(.clo 90 [] [(.ptr (b1 + 0) 1 0)])) V .nil),(b1 + 0),V,H.all⟩
theorem Z7e {S:Type} {p1':Int} {C:S→List Res→Prop} {yield:S→Int→Option (S × Bool)} {yid:Nat} {id0':Nat} (hy:YldH CX yid C (fun z => [(vi z)]) yield) (hcap:∀ s L,C s L→Sub [.blk id0' 3 [(vi p1')]] L) {st' r:S} (h:Zk p1' yield st' = some r):ItF CX 90 [(.yld yid),(.ptr id0' 1 0)] C st' r:=by
 refine ItF.of Try.func90 V V V V V V V V ?_;intro σ L hC H;have hc0:=hcap _ _ hC;obtain ⟨k0',hk0',hc0⟩:=hc0.inv;unfold Zk at h;refine .tR 1 V H fun b1 σ H => (.aV V (.na H fun H => (.inBlock ?_)));obtain ⟨y1,hj1,h⟩:=bs h;obtain ⟨n1,hj1⟩:=ZK.1 hj1;refine .mono (Runs.loopO hj1 (fun s1 e σ => ∃ (L:List Res),C s1.2 L∧Z8 e [(0,(.yld yid)),(1,(.ptr id0' 1 0)),(3,(vi s1.1))]∧Hs σ (L)) (fun y1 x e σ => (∃ a1,∃ (L:List Res),C a1 L∧y1 = (.go a1)∧x = .exit 0∧Z8 e []∧Hs σ (L))∨(∃ r',y1 = (.ret r')∧x = .ret∧EndsI C r' x e σ)) ⟨_,hC,EI V,H⟩ ?_) ?_
 ·intro s1 e σ hI z h;obtain ⟨L,hC,he,H⟩:=hI;obtain ⟨e,rfl⟩:=he.ex;have hc0:=hcap _ _ hC;obtain ⟨k0',hk0',hc0⟩:=hc0.inv;unfold Zk.s0 at h;refine .then (.tR 3 V H fun b2 σ H => (.mV V (.ld (vi p1') H k0' hk0' V V V V nofun V (.iV V (.na H fun H => ?_)))));refine .wh h V ?_ ?_ <;> intro h
  ·refine .skip (.then (.inBlock (.tR 10 V H fun b3 σ H => (.ld (vi p1') H k0' hk0' V V V V nofun V (.mV V ?_)))));obtain ⟨u1,q1,h⟩:=bs h;refine .rem (m:=p1') (m':=s1.1) V V (nz_ne q1) V (.iV V (.mV V ?_));obtain ⟨y2,hj2,h⟩:=bs h;refine .mid 5 (K1:=fun e σ => ∃ L,C y2.2 L∧Z8 e [(18,(vb y2.1)),(0,(.yld yid)),(1,(.ptr id0' 1 0)),(3,(vi s1.1))]∧Hs σ (L)) V ?_ ?_
   ·refine .sp hj2 V ?_ ?_ <;> intro h
    ·refine .m1 (.yld yid) V V (.mV V (.wt V V ?_));obtain ⟨x1,q2,h⟩:=bs h;refine .callY (z:=s1.1) (s':=x1.1) (b:=x1.2) [] H hC V V hy q2 V V fun σ L hC H => ?_;have hc0:=hcap _ _ hC;obtain ⟨k0',hk0',hc0⟩:=hc0.inv;refine .tV V (.kT V (.nil ?_));obtain rfl:=sj h;exact ⟨_,hC,EI V,H.all⟩
    refine .ps 4 V (.kF V (.nil ?_));obtain rfl:=sj h;exact ⟨_,hC,EI V,H.all⟩
   ·rintro e σ ⟨L,hC,he,H⟩;obtain ⟨e,rfl⟩:=he.ex;have hc0:=hcap _ _ hC;obtain ⟨k0',hk0',hc0⟩:=hc0.inv;refine .na H fun H => ?_;refine .wh h V ?_ ?_ <;> intro h
    ·refine .ret ?_;obtain rfl:=sj h;exact ⟨nofun,(.inr ⟨_,V,V,(EndsI.H (.inr V) H 0 V hC)⟩)⟩
    refine .skip (.ZF 3 V H fun b4 σ H => (.mV V (.iV V (.aV V (.na H fun H => ?_)))));obtain rfl:=sj h;exact ⟨V,_,hC,EI V,H⟩
  refine .exit ?_;obtain rfl:=sj h;exact ⟨nofun,(.inl ⟨_,_,hC,V,V,U,H⟩)⟩
 ·rintro x e σ (⟨a2,L,hC,rfl,rfl,he,H⟩ | ⟨r',rfl,rfl,hE⟩)
  ·replace h:=jgo h;obtain ⟨e,rfl⟩:=he.ex;have hc0:=hcap _ _ hC;obtain ⟨k0',hk0',hc0⟩:=hc0.inv;obtain rfl:=sj h;exact (EndsI.H (.inl V) H 0 V hC)
  ·replace h:=jret h;obtain rfl:=sj h;exact hE
theorem Z29 {s1':(List Span)} {s2':(List Span)} {eq:Span→Span→Option Bool} {C:List Res} {cv0:PV} (hs0:cv0.one = true) (hp0:cv0.pure = true→C = []) (hf0:∀ z0 z1 y,eq z0 z1 = some y→CloH CX cv0 [(.agg (vs (Span.cs z0))),(.agg (vs (Span.cs z1)))] (vb y) C) {r:Bool} (h:Z5 s1' s2' eq = some r):FnH CX 101 [(vl Span.cs s1'),(vl Span.cs s2'),cv0] (vb r) C:=by
 refine FnH.of Try.func101 V V V V (Z2q V (Z2q V (Z2q (Z3D hs0) all_nil))) V (fun h => hp0 (Z3T h 2 V)) ?_;intro σ L hC H;unfold Z5 at h;refine .tR 1 V H fun b1 σ H => (.aV V (.na H fun H => (.then (.tR 5 V H fun b2 σ H => (.mV V (.nV V (.mV V (.nV V ?_))))))));refine .iV V (.na H fun H => ?_);refine .wh h V ?_ ?_ <;> intro h
 ·refine .tR 1 V H fun b3 σ H => (.aV V (.na H fun H => (.ret ?_)));obtain rfl:=sj h;exact (EndsH.H (xs:=[(vb false)]) (.inr V) H (.tmp (v:=(vb false)) V .nil) (.one (.c (.v _))) 0 V)
 refine .skip (.then (.tR 3 V H fun b4 σ H => (.mV V (.nV V (.mV V (.na H fun H => (.inBlock ?_)))))));obtain ⟨y1,hj1,h⟩:=bs h;obtain ⟨n1,hj1⟩:=ZK.1 hj1;refine .mono (Runs.loopO hj1 (fun s1 e σ => Z8 e [(1,(vl Span.cs s2')),(2,cv0),(15,(vl Span.cs s1')),(16,(vi (s1'.length:Int))),(17,(vi s1))]∧Hs σ (L)) (fun y1 x e σ => (∃ a1,y1 = (.go a1)∧x = .exit 0∧Z8 e []∧Hs σ (L))∨(∃ r',y1 = (.ret r')∧x = .ret∧EndsH CX Try.f101.results.toList (vb r') L x e σ)) ⟨EI V,H⟩ ?_) ?_
 ·intro s1 e σ hI z h;obtain ⟨he,H⟩:=hI;obtain ⟨e,rfl⟩:=he.ex;unfold Z5.s0 at h;refine .tR 1 V H fun b5 σ H => (.iV V (.na H fun H => (.then ?_)));refine .wh h V ?_ ?_ <;> intro h
  ·refine .skip (.then (.inBlock (.tR 6 V H fun b6 σ H => (.mV V ?_))));obtain ⟨x1,q1,h⟩:=bs h;refine .jV q1 V (.qV [(.int .i64 x1.From),(.int .i64 x1.To)] V (.alc (cs:=[(vi 0),(vi 0)]) H V V fun σ H => (.aV V (.sV [(vi x1.From),(vi x1.To)] H 0 V fun σ H => (.na H fun H => (.tR 6 V H fun b7 σ H => (.mV V (.mV V ?_))))))));obtain ⟨x2,q2,h⟩:=bs h;refine .jV q2 V (.qV [(.int .i64 x2.From),(.int .i64 x2.To)] V (.alc (cs:=[(vi 0),(vi 0)]) H V V fun σ H => (.sV [(vi x2.From),(vi x2.To)] H 0 V fun σ H => (.na H fun H => (.tR 5 V H fun b8 σ H => (.m1 cv0 V V (.LV [(vi x1.From),(vi x1.To)] H 1 V (.LV [(vi x2.From),(vi x2.To)] H 0 V ?_))))))));obtain ⟨x3,q3,h⟩:=bs h;refine .callV (cv:=cv0) (ys:=[(.agg (vs (Span.cs x1))),(.agg (vs (Span.cs x2)))]) (r:=(vb x3)) H V V (hf0 x1 x2 _ q3) hC.push.push nofun V fun σ H => (.tV V (.na H fun H => ?_));refine .wh h V ?_ ?_ <;> intro h
   ·refine .tR 1 V H fun b9 σ H => (.aV V (.na H fun H => (.ret ?_)));obtain rfl:=sj h;exact ⟨nofun,(.inr ⟨_,V,V,(EndsH.H (xs:=[(vb false)]) (.inr V) H (.tmp (v:=(vb false)) V .nil) (.one (.c (.v _))) 2 V)⟩)⟩
   refine .skip (.ZF 2 V H fun b10 σ H => (.iV V (.mV V (.na H fun H => ?_))));obtain rfl:=sj h;exact ⟨V,EI V,((H.erase 1).erase 0)⟩
  refine .exit ?_;obtain rfl:=sj h;exact ⟨nofun,(.inl ⟨_,V,V,U,H⟩)⟩
 ·rintro x e σ (⟨a2,rfl,rfl,he,H⟩ | ⟨r',rfl,rfl,hE⟩)
  ·replace h:=jgo h;obtain ⟨e,rfl⟩:=he.ex;refine .tR 1 V H fun b11 σ H => (.aV V (.na H fun H => (.ret ?_)));obtain rfl:=sj h;exact (EndsH.H (xs:=[(vb true)]) (.inr V) H (.tmp (v:=(vb true)) V .nil) (.one (.c (.v _))) 0 V)
  ·replace h:=jret h;obtain rfl:=sj h;exact hE
theorem Z7z {x':Span} {y:Span} {p2':Int} {id0':Nat} {r:Bool} (h:Z0s x' y p2' = r):FnH CX 102 [(.agg (vs (Span.cs x'))),(.agg (vs (Span.cs y))),(.ptr id0' 1 0)] (vb r) [.blk id0' 3 [(vi p2')]]:=by
 refine FnH.of Try.func102 V V V V V V (fun h => by have:=Z3T h 2 V;cases this) ?_;intro σ L hC H;have hC0:=hC;obtain ⟨k0',hk0',hC⟩:=hC.inv;unfold Z0s at h;refine .tR 3 V H fun b1 σ H => (.bxc (cs:=[(vi x'.From),(vi x'.To)]) H V V V fun σ H => (.bxc (cs:=[(vi y.From),(vi y.To)]) H V V V fun σ H => (.aV V (.na H fun H => (.tR 17 V H fun b2 σ H => (.fV H 0 V (.lV H 0 V (.fV H 1 V ?_))))))));refine .lV H 1 V (.iV V (.ld (vi p2') H (k0' + 2) hk0' V V V V nofun V (.iV V (.mV V ?_))));refine .md H 8 [(21,(vb (((w64 (y.From - x'.From)) == p2') && ((w64 (y.To - x'.To)) == p2'))))] (L) V ?_ fun e σ H => ?_
 ·refine .split V V ?_ ?_ <;> intro hc1
  ·refine .fV H 0 V (.lV H 0 V (.fV H 1 V (.lV H 1 V (.iV V (.wt V V (.ld (vi p2') H (k0' + 2) hk0' V V V V nofun V (.iV V (.kT V ?_))))))));refine .nil ?_;exact ⟨⟨Z10 hc1,U⟩,((H.erase 1).erase 0).wk (by omega)⟩
  ·refine .ps 7 V (.kF V (.nil ?_));exact ⟨⟨Z12 hc1,U⟩,((H.erase 1).erase 0).wk (by omega)⟩
 refine .aV V (.na H fun H => (.ret ?_));subst h;exact (EndsH.H (xs:=[(vb (((w64 (y.From - x'.From)) == p2') && ((w64 (y.To - x'.To)) == p2')))]) (.inr V) H (.tmp (v:=(vb (((w64 (y.From - x'.From)) == p2') && ((w64 (y.To - x'.To)) == p2')))) V .nil) (.one (.c (.v _))) 0 V)
theorem Z9l {a:(List Span)} {b:(List Span)} {by':Int} {r:Bool} (h:Z1k a b by' = some r):Fn CX 91 [(vl Span.cs a),(vl Span.cs b),(vi by')] (vb r):=by
 refine Fn.go Try.func91 V fun σ H => ?_;unfold Z1k at h;refine .tR 2 V H fun b1 σ H => (.bxc (cs:=[(vi by')]) H V V V fun σ H => (.aV V (.na H fun H => (.tR 5 V H fun b2 σ H => (.mV V (.mV V (.Z7T (fs:=[]) (cs:=[(.ptr (b1 + 0) 1 0)]) V V V V ?_)))))));obtain ⟨x1,q1,h⟩:=bs h;refine .Z7h (ys:=[(vl Span.cs a),(vl Span.cs b),(.clo 102 [] [(.ptr (b1 + 0) 1 0)])]) (r:=(vb x1)) H V (Z29 (C:=[.blk (b1 + 0) 3 [(vi by')]]) V (fun h => by simp [PV.pure] at h) (fun z0 z1 y hz => (CloH.clo (Z7z (Option.some.inj hz)))) q1) (.cons 0 V .nil) nofun V fun σ H => (.aV V (.na H fun H => (.ret ?_)));obtain rfl:=sj h;exact Ends.eR V
theorem canon_turn_fn {f:Form} {d:Int} {by':Int} {r:Bool} (h:Z0R f d by' = some r):Fn CX 66 [(.agg (vs (Form.cs f))),(vi d),(vi by')] (vb r):=by
 refine Fn.go Try.func66 V fun σ H => ?_;unfold Z0R at h;refine .tR 2 V H fun b1 σ H => (.bxc (cs:=(vF f)) H V V V fun σ H => (.aV V (.na H fun H => (.then (.tR 4 V H fun b2 σ H => (.fV H 0 V (.lV H 0 V (.nV V ?_))))))));refine .mV V (.na H fun H => (.inBlock ?_));obtain ⟨y1,hj1,h⟩:=bs h;obtain ⟨n1,hj1⟩:=ZK.1 hj1;refine .mono (Runs.loopO hj1 (fun s1 e σ => Z8 e [(1,(vi d)),(2,(vi by')),(3,(.ptr (b1 + 0) 4 0)),(12,(vl (cL Span.cs) f.Core)),(13,(vi (f.Core.length:Int))),(14,(vi s1))]∧Hs σ [.blk (b1 + 0) 25 (vF f)]) (fun y1 x e σ => (∃ a1,y1 = (.go a1)∧x = .exit 0∧Z8 e []∧Hs σ [])∨(∃ r',y1 = (.ret r')∧x = .ret∧Ends CX Try.f66.results.toList (vb r') x e σ)) ⟨EI V,H⟩ ?_) ?_
 ·intro s1 e σ hI z h;obtain ⟨he,H⟩:=hI;obtain ⟨e,rfl⟩:=he.ex;unfold Z0R.s0 at h;refine .tR 1 V H fun b3 σ H => (.iV V (.na H fun H => (.then ?_)));refine .wh h V ?_ ?_ <;> intro h
  ·refine .skip (.then ?_);obtain ⟨y2,hj2,h⟩:=bs h;refine .mono (Q:=fun x e σ => (∃ a2,y2 = (.go a2)∧x = .normal∧Z8 e [(1,(vi d)),(2,(vi by')),(3,(.ptr (b1 + 0) 4 0)),(12,(vl (cL Span.cs) f.Core)),(13,(vi (f.Core.length:Int))),(14,(vi s1))]∧Hs σ [.blk (b1 + 0) 25 (vF f)])∨(∃ r',y2 = (.ret r')∧x = .ret∧Ends CX Try.f66.results.toList (vb r') x e σ)) ?_ ?_
   ·replace h:=hj2;refine .inBlock ?_;obtain ⟨y3,hj3,h⟩:=bs h;refine .mono (Q:=fun x e σ => (∃ a3,y3 = (.go a3)∧x = .normal∧Z8 e [(1,(vi d)),(2,(vi by')),(3,(.ptr (b1 + 0) 4 0)),(12,(vl (cL Span.cs) f.Core)),(13,(vi (f.Core.length:Int))),(14,(vi s1))]∧Hs σ [.blk (b1 + 0) 25 (vF f)])∨(∃ r',y3 = (.ret r')∧x = .ret∧Ends CX Try.f66.results.toList (vb r') x e σ)) ?_ ?_
    ·replace h:=hj3;refine .tR 5 V H fun b4 σ H => (.mV V ?_);obtain ⟨x1,q1,h⟩:=bs h;refine .jV q1 V (.pV V (.aV V (.aV V (.na H fun H => (.tR 4 V H fun b5 σ H => (.mV V (.mV V (.iV V ?_))))))));refine .aV V (.na H fun H => (.tR 1 V H fun b6 σ H => (.aV V (.na H fun H => (.then ?_)))));refine .jn h .normal (fun y4 => [(1,(vi d)),(2,(vi by')),(3,(.ptr (b1 + 0) 4 0)),(8,(vl Span.cs x1)),(9,(vi y4.1)),(10,(vi y4.2)),(12,(vl (cL Span.cs) f.Core)),(13,(vi (f.Core.length:Int))),(14,(vi s1))]) (fun y4 => [.blk (b1 + 0) 25 (vF f)]) (fun y4 h => ?_) fun y4 e σ H h => ?_
     ·refine .tR 4 V H fun b7 σ H => (.mV V (.fV H 0 V (.lV H 0 V (.iV V (.na H fun H => ?_)))));refine .wh h V ?_ ?_ <;> intro h
      ·refine .Z2L 8 V (by kernel_rfl) H fun b8 σ H B8 => (.mV V (.ZX H 0 V V V V V (so (B8 0 _ V _ V)) V (.ld (vi f.Count) H 0 V V V V V (so (B8 0 _ V _ V)) V (.iV V (.ZX H 0 V V V V V (so (B8 0 _ V _ V)) V (.ld (vi f.Period) H 0 V V V V V (so (B8 0 _ V _ V)) V (.aV V (.aV V ?_))))))));refine .na H fun H => ?_;obtain rfl:=sj h;exact ⟨V,EI V,H⟩
      refine .skip ?_;obtain rfl:=sj h;exact ⟨V,EI V,H⟩
     refine .tR 11 V H fun b9 σ H => (.mV V (.fV H 0 V (.lV H 0 V (.mV V ?_))));obtain ⟨x2,q2,h⟩:=bs h;refine .jV q2 V (.pV V (.mV V (.mV V (.iV V ?_))));obtain ⟨x3,q3,h⟩:=bs h;refine .cV (Z9l q3) V (.tV V (.na H fun H => ?_));refine .wh h V ?_ ?_ <;> intro h
     ·refine .tR 1 V H fun b10 σ H => (.aV V (.na H fun H => (.ret ?_)));obtain rfl:=sj h;exact (.inr ⟨_,V,V,(Ends.H (xs:=[(vb false)]) (.inr V) H (.tmp (v:=(vb false)) V .nil) (.one (.c (.v _))))⟩)
     refine .skip ?_;obtain rfl:=sj h;exact (.inl ⟨_,V,V,EI V,H⟩)
    ·rintro x e σ (⟨a4,rfl,rfl,he,H⟩ | ⟨r',rfl,rfl,hE⟩)
     ·replace h:=jgo h;obtain ⟨e,rfl⟩:=he.ex;obtain rfl:=sj h;exact (.inl ⟨_,V,V,EI V,H⟩)
     ·replace h:=jret h;obtain rfl:=sj h;exact (.inr ⟨_,V,V,hE⟩)
   ·rintro x e σ (⟨a5,rfl,rfl,he,H⟩ | ⟨r',rfl,rfl,hE⟩)
    ·replace h:=jgo h;obtain ⟨e,rfl⟩:=he.ex;refine .ZF 2 V H fun b11 σ H => (.iV V (.mV V (.na H fun H => ?_)));obtain rfl:=sj h;exact ⟨V,EI V,H⟩
    ·replace h:=jret h;obtain rfl:=sj h;exact ⟨nofun,(.inr ⟨_,V,V,hE⟩)⟩
  refine .exit ?_;obtain rfl:=sj h;exact ⟨nofun,(.inl ⟨_,V,V,U,(H.erase 0)⟩)⟩
 ·rintro x e σ (⟨a6,rfl,rfl,he,H⟩ | ⟨r',rfl,rfl,hE⟩)
  ·replace h:=jgo h;obtain ⟨e,rfl⟩:=he.ex;refine .tR 1 V H fun b12 σ H => (.aV V (.na H fun H => (.ret ?_)));obtain rfl:=sj h;exact Ends.eR V
  ·replace h:=jret h;obtain rfl:=sj h;exact hE
theorem Z2U {l:List Span} {r:List Span} (h:clone? 16 l = some r):Fn CX 38 [(vl Span.cs l)] (vl Span.cs r):=by
 obtain ⟨h1,rfl⟩:=clone_some h;refine Fn.intr ?_ V V V;rw [cx_intr38];unfold cloneV
 dsimp only
 rw [if_pos ⟨by simp [Span.cs],by simpa using h1⟩]
theorem canon_core_fn {f:Form} {r:Form} (h:Zh f = some r):Fn CX 36 [(.agg (vs (Form.cs f)))] (.agg (vs (Form.cs r))):=by
 refine Fn.go Try.func36 V fun σ H => ?_;unfold Zh at h;refine .tR 2 V H fun b1 σ H => (.bxc (cs:=(vF f)) H V V V fun σ H => (.alc (cs:=[(vi 0),(vi 0),.nils,.nils]) H V V fun σ H => (.na H fun H => (.scope (.tR 3 V H fun b2 σ H => (.bV [(vi 0),(vi 0),.nils,.nils] V (.alc (cs:=[(vi 0),(vi 0),.nils,.nils]) H V V fun σ H => (.sV [(vi 0),(vi 0),.nils,.nils] H 0 V fun σ H => ?_))))))));refine .na H fun H => (.then (.tR 2 V H fun b3 σ H => (.LV (vF f) H 2 V ?_)));obtain ⟨x1,q1,h⟩:=bs h;refine .cV (canon_bare_fn q1) V (.na H fun H => ?_);refine .wh h V ?_ ?_ <;> intro h
 ·refine .tR 2 V H fun b4 σ H => (.LV [(vi 0),(vi 0),.nils,.nils] H 0 V (.sV [(vi 0),(vi 0),.nils,.nils] H 1 V fun σ H => (.na H fun H => (.ret ?_))));obtain rfl:=sj h;exact (Ends.H (xs:=[(.agg [(vi 0),(vi 0),.nils,.nils])]) (.inr V) H (.agg (cs:=[(vi 0),(vi 0),.nils,.nils]) 1 V V V V V V V .nil) (.one (.a (.cons (.v _) (.cons (.v _) (.cons .n (.cons .n .nil)))))))
 refine .skip (.then (.label (.then ?_)));obtain ⟨y1,hj1,h⟩:=bs h;refine .mono (Q:=fun x e σ => ∃ (w1:PV),x = .normal∧Z8 e [(2,(.ptr (b1 + 1) 4 0)),(3,(.ptr (b2 + 1) 4 0))]∧Hs σ [.sl w1 37 1 (y1.1.map (cL Span.cs)) true,.blk (b2 + 1) 25 [(vi y1.2.1),(vi y1.2.2),w1,.nils],.blk (b1 + 1) 25 [(vi 0),(vi 0),.nils,.nils]]) ?_ ?_
 ·replace h:=hj1;refine .tR 3 V H fun b5 σ H => (.fV H 2 V (.lV H 2 V ?_));refine .callO (ys:=[(vi f.Count)]) rfl (Z8n H) nofun rfl ?_;rintro _ σ ⟨id1,rfl,H⟩;refine .na H fun H => (.inBlock ?_);replace H:=H.pushNil 37 1 true;obtain ⟨y2,hj2,h⟩:=bs h;refine .rangeH H rfl (fun s2 M => ∃ (w4:PV),M = [.sl w4 37 1 (s2.1.map (cL Span.cs)) true,.blk id1 3 [(vi f.Count)],.blk (b2 + 1) 25 [(vi s2.2.1),(vi s2.2.2),w4,.nils],.blk (b1 + 1) 25 [(vi 0),(vi 0),.nils,.nils],.blk (b1 + 0) 25 (vF f)]) (fun z2 => [(vi z2)]) (Zh.b0 f) (fun p => if p = 0 then none else some (.exit 0)) rfl (fun p => by (repeat' split) <;> exact ⟨_,rfl⟩) (r:=y2) ⟨.nils,rfl⟩ (fun _ => rfl) (fun _ => rfl) ?_ (fun id hy => Z7e hy (fun s L hL => by obtain ⟨M,hM,rfl⟩:=hL;obtain ⟨_,rfl⟩:=hM;exact (.cons 2 rfl .nil)) hj2) ?_
  ·intro R0 R1 s2 z2 s' p h σ M O hM H;obtain ⟨w4,rfl⟩:=hM;unfold Zh.b0 at h;refine .env [(17,(vi z2)),(1,(.ptr (b1 + 0) 4 0)),(2,(.ptr (b1 + 1) 4 0)),(3,(.ptr (b2 + 1) 4 0)),(16,(.clo 90 [] [(.ptr id1 1 0)]))] (EI V) fun e => (.ZF 1 V H fun b6 σ H => (.aV V (.na H fun H => ?_)));refine ⟨V,[.sl w4 37 1 (s2.1.map (cL Span.cs)) true,.blk id1 3 [(vi f.Count)],.blk (b2 + 1) 25 [(vi s2.2.1),(vi s2.2.2),w4,.nils],.blk (b1 + 1) 25 [(vi 0),(vi 0),.nils,.nils],.blk (b1 + 0) 25 (vF f)],H,?_⟩;intro σ H;refine .inBlock (.then (.Z2L 14 V (by kernel_rfl) H fun b7 σ H B7 => (.ZX H 5 V V V V V (so (B7 5 _ V _ V)) V (.ld (vi f.Period) H 5 V V V V V (so (B7 5 _ V _ V)) V (.ZX H 5 V V V V V (so (B7 5 _ V _ V)) V (.ld (vi f.Count) H 5 V V V V V (so (B7 5 _ V _ V)) V (.mV V ?_)))))));obtain ⟨u1,q2,h⟩:=bs h;refine .quo (m:=f.Count) (m':=z2) V V (nz_ne q2) V ?_;obtain ⟨x2,q3,h⟩:=bs h;refine .cV (Z42 q3) V (.m1 (.tup [(vi x2.1),(vi x2.2.1),(vi x2.2.2)]) V V (.xV V (.xV V (.xV V (.aV V (.aV V (.aV V (.na H fun H => ?_))))))));refine .then (.tR 9 V H fun b8 σ H => (.mV V (.iV V (.mV V ?_))));obtain ⟨y3,hj3,h⟩:=bs h;refine .md H 6 [(37,(vb y3)),(1,(.ptr (b1 + 0) 4 0)),(2,(.ptr (b1 + 1) 4 0)),(3,(.ptr (b2 + 1) 4 0)),(4,(vi z2)),(5,(vi x2.1))] (R1 :: .sl w4 37 1 (s2.1.map (cL Span.cs)) true :: .blk id1 3 [(vi f.Count)] :: .blk (b2 + 1) 25 [(vi s2.2.1),(vi s2.2.2),w4,.nils] :: .blk (b1 + 1) 25 [(vi 0),(vi 0),.nils,.nils] :: .blk (b1 + 0) 25 (vF f) :: O) V ?_ fun e σ H => ?_
   ·refine .sp hj3 V ?_ ?_ <;> intro h
    ·refine .ps 5 V (.kT V (.nil ?_));obtain rfl:=sj h;exact ⟨EI V,H.wk (by omega)⟩
    refine .LV (vF f) H 5 V (.mV V (.mV V (.wt V V ?_)));obtain ⟨x3,q4,h⟩:=bs h;refine .cV (canon_turn_fn q4) V (.tV V (.kF V (.nil ?_)));obtain rfl:=sj h;exact ⟨EI V,H.wk (by omega)⟩
   refine .na H fun H => ?_;refine .wh h V ?_ ?_ <;> intro h
   ·refine .exit ?_;obtain ⟨rfl,rfl⟩:=Prod.mk.inj (Option.some.inj h);exact ⟨⟨V,(iff_of_true V V)⟩,_,⟨w4,V⟩,H⟩
   refine .skip (.tR 6 V H fun b9 σ H => (.mV V (.mV V (.fV H 3 V (.sV [(vi x2.1),(vi s2.2.2),w4,.nils] H 3 V fun σ H => (.fV H 3 V (.sV [(vi x2.1),(vi z2),w4,.nils] H 3 V fun σ H => (.na H fun H => ?_))))))));refine .then (.tR 6 V H fun b10 σ H => (.fV H 5 V (.lV H 5 V (.mV V ?_))));obtain ⟨x4,q5,h⟩:=bs h;refine .sliceP01 (c:=(cL Span.cs)) q5 V V V V (fun _ => V) V (.nV V (.mV V (.na H fun H => (.inBlock ?_))));obtain ⟨y4,hj4,h⟩:=bs h;obtain ⟨n1,hj4⟩:=ZK.1 hj4;refine .mono (Runs.loopO hj4 (fun s3 e σ => ∃ (w7:PV),Z8 e [(2,(.ptr (b1 + 1) 4 0)),(3,(.ptr (b2 + 1) 4 0)),(45,(vl (cL Span.cs) x4)),(46,(vi (x4.length:Int))),(47,(vi s3.1))]∧Hs σ (R1 :: .sl w7 37 1 (s3.2.map (cL Span.cs)) true :: .blk id1 3 [(vi f.Count)] :: .blk (b2 + 1) 25 [(vi x2.1),(vi z2),w7,.nils] :: .blk (b1 + 1) 25 [(vi 0),(vi 0),.nils,.nils] :: .blk (b1 + 0) 25 (vF f) :: O)) (fun y4 x e σ => ∃ (w8:PV),x = .exit 2∧Z8 e [(2,(.ptr (b1 + 1) 4 0)),(3,(.ptr (b2 + 1) 4 0))]∧Hs σ (R1 :: .sl w8 37 1 (y4.map (cL Span.cs)) true :: .blk id1 3 [(vi f.Count)] :: .blk (b2 + 1) 25 [(vi x2.1),(vi z2),w8,.nils] :: .blk (b1 + 1) 25 [(vi 0),(vi 0),.nils,.nils] :: .blk (b1 + 0) 25 (vF f) :: O)) ⟨w4,EI V,H⟩ ?_) ?_
   ·intro s3 e σ hI z h;obtain ⟨w7,he,H⟩:=hI;obtain ⟨e,rfl⟩:=he.ex;unfold Zh.s1 at h;refine .tR 1 V H fun b11 σ H => (.iV V (.na H fun H => (.then ?_)));refine .wh h V ?_ ?_ <;> intro h
    ·refine .skip (.then (.inBlock (.tR 3 V H fun b12 σ H => ?_)));obtain ⟨x5,q6,h⟩:=bs h;refine .jV q6 V (.pV V (.aV V (.na H fun H => (.Z2L 8 V (by kernel_rfl) H fun b13 σ H B13 => (.ZX H 3 V V V V V (so (B13 3 _ V _ V)) V (.ld w7 H 3 V V V V V (so (B13 3 _ V _ V)) V (.mV V ?_)))))));obtain ⟨x6,q7,h⟩:=bs h;refine .cV (Z2U q7) V (.Z2K (sz:=1) ([x6].map (cL Span.cs)) H (by omega) (by omega) V V V V V V V V V fun σ H => ?_);obtain ⟨x7,q8,h⟩:=bs h;refine .Z28 (c:=(cL Span.cs)) (v:=w7) (w:=(.buf (b13 + 4) 1 1)) (xs:=s3.2) (ys:=[x6]) H (by omega) (by omega) 2 V V V (.s 0 V) q8 V V V V V (fun h => ⟨(fun id ho => .inl ⟨B13 1 _ V id ho,(fun _ => by kernel_rfl),nofun⟩),(fun id ho => .inr ⟨4,(by cases ho;rfl),(fun h => nomatch h),by kernel_rfl,by decide⟩)⟩) V fun w9 σ H => (.ZX H 4 V V V V V (so (B13 3 _ V _ V)) V (.Z4N (v:=w9) (ys:=[w9]) (cells':=[(vi x2.1),(vi z2),w9,.nils]) H 4 V V V V (H.slCells (k:=2) V) V V V V (fun _ => .inl ⟨B13 3 _ V _ V,(Z68 (by kernel_rfl))⟩) fun σ H => (.na H fun H => (.ZF 2 V H fun b14 σ H => (.iV V (.mV V (.na H fun H => ?_)))))));obtain rfl:=sj h;exact ⟨V,w9,EI V,(H.erase 0)⟩
    refine .exit ?_;obtain rfl:=sj h;exact ⟨nofun,⟨w7,V,EI V,H⟩⟩
   ·rintro x e σ ⟨w10,rfl,he,H⟩;obtain ⟨e,rfl⟩:=he.ex;refine .exit ?_;obtain ⟨rfl,rfl⟩:=Prod.mk.inj (Option.some.inj h);exact ⟨⟨V,(iff_of_false nofun nofun)⟩,_,⟨w10,V⟩,H⟩
  ·intro x σ M hx hM H;obtain ⟨w11,rfl⟩:=hM;cases hc0_:(y2.2 == 0)
   ·replace h:=cond_F hc0_ h;have hx:x = .exit 0:=by simpa [ne_of_beq_false hc0_,Z5y] using hx.symm
    subst hx;obtain rfl:=sj h;exact ⟨w11,V,EI V,((H.erase 4).erase 1)⟩
   ·replace h:=cond_T hc0_ h;have hx:x = .normal:=by rw [eq_of_beq hc0_] at hx;exact (Option.some.inj hx).symm
    subst hx;obtain rfl:=sj h;exact ⟨w11,V,EI V,((H.erase 4).erase 1)⟩
 ·rintro x e σ ⟨w12,rfl,he,H⟩;obtain ⟨e,rfl⟩:=he.ex;refine .tR 2 V H fun b15 σ H => (.LV [(vi y1.2.1),(vi y1.2.2),w12,.nils] H 1 V (.sV [(vi y1.2.1),(vi y1.2.2),w12,.nils] H 2 V fun σ H => (.na H fun H => (.ret ?_))));obtain rfl:=sj h;exact (Ends.H (xs:=[(.agg [(vi y1.2.1),(vi y1.2.2),w12,.nils])]) (.inr V) H (.agg (cs:=[(vi y1.2.1),(vi y1.2.2),w12,.nils]) 2 V V V V V V V .nil) (.one (.a (.cons (.v _) (.cons (.v _) (.cons (.s 0 V) (.cons .n .nil)))))))
theorem Z4e {s1':(List Span)} {s2':(List Span)} {r:Bool} (h:ZJ s1' s2' = some r):Fn CX 44 [(vl Span.cs s1'),(vl Span.cs s2')] (vb r):=by
 refine Fn.go Try.func44 V fun σ H => ?_;unfold ZJ at h;refine .tR 1 V H fun b1 σ H => (.aV V (.na H fun H => (.then (.tR 5 V H fun b2 σ H => (.mV V (.nV V (.mV V (.nV V ?_))))))));refine .iV V (.na H fun H => ?_);refine .wh h V ?_ ?_ <;> intro h
 ·refine .tR 1 V H fun b3 σ H => (.aV V (.na H fun H => (.ret ?_)));obtain rfl:=sj h;exact Ends.eR V
 refine .skip (.then (.tR 3 V H fun b4 σ H => (.mV V (.nV V (.mV V (.na H fun H => (.inBlock ?_)))))));obtain ⟨y1,hj1,h⟩:=bs h;obtain ⟨n1,hj1⟩:=ZK.1 hj1;refine .mono (Runs.loopO hj1 (fun s1 e σ => Z8 e [(0,(vl Span.cs s1')),(1,(vl Span.cs s2')),(12,(vi (s1'.length:Int))),(13,(vi s1))]∧Hs σ []) (fun y1 x e σ => (∃ a1,y1 = (.go a1)∧x = .exit 0∧Z8 e []∧Hs σ [])∨(∃ r',y1 = (.ret r')∧x = .ret∧Ends CX Try.f44.results.toList (vb r') x e σ)) ⟨EI V,H⟩ ?_) ?_
 ·intro s1 e σ hI z h;obtain ⟨he,H⟩:=hI;obtain ⟨e,rfl⟩:=he.ex;unfold ZJ.s0 at h;refine .tR 1 V H fun b5 σ H => (.iV V (.na H fun H => (.then ?_)));refine .wh h V ?_ ?_ <;> intro h
  ·refine .skip (.then (.inBlock (.tR 2 V H fun b6 σ H => (.mV V (.aV V (.na H fun H => (.then (.Z2L 9 V (by kernel_rfl) H fun b7 σ H B7 => ?_))))))));refine .mV V (.mV V ?_);obtain ⟨x1,q1,h⟩:=bs h;refine .jV q1 V (.qV [(.int .i64 x1.From),(.int .i64 x1.To)] V (.mV V (.mV V ?_)));obtain ⟨x2,q2,h⟩:=bs h;refine .jV q2 V (.qV [(.int .i64 x2.From),(.int .i64 x2.To)] V (.binA (u:=(.agg [(vi x1.From),(vi x1.To)])) (w:=(.agg [(vi x2.From),(vi x2.To)])) (r:=.bool (!((x1.From == x2.From) && ((x1.To == x2.To) && true)))) V V (by kernel_rfl) (fun _ => ask_eqA V V V V) V (.na H fun H => ?_)));refine .wh h V ?_ ?_ <;> intro h
   ·refine .tR 1 V H fun b8 σ H => (.aV V (.na H fun H => (.ret ?_)));obtain rfl:=sj h;exact ⟨nofun,(.inr ⟨_,V,V,(Ends.H (xs:=[(vb false)]) (.inr V) H (.tmp (v:=(vb false)) V .nil) (.one (.c (.v _))))⟩)⟩
   refine .skip (.ZF 2 V H fun b9 σ H => (.iV V (.mV V (.na H fun H => ?_))));obtain rfl:=sj h;exact ⟨V,EI V,H⟩
  refine .exit ?_;obtain rfl:=sj h;exact ⟨nofun,(.inl ⟨_,V,V,U,H⟩)⟩
 ·rintro x e σ (⟨a2,rfl,rfl,he,H⟩ | ⟨r',rfl,rfl,hE⟩)
  ·replace h:=jgo h;obtain ⟨e,rfl⟩:=he.ex;refine .tR 1 V H fun b10 σ H => (.aV V (.na H fun H => (.ret ?_)));obtain rfl:=sj h;exact Ends.eR V
  ·replace h:=jret h;obtain rfl:=sj h;exact hE
theorem Z3x {a:(List Span)} {b:(List Span)} {r:Bool} (h:Z0B a b = some r):Fn CX 16 [(vl Span.cs a),(vl Span.cs b)] (vb r):=by
 refine Fn.go Try.func16 V fun σ H => ?_;unfold Z0B at h;refine .tR 1 V H fun b1 σ H => (.aV V (.na H fun H => (.tR 4 V H fun b2 σ H => (.mV V (.mV V ?_)))));obtain ⟨x1,q1,h⟩:=bs h;refine .cV (Z4e q1) V (.aV V (.na H fun H => (.ret ?_)));obtain rfl:=sj h;exact Ends.eR V
theorem ZBU {f:Form} {g:Granule} {r:Bool} (h:Z2e f g = some r):Fn CX 37 [(.agg (vs (Form.cs f))),(.agg (vs (Granule.cs g)))] (vb r):=by
 refine Fn.go Try.func37 V fun σ H => ?_;unfold Z2e at h;refine .tR 3 V H fun b1 σ H => (.bxc (cs:=(vF f)) H V V V fun σ H => (.bxc (cs:=[(vi g.Index),(vl Span.cs g.Ticks)]) H V V V fun σ H => (.aV V (.na H fun H => (.tR 9 V H fun b2 σ H => (.LV (vF f) H 1 V (.fV H 0 V (.lV H 0 V ?_))))))));obtain ⟨x1,q1,h⟩:=bs h;refine .cV (Z1T q1) V (.m1 (.tup [(vl Span.cs x1.1),(vi x1.2)]) V V (.xV V (.xV V (.aV V (.aV V (.na H fun H => (.tR 9 V H fun b3 σ H => (.mV V ?_))))))));refine .iV V (.mV V ?_);obtain ⟨y1,hj1,h⟩:=bs h;refine .md H 5 [(21,(vb y1))] [] V ?_ fun e σ H => ?_
 ·refine .sp hj1 V ?_ ?_ <;> intro h
  ·refine .mV V (.fV H 0 V (.lV H 0 V (.wt V V ?_)));obtain ⟨x2,q2,h⟩:=bs h;refine .cV (Z3x q2) V (.kT V (.nil ?_));obtain rfl:=sj h;exact ⟨EI V,((H.erase 1).erase 0).wk (by omega)⟩
  refine .ps 4 V (.kF V (.nil ?_));obtain rfl:=sj h;exact ⟨EI V,((H.erase 1).erase 0).wk (by omega)⟩
 refine .aV V (.na H fun H => (.ret ?_));obtain rfl:=sj h;exact Ends.eR V
theorem Z7l {f:Form} {r:Form} (h:Zc f = some r):Fn CX 13 [(.agg (vs (Form.cs f)))] (.agg (vs (Form.cs r))):=by
 refine Fn.go Try.func13 V fun σ H => ?_;unfold Zc at h;refine .tR 2 V H fun b1 σ H => (.bxc (cs:=(vF f)) H V V V fun σ H => (.alc (cs:=[(vi 0),(vi 0),.nils,.nils]) H V V fun σ H => (.na H fun H => (.tR 4 V H fun b2 σ H => (.LV (vF f) H 1 V ?_)))));obtain ⟨x1,q1,h⟩:=bs h;refine .cV (canon_core_fn q1) V (.alc (cs:=[(vi 0),(vi 0),.nils,.nils]) H V V fun σ H => (.sV (vF x1) H 0 V fun σ H => (.na H fun H => (.tR 1 V H fun b3 σ H => (.a1 .nils V V (.na H fun H => (.then (.tR 4 V H fun b4 σ H => ?_))))))));refine .fV H 2 V (.lV H 2 V (.nV V (.mV V (.na H fun H => (.inBlock ?_)))));replace H:=H.pushNil 61 2 true;obtain ⟨y1,hj1,h⟩:=bs h;obtain ⟨n1,hj1⟩:=ZK.1 hj1;refine .mono (Runs.loopO hj1 (fun s2 e σ => ∃ (w3:PV),Z8 e [(2,(.ptr (b1 + 1) 4 0)),(3,(.ptr (b2 + 2) 4 0)),(4,w3),(10,(vl Granule.cs f.Odd)),(11,(vi (f.Odd.length:Int))),(12,(vi s2.1))]∧Hs σ [.sl w3 61 2 (s2.2.map Granule.cs) true,.blk (b2 + 2) 25 (vF x1),.blk (b1 + 1) 25 [(vi 0),(vi 0),.nils,.nils]]) (fun y1 x e σ => ∃ (w4:PV),x = .exit 0∧Z8 e [(2,(.ptr (b1 + 1) 4 0)),(3,(.ptr (b2 + 2) 4 0)),(4,w4)]∧Hs σ [.sl w4 61 2 (y1.map Granule.cs) true,.blk (b2 + 2) 25 (vF x1),.blk (b1 + 1) 25 [(vi 0),(vi 0),.nils,.nils]]) ⟨.nils,EI V,(H.erase 3)⟩ ?_) ?_
 ·intro s2 e σ hI z h;obtain ⟨w3,he,H⟩:=hI;obtain ⟨e,rfl⟩:=he.ex;unfold Zc.s0 at h;refine .tR 1 V H fun b5 σ H => (.iV V (.na H fun H => (.then ?_)));refine .wh h V ?_ ?_ <;> intro h
  ·refine .skip (.then ?_);obtain ⟨y2,hj2,h⟩:=bs h;refine .mono (Q:=fun x e σ => ∃ (w5:PV),x = .normal∧Z8 e [(2,(.ptr (b1 + 1) 4 0)),(3,(.ptr (b2 + 2) 4 0)),(4,w5),(10,(vl Granule.cs f.Odd)),(11,(vi (f.Odd.length:Int))),(12,(vi s2.1))]∧Hs σ [.sl w5 61 2 (y2.map Granule.cs) true,.blk (b2 + 2) 25 (vF x1),.blk (b1 + 1) 25 [(vi 0),(vi 0),.nils,.nils]]) ?_ ?_
   ·replace h:=hj2;refine .inBlock ?_;obtain ⟨y3,hj3,h⟩:=bs h;refine .mono (Q:=fun x e σ => ∃ (w6:PV),x = .normal∧Z8 e [(2,(.ptr (b1 + 1) 4 0)),(3,(.ptr (b2 + 2) 4 0)),(4,w6),(10,(vl Granule.cs f.Odd)),(11,(vi (f.Odd.length:Int))),(12,(vi s2.1))]∧Hs σ [.sl w6 61 2 (y3.map Granule.cs) true,.blk (b2 + 2) 25 (vF x1),.blk (b1 + 1) 25 [(vi 0),(vi 0),.nils,.nils]]) ?_ ?_
    ·replace h:=hj3;refine .tR 4 V H fun b6 σ H => ?_;obtain ⟨x2,q2,h⟩:=bs h;refine .jV q2 V (.qV [(.int .i64 x2.Index),(.sl (x2.Ticks.map Span.cs))] V (.alc (cs:=[(vi 0),.nils]) H V V fun σ H => (.sV [(vi x2.Index),(vl Span.cs x2.Ticks)] H 0 V fun σ H => (.na H fun H => (.tR 4 V H fun b7 σ H => (.LV (vF x1) H 2 V (.LV [(vi x2.Index),(vl Span.cs x2.Ticks)] H 0 V ?_)))))));obtain ⟨x3,q3,h⟩:=bs h;refine .cV (ZBU q3) V (.tV V (.na H fun H => ?_));refine .wh h V ?_ ?_ <;> intro h
     ·refine .Z2L 10 V (by kernel_rfl) H fun b8 σ H B8 => (.m1 w3 V V (.ZX H 0 V V V V V (so (B8 0 _ V _ V)) V (.ld (vi x2.Index) H 0 V V V V V (so (B8 0 _ V _ V)) V (.ZX H 0 V V V V V (so (B8 0 _ V _ V)) V (.ld (vl Span.cs x2.Ticks) H 0 V V V V V (so (B8 0 _ V _ V)) V ?_)))));obtain ⟨x4,q4,h⟩:=bs h;refine .cV (Z2U q4) V (.bV [(vi x2.Index),(vl Span.cs x4)] V (.Z2K (sz:=2) ([(Granule.mk x2.Index x4)].map Granule.cs) H (by omega) (by omega) V V V V V V V V V fun σ H => ?_));obtain ⟨x5,q5,h⟩:=bs h;refine .Z28 (c:=Granule.cs) (v:=w3) (w:=(.buf (b8 + 7) 1 2)) (xs:=s2.2) (ys:=[(Granule.mk x2.Index x4)]) H (by omega) (by omega) 2 V V V (.s 0 V) q5 V V V V V (fun h => ⟨(fun id ho => .inl ⟨B8 1 _ V id ho,(fun _ => by kernel_rfl),nofun⟩),(fun id ho => .inr ⟨7,(by cases ho;rfl),(fun h => nomatch h),by kernel_rfl,by decide⟩)⟩) V fun w7 σ H => (.a1 w7 V V (.na H fun H => ?_));obtain rfl:=sj h;exact ⟨w7,V,EI V,((H.erase 1).erase 0)⟩
     refine .skip ?_;obtain rfl:=sj h;exact ⟨w3,V,EI V,(H.erase 0)⟩
    ·rintro x e σ ⟨w8,rfl,he,H⟩;obtain ⟨e,rfl⟩:=he.ex;obtain rfl:=sj h;exact ⟨w8,V,EI V,H⟩
   ·rintro x e σ ⟨w9,rfl,he,H⟩;obtain ⟨e,rfl⟩:=he.ex;refine .ZF 2 V H fun b9 σ H => (.iV V (.mV V (.na H fun H => ?_)));obtain rfl:=sj h;exact ⟨V,w9,EI V,H⟩
  refine .exit ?_;obtain rfl:=sj h;exact ⟨nofun,⟨w3,V,EI V,H⟩⟩
 ·rintro x e σ ⟨w10,rfl,he,H⟩;obtain ⟨e,rfl⟩:=he.ex;refine .tR 3 V H fun b10 σ H => (.m1 w10 V V (.fV H 1 V (.Z4N (v:=w10) (ys:=[w10]) (cells':=[(vi x1.Period),(vi x1.Count),(vl (cL Span.cs) x1.Core),w10]) H 1 V V V V (H.slCells (k:=0) V) V V V V nofun fun σ H => (.na H fun H => (.tR 2 V H fun b11 σ H => (.LV [(vi x1.Period),(vi x1.Count),(vl (cL Span.cs) x1.Core),w10] H 1 V (.sV [(vi x1.Period),(vi x1.Count),(vl (cL Span.cs) x1.Core),w10] H 2 V fun σ H => (.na H fun H => ?_))))))));refine .ret ?_;obtain rfl:=sj h;exact (Ends.H (xs:=[(.agg [(vi x1.Period),(vi x1.Count),(vl (cL Span.cs) x1.Core),w10])]) (.inr V) H (.agg (cs:=[(vi x1.Period),(vi x1.Count),(vl (cL Span.cs) x1.Core),w10]) 2 V V V V V V V .nil) (.one (.a (.cons (.v _) (.cons (.v _) (.cons (.v _) (.cons (.s 0 V) .nil)))))))
theorem Z4r {f:Form} {r:Form × Int} (h:Z1v f = some r):Fn CX 35 [(.agg (vs (Form.cs f)))] (.tup [(.agg (vs (Form.cs r.1))),(vi r.2)]):=by
 refine Fn.go Try.func35 V fun σ H => ?_;unfold Z1v at h;refine .tR 3 V H fun b1 σ H => (.bxc (cs:=(vF f)) H V V V fun σ H => (.alc (cs:=[(vi 0),(vi 0),.nils,.nils]) H V V fun σ H => (.aV V (.na H fun H => (.then (.tR 2 V H fun b2 σ H => (.LV (vF f) H 1 V ?_)))))));obtain ⟨x1,q1,h⟩:=bs h;refine .cV (Z5S q1) V (.na H fun H => (.inBlock (.tR 2 V H fun b3 σ H => (.iV V (.aV V (.na H fun H => ?_))))));refine .wh h V ?_ ?_ <;> intro h
 ·refine .tR 4 V H fun b4 σ H => (.LV (vF f) H 1 V ?_);obtain ⟨x2,q2,h⟩:=bs h;refine .cV (Z7l q2) V (.sV (vF x2) H 0 V fun σ H => (.aV V (.na H fun H => (.ret ?_))));obtain rfl:=sj h;exact (Ends.H (xs:=[(.agg (vF x2)),(vi 0)]) (.inr V) H (.agg (cs:=(vF x2)) 0 V V V V V V V (.tmp (v:=(vi 0)) V .nil)) (.two (.cons (.p V) (.cons (.c (.v _)) .nil))))
 refine .tR 2 V H fun b5 σ H => (.iV V (.aV V (.na H fun H => ?_)));refine .wh h V ?_ ?_ <;> intro h
 ·refine .tR 3 V H fun b6 σ H => (.bV [(vi 0),(vi 0),.nils,.nils] V (.sV [(vi 0),(vi 0),.nils,.nils] H 0 V fun σ H => (.aV V (.na H fun H => (.ret ?_)))));obtain rfl:=sj h;exact (Ends.H (xs:=[(.agg [(vi 0),(vi 0),.nils,.nils]),(vi 3)]) (.inr V) H (.agg (cs:=[(vi 0),(vi 0),.nils,.nils]) 0 V V V V V V V (.tmp (v:=(vi 3)) V .nil)) (.two (.cons (.a (.cons (.v _) (.cons (.v _) (.cons .n (.cons .n .nil))))) (.cons (.c (.v _)) .nil))))
 refine .skip (.tR 3 V H fun b7 σ H => (.bV [(vi 0),(vi 0),.nils,.nils] V (.sV [(vi 0),(vi 0),.nils,.nils] H 0 V fun σ H => (.aV V (.na H fun H => (.ret ?_))))));obtain rfl:=sj h;exact (Ends.H (xs:=[(.agg [(vi 0),(vi 0),.nils,.nils]),(vi 20)]) (.inr V) H (.agg (cs:=[(vi 0),(vi 0),.nils,.nils]) 0 V V V V V V V (.tmp (v:=(vi 20)) V .nil)) (.two (.cons (.a (.cons (.v _) (.cons (.v _) (.cons .n (.cons .n .nil))))) (.cons (.c (.v _)) .nil))))
theorem Z2C {f:Form} {m:Int} {r:Form × Int} (h:Zg f m = some r):Fn CX 11 [(.agg (vs (Form.cs f))),(vi m)] (.tup [(.agg (vs (Form.cs r.1))),(vi r.2)]):=by
 refine Fn.go Try.func11 V fun σ H => ?_;unfold Zg at h;refine .tR 3 V H fun b1 σ H => (.bxc (cs:=(vF f)) H V V V fun σ H => (.alc (cs:=[(vi 0),(vi 0),.nils,.nils]) H V V fun σ H => (.aV V (.na H fun H => (.then (.tR 6 V H fun b2 σ H => (.mV V (.iV V ?_))))))));refine .mV V ?_;refine .md H 3 [(21,(vb ((decide (m < 1)) || (decide (m > 6000))))),(1,(vi m)),(2,(.ptr (b1 + 0) 4 0)),(4,(.ptr (b1 + 1) 4 0))] [.blk (b1 + 1) 25 [(vi 0),(vi 0),.nils,.nils],.blk (b1 + 0) 25 (vF f)] rfl ?_ fun e σ H => ?_
 ·refine .split V V ?_ ?_ <;> intro hc1
  ·refine .ps 2 V (.kT V (.nil ?_));exact ⟨⟨or_T hc1,V,V,V,U⟩,H.wk (by omega)⟩
  ·refine .mV V (.iV V (.kF V (.nil ?_)));exact ⟨⟨or_F hc1,V,V,V,U⟩,H.wk (by omega)⟩
 refine .na H fun H => ?_;refine .wh h V ?_ ?_ <;> intro h
 ·refine .tR 3 V H fun b3 σ H => (.bV [(vi 0),(vi 0),.nils,.nils] V (.sV [(vi 0),(vi 0),.nils,.nils] H 0 V fun σ H => (.aV V (.na H fun H => (.ret ?_)))));obtain rfl:=sj h;exact (Ends.H (xs:=[(.agg [(vi 0),(vi 0),.nils,.nils]),(vi 2)]) (.inr V) H (.agg (cs:=[(vi 0),(vi 0),.nils,.nils]) 0 V V V V V V V (.tmp (v:=(vi 2)) V .nil)) (.two (.cons (.a (.cons (.v _) (.cons (.v _) (.cons .n (.cons .n .nil))))) (.cons (.c (.v _)) .nil))))
 refine .skip (.tR 9 V H fun b4 σ H => (.LV (vF f) H 1 V (.mV V ?_)));obtain ⟨x1,q1,h⟩:=bs h;refine .callFO (ys:=[(.agg (vs (Form.cs f))),(vi m)]) H rfl (ZAi q1) nofun rfl ?_;rintro _ _ σ ⟨w1,rfl,rfl⟩ H;refine .m1 (.tup [(.agg [(vi x1.1.Period),(vi x1.1.Count),w1,.nils]),(vi x1.2)]) V V (.xV V (.xV V (.alc (cs:=[(vi 0),(vi 0),.nils,.nils]) H V V fun σ H => (.sV [(vi x1.1.Period),(vi x1.1.Count),w1,.nils] H 0 V fun σ H => (.aV V (.na H fun H => (.then (.tR 2 V H fun b5 σ H => ?_))))))));refine .mV V (.iV V (.na H fun H => ?_));refine .wh h V ?_ ?_ <;> intro h
 ·refine .tR 4 V H fun b6 σ H => (.bV [(vi 0),(vi 0),.nils,.nils] V (.mV V (.sV [(vi 0),(vi 0),.nils,.nils] H 2 V fun σ H => (.aV V (.na H fun H => (.ret ?_))))));obtain rfl:=sj h;exact (Ends.H (xs:=[(.agg [(vi 0),(vi 0),.nils,.nils]),(vi x1.2)]) (.inr V) H (.agg (cs:=[(vi 0),(vi 0),.nils,.nils]) 2 V V V V V V V (.tmp (v:=(vi x1.2)) V .nil)) (.two (.cons (.a (.cons (.v _) (.cons (.v _) (.cons .n (.cons .n .nil))))) (.cons (.c (.v _)) .nil))))
 refine .skip (.then (.tR 4 V H fun b7 σ H => (.fV H 3 V (.lV H 3 V (.nV V (.mV V (.na H fun H => (.inBlock ?_))))))));replace H:=H.pushNil 61 2 true;obtain ⟨y1,hj1,h⟩:=bs h;obtain ⟨n1,hj1⟩:=ZK.1 hj1;refine .mono (Runs.loopO hj1 (fun s2 e σ => ∃ (w4:PV),Z8 e [(1,(vi m)),(2,(.ptr (b1 + 0) 4 0)),(4,(.ptr (b1 + 1) 4 0)),(6,(.ptr (b4 + 6) 4 0)),(34,(vl Granule.cs f.Odd)),(35,(vi (f.Odd.length:Int))),(36,(vi s2.1))]∧Hs σ [.sl w4 61 2 (s2.2.map Granule.cs) true,.blk (b4 + 6) 25 [(vi x1.1.Period),(vi x1.1.Count),w1,w4],.sl w1 37 1 (x1.1.Core.map (cL Span.cs)) true,.blk (b1 + 1) 25 [(vi 0),(vi 0),.nils,.nils],.blk (b1 + 0) 25 (vF f)]) (fun y1 x e σ => (∃ a1,∃ (w5:PV),y1 = (.go a1)∧x = .exit 0∧Z8 e [(4,(.ptr (b1 + 1) 4 0)),(6,(.ptr (b4 + 6) 4 0))]∧Hs σ [.sl w5 61 2 (a1.map Granule.cs) true,.blk (b4 + 6) 25 [(vi x1.1.Period),(vi x1.1.Count),w1,w5],.sl w1 37 1 (x1.1.Core.map (cL Span.cs)) true,.blk (b1 + 1) 25 [(vi 0),(vi 0),.nils,.nils]])∨(∃ r',y1 = (.ret r')∧x = .ret∧Ends CX Try.f11.results.toList (.tup [(.agg (vs (Form.cs r'.1))),(vi r'.2)]) x e σ)) ⟨.nils,EI V,H⟩ ?_) ?_
 ·intro s2 e σ hI z h;obtain ⟨w4,he,H⟩:=hI;obtain ⟨e,rfl⟩:=he.ex;unfold Zg.s0 at h;refine .tR 1 V H fun b8 σ H => (.iV V (.na H fun H => (.then ?_)));refine .wh h V ?_ ?_ <;> intro h
  ·refine .skip (.then ?_);obtain ⟨y2,hj2,h⟩:=bs h;refine .mono (Q:=fun x e σ => (∃ a2,∃ (w6:PV),y2 = (.go a2)∧x = .normal∧Z8 e [(1,(vi m)),(2,(.ptr (b1 + 0) 4 0)),(4,(.ptr (b1 + 1) 4 0)),(6,(.ptr (b4 + 6) 4 0)),(34,(vl Granule.cs f.Odd)),(35,(vi (f.Odd.length:Int))),(36,(vi s2.1))]∧Hs σ [.sl w6 61 2 (a2.map Granule.cs) true,.blk (b4 + 6) 25 [(vi x1.1.Period),(vi x1.1.Count),w1,w6],.sl w1 37 1 (x1.1.Core.map (cL Span.cs)) true,.blk (b1 + 1) 25 [(vi 0),(vi 0),.nils,.nils],.blk (b1 + 0) 25 (vF f)])∨(∃ r',y2 = (.ret r')∧x = .ret∧Ends CX Try.f11.results.toList (.tup [(.agg (vs (Form.cs r'.1))),(vi r'.2)]) x e σ)) ?_ ?_
   ·replace h:=hj2;refine .inBlock (.tR 4 V H fun b9 σ H => ?_);obtain ⟨x2,q2,h⟩:=bs h;refine .jV q2 V (.qV [(.int .i64 x2.Index),(.sl (x2.Ticks.map Span.cs))] V (.alc (cs:=[(vi 0),.nils]) H V V fun σ H => (.sV [(vi x2.Index),(vl Span.cs x2.Ticks)] H 0 V fun σ H => (.na H fun H => (.tR 11 V H fun b10 σ H => (.fV H 0 V (.lV H 0 V (.mV V ?_))))))));obtain ⟨x3,q3,h⟩:=bs h;refine .cV (Z42 q3) V (.m1 (.tup [(vi x3.1),(vi x3.2.1),(vi x3.2.2)]) V V (.xV V (.xV V (.xV V (.aV V (.aV V (.aV V (.na H fun H => ?_))))))));refine .then (.tR 4 V H fun b11 σ H => (.fV H 2 V (.lV H 2 V (.Z7w (c:=Granule.cs) (xs:=s2.2) H 1 V V V nofun V (.aV V (.na H fun H => (.tR 13 V H fun b12 σ H => (.mV V ?_))))))));refine .iV V (.mV V ?_);obtain ⟨y3,hj3,h⟩:=bs h;refine .md H 10 [(63,(vb y3)),(1,(vi m)),(2,(.ptr (b1 + 0) 4 0)),(4,(.ptr (b1 + 1) 4 0)),(6,(.ptr (b4 + 6) 4 0)),(10,(vi x3.1)),(34,(vl Granule.cs f.Odd)),(35,(vi (f.Odd.length:Int))),(36,(vi s2.1))] [.sl w4 61 2 (s2.2.map Granule.cs) true,.blk (b4 + 6) 25 [(vi x1.1.Period),(vi x1.1.Count),w1,w4],.sl w1 37 1 (x1.1.Core.map (cL Span.cs)) true,.blk (b1 + 1) 25 [(vi 0),(vi 0),.nils,.nils],.blk (b1 + 0) 25 (vF f)] V ?_ fun e σ H => ?_
    ·refine .sp hj3 V ?_ ?_ <;> intro h
     ·refine .fV H 2 V (.lV H 2 V (.mV V (.iV V (.wt V V ?_))));obtain ⟨x4,q4,h⟩:=bs h;refine .Z8M H 1 V V V (at?_map q4) V V nofun V ?_;intro id1 hv1;refine .wt V V (.Z8E (id:=id1) H 1 V hv1 (by simp) V V V nofun V (.wt V V ?_));refine .loadS (id:=id1) (j:=0) (w:=(.int .i64 x4.Index)) H 1 V hv1 (by simp) (at?_map q4) V (by simp) V V V nofun V ?_;refine .mV V (.iV V (.kT V (.nil ?_)));obtain rfl:=sj h;exact ⟨EI V,(H.erase 0).wk (by omega)⟩
     refine .ps 9 V (.kF V (.nil ?_));obtain rfl:=sj h;exact ⟨EI V,(H.erase 0).wk (by omega)⟩
    refine .na H fun H => ?_;refine .wh h V ?_ ?_ <;> intro h
    ·refine .exit ?_;obtain rfl:=sj h;exact (.inl ⟨_,w4,V,V,EI V,H⟩)
    refine .skip (.tR 11 V H fun b13 σ H => (.Z7T (fs:=[]) (cs:=[(.ptr (b1 + 0) 4 0)]) V V V V (.mV V (.mV V (.iV V (.mV V ?_))))));obtain ⟨x5,q5,h⟩:=bs h;refine .Z7h (ys:=[(.clo 34 [] [(.ptr (b1 + 0) 4 0)]),(vi (w64 (x3.1 * m))),(vi m)]) (r:=(.tup [(vl Span.cs x5.1),(vi x5.2)])) H V (Z4y (C:=[.blk (b1 + 0) 25 (vF f)]) V (fun h => by simp [PV.pure] at h) (fun z0 y hz => (CloH.clo (Z8u hz))) q5) (.cons 4 V .nil) nofun V fun σ H => (.m1 (.tup [(vl Span.cs x5.1),(vi x5.2)]) V V (.xV V (.xV V (.aV V (.aV V (.na H fun H => (.then (.tR 2 V H fun b14 σ H => ?_))))))));refine .mV V (.iV V (.na H fun H => ?_));refine .wh h V ?_ ?_ <;> intro h
    ·refine .tR 3 V H fun b15 σ H => (.bV [(vi 0),(vi 0),.nils,.nils] V (.sV [(vi 0),(vi 0),.nils,.nils] H 3 V fun σ H => (.aV V (.na H fun H => (.ret ?_)))));obtain rfl:=sj h;exact (.inr ⟨_,V,V,(Ends.H (xs:=[(.agg [(vi 0),(vi 0),.nils,.nils]),(vi 20)]) (.inr V) H (.agg (cs:=[(vi 0),(vi 0),.nils,.nils]) 3 V V V V V V V (.tmp (v:=(vi 20)) V .nil)) (.two (.cons (.a (.cons (.v _) (.cons (.v _) (.cons .n (.cons .n .nil))))) (.cons (.c (.v _)) .nil))))⟩)
    refine .skip (.ZF 9 V H fun b16 σ H => (.fV H 1 V (.lV H 1 V (.mV V (.mV V (.bV [(vi x3.1),(vl Span.cs x5.1)] V (.Z2K (sz:=2) ([(Granule.mk x3.1 x5.1)].map Granule.cs) H (by omega) (by omega) V V V V V V V V V fun σ H => ?_)))))));obtain ⟨x6,q6,h⟩:=bs h;refine .Z28 (c:=Granule.cs) (v:=w4) (w:=(.buf (b16 + 5) 1 2)) (xs:=s2.2) (ys:=[(Granule.mk x3.1 x5.1)]) H (by omega) (by omega) 1 V V V (.s 0 V) q6 V V V V V nofun V fun w7 σ H => (.fV H 2 V (.Z4N (v:=w7) (ys:=[w7]) (cells':=[(vi x1.1.Period),(vi x1.1.Count),w1,w7]) H 2 V V V V (H.slCells (k:=1) V) V V V V nofun fun σ H => (.na H fun H => ?_)));obtain rfl:=sj h;exact (.inl ⟨_,w7,V,V,EI V,(H.erase 0)⟩)
   ·rintro x e σ (⟨a3,w8,rfl,rfl,he,H⟩ | ⟨r',rfl,rfl,hE⟩)
    ·replace h:=jgo h;obtain ⟨e,rfl⟩:=he.ex;refine .ZF 2 V H fun b17 σ H => (.iV V (.mV V (.na H fun H => ?_)));obtain rfl:=sj h;exact ⟨V,w8,EI V,H⟩
    ·replace h:=jret h;obtain rfl:=sj h;exact ⟨nofun,(.inr ⟨_,V,V,hE⟩)⟩
  refine .exit ?_;obtain rfl:=sj h;exact ⟨nofun,(.inl ⟨_,w4,V,V,EI V,(H.erase 4)⟩)⟩
 ·rintro x e σ (⟨a4,w9,rfl,rfl,he,H⟩ | ⟨r',rfl,rfl,hE⟩)
  ·replace h:=jgo h;obtain ⟨e,rfl⟩:=he.ex;refine .tR 6 V H fun b18 σ H => (.LV [(vi x1.1.Period),(vi x1.1.Count),w1,w9] H 1 V ?_);obtain ⟨x7,q7,h⟩:=bs h;refine .Z6W (xs:=[(.agg [(vi x1.1.Period),(vi x1.1.Count),w1,w9])]) (ys:=[(.agg (vs (Form.cs (Form.mk x1.1.Period x1.1.Count x1.1.Core a4))))]) H V (.cons (.a (.cons (.v _) (.cons (.v _) (.cons (.s 2 V) (.cons (.s 0 V) .nil))))) .nil) (Z4r q7) V V nofun V fun σ H => (.xV V (.xV V (.sV (vF x7.1) H 3 V fun σ H => (.aV V (.na H fun H => (.ret ?_))))));obtain rfl:=sj h;exact (Ends.H (xs:=[(.agg (vF x7.1)),(vi x7.2)]) (.inr V) H (.agg (cs:=(vF x7.1)) 3 V V V V V V V (.tmp (v:=(vi x7.2)) V .nil)) (.two (.cons (.p V) (.cons (.c (.v _)) .nil))))
  ·replace h:=jret h;obtain rfl:=sj h;exact hE
theorem Z2R {i:Int} {r:Bool} (h:Z04 i = r):Fn CX 39 [(vi i)] (vb r):=by
 refine Fn.go Try.func39 V fun σ H => ?_;unfold Z04 at h;refine .tR 1 V H fun b1 σ H => (.aV V (.na H fun H => (.tR 7 V H fun b2 σ H => (.mV V (.iV V (.mV V ?_))))));refine .md H 3 [(8,(vb ((decide (i ≥ (-1099511627776))) && (decide (i≤1099511627776)))))] [] V ?_ fun e σ H => ?_
 ·refine .split V V ?_ ?_ <;> intro hc1
  ·refine .mV V (.iV V (.kT V (.nil ?_)));exact ⟨⟨Z10 hc1,U⟩,H.wk (by omega)⟩
  ·refine .ps 2 V (.kF V (.nil ?_));exact ⟨⟨Z12 hc1,U⟩,H.wk (by omega)⟩
 refine .aV V (.na H fun H => (.ret ?_));subst h;exact Ends.eR V
end Go.Dn

namespace Go.Dn
open Go Go.Proofs
set_option maxRecDepth 100000
set_option maxHeartbeats 4000000
theorem ZAg {f:Form} {m:Int} {r:Form × Int} (h:Zz f m = some r):Fn CX 14 [(.agg (vs (Form.cs f))),(vi m)] (.tup [(.agg (vs (Form.cs r.1))),(vi r.2)]):=by
 refine Fn.go Try.func14 V fun σ H => ?_;unfold Zz at h;refine .tR 3 V H fun b1 σ H => (.bxc (cs:=(vF f)) H V V V fun σ H => (.alc (cs:=[(vi 0),(vi 0),.nils,.nils]) H V V fun σ H => (.aV V (.na H fun H => (.then (.tR 3 V H fun b2 σ H => (.mV V (.cV (Z2R V) V ?_))))))));refine .tV V (.na H fun H => ?_);refine .wh h V ?_ ?_ <;> intro h
 ·refine .tR 3 V H fun b3 σ H => (.bV [(vi 0),(vi 0),.nils,.nils] V (.sV [(vi 0),(vi 0),.nils,.nils] H 0 V fun σ H => (.aV V (.na H fun H => (.ret ?_)))));obtain rfl:=sj h;exact (Ends.H (xs:=[(.agg [(vi 0),(vi 0),.nils,.nils]),(vi 2)]) (.inr V) H (.agg (cs:=[(vi 0),(vi 0),.nils,.nils]) 0 V V V V V V V (.tmp (v:=(vi 2)) V .nil)) (.two (.cons (.a (.cons (.v _) (.cons (.v _) (.cons .n (.cons .n .nil))))) (.cons (.c (.v _)) .nil))))
 refine .skip (.tR 7 V H fun b4 σ H => (.fV H 1 V (.lV H 1 V (.fV H 1 V (.lV H 1 V (.bV [(vi f.Period),(vi f.Count),.nils,.nils] V (.alc (cs:=[(vi 0),(vi 0),.nils,.nils]) H V V fun σ H => (.sV [(vi f.Period),(vi f.Count),.nils,.nils] H 0 V fun σ H => ?_))))))));refine .na H fun H => (.then (.tR 3 V H fun b5 σ H => (.fV H 2 V (.lV H 2 V (.mV V (.na H fun H => (.inBlock ?_)))))));replace H:=H.pushNil 37 1 true;obtain ⟨y1,hj1,h⟩:=bs h;obtain ⟨n1,hj1⟩:=ZK.1 hj1;refine .mono (Runs.loopO hj1 (fun s2 e σ => ∃ (w3:PV),Z8 e [(1,(vi m)),(2,(.ptr (b1 + 0) 4 0)),(4,(.ptr (b1 + 1) 4 0)),(6,(.ptr (b4 + 5) 4 0)),(22,(vi f.Count)),(23,(vi s2.1))]∧Hs σ [.sl w3 37 1 (s2.2.map (cL Span.cs)) true,.blk (b4 + 5) 25 [(vi f.Period),(vi f.Count),w3,.nils],.blk (b1 + 1) 25 [(vi 0),(vi 0),.nils,.nils],.blk (b1 + 0) 25 (vF f)]) (fun y1 x e σ => (∃ a1,∃ (w4:PV),y1 = (.go a1)∧x = .exit 0∧Z8 e [(1,(vi m)),(2,(.ptr (b1 + 0) 4 0)),(4,(.ptr (b1 + 1) 4 0)),(6,(.ptr (b4 + 5) 4 0))]∧Hs σ [.sl w4 37 1 (a1.map (cL Span.cs)) true,.blk (b4 + 5) 25 [(vi f.Period),(vi f.Count),w4,.nils],.blk (b1 + 1) 25 [(vi 0),(vi 0),.nils,.nils],.blk (b1 + 0) 25 (vF f)])∨(∃ r',y1 = (.ret r')∧x = .ret∧Ends CX Try.f14.results.toList (.tup [(.agg (vs (Form.cs r'.1))),(vi r'.2)]) x e σ)) ⟨.nils,EI V,H⟩ ?_) ?_
 ·intro s2 e σ hI z h;obtain ⟨w3,he,H⟩:=hI;obtain ⟨e,rfl⟩:=he.ex;unfold Zz.s0 at h;refine .tR 1 V H fun b6 σ H => (.iV V (.na H fun H => (.then ?_)));refine .wh h V ?_ ?_ <;> intro h
  ·refine .skip (.then (.inBlock (.tR 2 V H fun b7 σ H => (.mV V (.aV V (.na H fun H => (.tR 10 V H fun b8 σ H => (.LV (vF f) H 3 V ?_))))))));refine .mV V (.mV V (.iV V ?_));obtain ⟨x1,q1,h⟩:=bs h;refine .cV (Z7v q1) V (.m1 (.tup [(vl Span.cs x1.1),(vi x1.2)]) V V (.xV V (.xV V (.aV V (.aV V (.na H fun H => (.then (.tR 2 V H fun b9 σ H => ?_))))))));refine .mV V (.iV V (.na H fun H => ?_));refine .wh h V ?_ ?_ <;> intro h
   ·refine .tR 4 V H fun b10 σ H => (.bV [(vi 0),(vi 0),.nils,.nils] V (.mV V (.sV [(vi 0),(vi 0),.nils,.nils] H 2 V fun σ H => (.aV V (.na H fun H => (.ret ?_))))));obtain rfl:=sj h;exact ⟨nofun,(.inr ⟨_,V,V,(Ends.H (xs:=[(.agg [(vi 0),(vi 0),.nils,.nils]),(vi x1.2)]) (.inr V) H (.agg (cs:=[(vi 0),(vi 0),.nils,.nils]) 2 V V V V V V V (.tmp (v:=(vi x1.2)) V .nil)) (.two (.cons (.a (.cons (.v _) (.cons (.v _) (.cons .n (.cons .n .nil))))) (.cons (.c (.v _)) .nil))))⟩)⟩
   refine .skip (.ZF 7 V H fun b11 σ H => (.fV H 1 V (.lV H 1 V (.mV V (.Z2K (sz:=1) ([x1.1].map (cL Span.cs)) H (by omega) (by omega) V V V V V V V V V fun σ H => ?_)))));obtain ⟨x2,q2,h⟩:=bs h;refine .Z28 (c:=(cL Span.cs)) (v:=w3) (w:=(.buf (b11 + 3) 1 1)) (xs:=s2.2) (ys:=[x1.1]) H (by omega) (by omega) 1 V V V (.s 0 V) q2 V V V V V nofun V fun w5 σ H => (.fV H 2 V (.Z4N (v:=w5) (ys:=[w5]) (cells':=[(vi f.Period),(vi f.Count),w5,.nils]) H 2 V V V V (H.slCells (k:=1) V) V V V V nofun fun σ H => (.na H fun H => (.ZF 2 V H fun b12 σ H => (.iV V (.mV V (.na H fun H => ?_)))))));obtain rfl:=sj h;exact ⟨V,w5,EI V,(H.erase 0)⟩
  refine .exit ?_;obtain rfl:=sj h;exact ⟨nofun,(.inl ⟨_,w3,V,V,EI V,H⟩)⟩
 ·rintro x e σ (⟨a2,w6,rfl,rfl,he,H⟩ | ⟨r',rfl,rfl,hE⟩)
  ·replace h:=jgo h;obtain ⟨e,rfl⟩:=he.ex;refine .then (.tR 4 V H fun b13 σ H => (.fV H 3 V (.lV H 3 V (.nV V (.mV V (.na H fun H => (.inBlock ?_)))))));replace H:=H.pushNil 61 2 true;obtain ⟨y2,hj2,h⟩:=bs h;obtain ⟨n2,hj2⟩:=ZK.1 hj2;refine .mono (Runs.loopO hj2 (fun s4 e σ => ∃ (w9:PV),Z8 e [(1,(vi m)),(4,(.ptr (b1 + 1) 4 0)),(6,(.ptr (b4 + 5) 4 0)),(46,(vl Granule.cs f.Odd)),(47,(vi (f.Odd.length:Int))),(48,(vi s4.1))]∧Hs σ [.sl w9 61 2 (s4.2.map Granule.cs) true,.sl w6 37 1 (a2.map (cL Span.cs)) true,.blk (b4 + 5) 25 [(vi f.Period),(vi f.Count),w6,w9],.blk (b1 + 1) 25 [(vi 0),(vi 0),.nils,.nils]]) (fun y2 x e σ => (∃ a3,∃ (w10:PV),y2 = (.go a3)∧x = .exit 2∧Z8 e [(4,(.ptr (b1 + 1) 4 0)),(6,(.ptr (b4 + 5) 4 0))]∧Hs σ [.sl w10 61 2 (a3.map Granule.cs) true,.sl w6 37 1 (a2.map (cL Span.cs)) true,.blk (b4 + 5) 25 [(vi f.Period),(vi f.Count),w6,w10],.blk (b1 + 1) 25 [(vi 0),(vi 0),.nils,.nils]])∨(∃ r',y2 = (.ret r')∧x = .ret∧Ends CX Try.f14.results.toList (.tup [(.agg (vs (Form.cs r'.1))),(vi r'.2)]) x e σ)) ⟨.nils,EI V,(H.erase 4)⟩ ?_) ?_
   ·intro s4 e σ hI z h;obtain ⟨w9,he,H⟩:=hI;obtain ⟨e,rfl⟩:=he.ex;unfold Zz.s1 at h;refine .tR 1 V H fun b14 σ H => (.iV V (.na H fun H => (.then ?_)));refine .wh h V ?_ ?_ <;> intro h
    ·refine .skip (.then (.inBlock (.tR 4 V H fun b15 σ H => ?_)));obtain ⟨x3,q3,h⟩:=bs h;refine .jV q3 V (.qV [(.int .i64 x3.Index),(.sl (x3.Ticks.map Span.cs))] V (.alc (cs:=[(vi 0),.nils]) H V V fun σ H => (.sV [(vi x3.Index),(vl Span.cs x3.Ticks)] H 0 V fun σ H => (.na H fun H => (.then (.tR 6 V H fun b16 σ H => (.fV H 0 V (.lV H 0 V ?_))))))));refine .mV V (.iV V (.cV (Z2R V) V (.tV V (.na H fun H => ?_))));refine .wh h V ?_ ?_ <;> intro h
     ·refine .tR 3 V H fun b17 σ H => (.bV [(vi 0),(vi 0),.nils,.nils] V (.sV [(vi 0),(vi 0),.nils,.nils] H 4 V fun σ H => (.aV V (.na H fun H => (.ret ?_)))));obtain rfl:=sj h;exact ⟨nofun,(.inr ⟨_,V,V,(Ends.H (xs:=[(.agg [(vi 0),(vi 0),.nils,.nils]),(vi 20)]) (.inr V) H (.agg (cs:=[(vi 0),(vi 0),.nils,.nils]) 4 V V V V V V V (.tmp (v:=(vi 20)) V .nil)) (.two (.cons (.a (.cons (.v _) (.cons (.v _) (.cons .n (.cons .n .nil))))) (.cons (.c (.v _)) .nil))))⟩)⟩
     refine .skip (.Z2L 14 V (by kernel_rfl) H fun b18 σ H B18 => (.ZX H 3 V V V V V (so (B18 3 _ V _ V)) V (.loadHR (v:=w9) H 3 V V V V V (fun _ => ⟨B18 3 _ V _ V,_,V,mem_one⟩) V (.ZX H 0 V V V V V (so (B18 0 _ V _ V)) V (.loadHR (v:=(vi x3.Index)) H 0 V V V V V (fun _ => ⟨B18 0 _ V _ V,_,V,mem_one⟩) V (.mV V (.iV V (.ZX H 0 V V V V V (so (B18 0 _ V _ V)) V ?_))))))));refine .ld (vl Span.cs x3.Ticks) H 0 V V V V V (so (B18 0 _ V _ V)) V ?_;replace H:=H.pushNil 59 2 true;obtain ⟨x4,q4,h⟩:=bs h;refine .appendNt (c:=Span.cs) (w:=(vl Span.cs x3.Ticks)) (ys:=x3.Ticks) H (by omega) (by omega) 0 V V V (.m (fun _ => V)) q4 V V V V V (fun _ id ho => nomatch ho) V fun w11 σ hw1 H => ?_;refine .buildA (cs:=[(vi (w64 (x3.Index + m))),w11]) (by rcases hw1 with rfl | ⟨_,rfl⟩ <;> rfl) rfl (.Z94 (sz:=2) ([(Granule.mk (w64 (x3.Index + m)) x4)].map Granule.cs) H (by omega) (by omega) rfl rfl (.exp (.a (.cons (.v _) (.cons (.s 0 rfl) .nil))) .nil) rfl rfl rfl rfl rfl rfl rfl (fun _ => frz_one (j:=8) hw1 rfl (by kernel_rfl)) fun σ H => ?_);obtain ⟨x5,q5,h⟩:=bs h;refine .Z28 (c:=Granule.cs) (v:=w9) (w:=(.buf (b18 + 10) 1 2)) (xs:=s4.2) (ys:=[(Granule.mk (w64 (x3.Index + m)) x4)]) H (by omega) (by omega) 3 V V V (.s 0 V) q5 V V V V V (fun h => ⟨(fun id ho => .inl ⟨B18 1 _ V id ho,(fun _ => by kernel_rfl),nofun⟩),(fun id ho => .inr ⟨10,(by cases ho;rfl),(fun h => nomatch h),by kernel_rfl,by decide⟩)⟩) V fun w12 σ H => (.ZX H 5 V V V V V (so (B18 3 _ V _ V)) V (.Z4N (v:=w12) (ys:=[w12]) (cells':=[(vi f.Period),(vi f.Count),w6,w12]) H 5 V V V V (H.slCells (k:=3) V) V V V V (fun _ => .inl ⟨B18 3 _ V _ V,(Z68 (by kernel_rfl))⟩) fun σ H => (.na H fun H => (.ZF 2 V H fun b19 σ H => (.iV V (.mV V (.na H fun H => ?_)))))))
     obtain rfl:=sj h;exact ⟨V,w12,EI V,(((H.erase 2).erase 1).erase 0)⟩
    refine .exit ?_;obtain rfl:=sj h;exact ⟨nofun,(.inl ⟨_,w9,V,V,EI V,H⟩)⟩
   ·rintro x e σ (⟨a4,w13,rfl,rfl,he,H⟩ | ⟨r',rfl,rfl,hE⟩)
    ·replace h:=jgo h;obtain ⟨e,rfl⟩:=he.ex;refine .tR 6 V H fun b20 σ H => (.LV [(vi f.Period),(vi f.Count),w6,w13] H 2 V ?_);obtain ⟨x6,q6,h⟩:=bs h;refine .Z6W (xs:=[(.agg [(vi f.Period),(vi f.Count),w6,w13])]) (ys:=[(.agg (vs (Form.cs (Form.mk f.Period f.Count a2 a4))))]) H V (.cons (.a (.cons (.v _) (.cons (.v _) (.cons (.s 1 V) (.cons (.s 0 V) .nil))))) .nil) (Z4r q6) V V nofun V fun σ H => (.xV V (.xV V (.sV (vF x6.1) H 3 V fun σ H => (.aV V (.na H fun H => (.ret ?_))))));obtain rfl:=sj h;exact (Ends.H (xs:=[(.agg (vF x6.1)),(vi x6.2)]) (.inr V) H (.agg (cs:=(vF x6.1)) 3 V V V V V V V (.tmp (v:=(vi x6.2)) V .nil)) (.two (.cons (.p V) (.cons (.c (.v _)) .nil))))
    ·replace h:=jret h;obtain rfl:=sj h;exact hE
  ·replace h:=jret h;obtain rfl:=sj h;exact hE
theorem Z6U {f:Form} {i:Int} {r:Bool × (List Span) × Int} (h:Z2n f i = some r):Fn CX 59 [(.agg (vs (Form.cs f))),(vi i)] (.tup [(vb r.1),(vl Span.cs r.2.1),(vi r.2.2)]):=by
 refine Fn.go Try.func59 V fun σ H => ?_;unfold Z2n at h;refine .tR 4 V H fun b1 σ H => (.bxc (cs:=(vF f)) H V V V fun σ H => (.aV V (.a1 .nils V V (.aV V (.na H fun H => (.tR 8 V H fun b2 σ H => (.LV (vF f) H 0 V (.mV V ?_))))))));obtain ⟨x1,q1,h⟩:=bs h;refine .cV (Z1T q1) V (.m1 (.tup [(vl Span.cs x1.1),(vi x1.2)]) V V (.xV V (.xV V (.aV V (.aV V (.na H fun H => (.tR 12 V H fun b3 σ H => (.mV V ?_))))))));refine .nV V (.iV V (.mV V ?_));refine .md H 3 [(21,(vb ((decide ((x1.1.length:Int) > 0)) || (x1.2 != 0)))),(7,(vl Span.cs x1.1)),(8,(vi x1.2))] [] rfl ?_ fun e σ H => ?_
 ·refine .split V V ?_ ?_ <;> intro hc1
  ·refine .ps 2 V (.kT V (.nil ?_));exact ⟨⟨or_T hc1,V,V,U⟩,(H.erase 0).wk (by omega)⟩
  ·refine .mV V (.iV V (.kF V (.nil ?_)));exact ⟨⟨or_F hc1,V,V,U⟩,(H.erase 0).wk (by omega)⟩
 refine .mV V (.mV V (.aV V (.aV V (.aV V (.na H fun H => (.ret ?_))))));obtain rfl:=sj h;exact Ends.eR V
theorem Z5f {f:Form} {m:Int} {n:Int} {r:Form × Int} (h:Zp f m n = some r):Fn CX 28 [(.agg (vs (Form.cs f))),(vi m),(vi n)] (.tup [(.agg (vs (Form.cs r.1))),(vi r.2)]):=by
 refine Fn.go Try.func28 V fun σ H => ?_;unfold Zp at h;refine .tR 3 V H fun b1 σ H => (.bxc (cs:=(vF f)) H V V V fun σ H => (.alc (cs:=[(vi 0),(vi 0),.nils,.nils]) H V V fun σ H => (.aV V (.na H fun H => (.then (.tR 13 V H fun b2 σ H => (.mV V (.cV (Z2R V) V ?_))))))));refine .tV V (.mV V ?_);refine .md H 4 [(27,(vb ((!(Z04 m)) || (!(Z04 n))))),(1,(vi m)),(2,(vi n)),(3,(.ptr (b1 + 0) 4 0)),(6,(.ptr (b1 + 1) 4 0))] [.blk (b1 + 1) 25 [(vi 0),(vi 0),.nils,.nils],.blk (b1 + 0) 25 (vF f)] rfl ?_ fun e σ H => ?_
 ·refine .split V V ?_ ?_ <;> intro hc1
  ·refine .ps 3 V (.kT V (.nil ?_));exact ⟨⟨or_T hc1,V,V,V,V,U⟩,H.wk (by omega)⟩
  ·refine .mV V (.cV (Z2R V) V (.tV V (.kF V (.nil ?_))));exact ⟨⟨or_F hc1,V,V,V,V,U⟩,H.wk (by omega)⟩
 refine .mV V ?_;refine .md H 4 [(32,(vb (((!(Z04 m)) || (!(Z04 n))) || (decide (m > n))))),(1,(vi m)),(2,(vi n)),(3,(.ptr (b1 + 0) 4 0)),(6,(.ptr (b1 + 1) 4 0))] [.blk (b1 + 1) 25 [(vi 0),(vi 0),.nils,.nils],.blk (b1 + 0) 25 (vF f)] rfl ?_ fun e σ H => ?_
 ·refine .split V V ?_ ?_ <;> intro hc2
  ·refine .ps 3 V (.kT V (.nil ?_));exact ⟨⟨or_T hc2,V,V,V,V,U⟩,H.wk (by omega)⟩
  ·refine .mV V (.mV V (.iV V (.kF V (.nil ?_))));exact ⟨⟨or_F hc2,V,V,V,V,U⟩,H.wk (by omega)⟩
 refine .na H fun H => ?_;refine .wh h V ?_ ?_ <;> intro h
 ·refine .tR 3 V H fun b3 σ H => (.bV [(vi 0),(vi 0),.nils,.nils] V (.sV [(vi 0),(vi 0),.nils,.nils] H 0 V fun σ H => (.aV V (.na H fun H => (.ret ?_)))));obtain rfl:=sj h;exact (Ends.H (xs:=[(.agg [(vi 0),(vi 0),.nils,.nils]),(vi 2)]) (.inr V) H (.agg (cs:=[(vi 0),(vi 0),.nils,.nils]) 0 V V V V V V V (.tmp (v:=(vi 2)) V .nil)) (.two (.cons (.a (.cons (.v _) (.cons (.v _) (.cons .n (.cons .n .nil))))) (.cons (.c (.v _)) .nil))))
 refine .skip (.tR 1 V H fun b4 σ H => (.a1 .nils V V (.na H fun H => (.tR 3 V H fun b5 σ H => (.mV V (.aV V (.aV V (.na H fun H => ?_))))))));refine .then ?_;refine .jn h .normal (fun y1 => [(2,(vi n)),(3,(.ptr (b1 + 0) 4 0)),(6,(.ptr (b1 + 1) 4 0)),(8,.nils),(9,(vi y1.1)),(10,(vb y1.2))]) (fun y1 => [.blk (b1 + 1) 25 [(vi 0),(vi 0),.nils,.nils],.blk (b1 + 0) 25 (vF f)]) (fun y1 h => ?_) fun y1 e σ H h => ?_
 ·refine .tR 10 V H fun b6 σ H => (.LV (vF f) H 1 V (.mV V ?_));obtain ⟨x1,q1,h⟩:=bs h;refine .cV (Z6U q1) V (.m1 (.tup [(vb x1.1),(vl Span.cs x1.2.1),(vi x1.2.2)]) V V (.xV V (.xV V (.xV V (.aV V (.aV V (.aV V (.na H fun H => ?_))))))));refine .tR 2 V H fun b7 σ H => (.mV V (.tV V (.na H fun H => ?_)));refine .wh h V ?_ ?_ <;> intro h
  ·refine .ZF 8 V H fun b8 σ H => (.LV (vF f) H 1 V (.mV V ?_));obtain ⟨x2,q2,h⟩:=bs h;refine .cV (Z4s q2) V (.m1 (.tup [(vi x2.1),(vb x2.2)]) V V (.xV V (.xV V (.aV V (.aV V (.na H fun H => ?_))))));obtain rfl:=sj h;exact ⟨V,EI V,H⟩
  refine .skip ?_;obtain rfl:=sj h;exact ⟨V,EI V,H⟩
 refine .then (.inBlock ?_);replace H:=H.pushNil 3 1 true;obtain ⟨y2,hj2,h⟩:=bs h;obtain ⟨n1,hj2⟩:=ZK.1 hj2;refine .mono (Runs.loopO hj2 (fun s2 e σ => ∃ (w3:PV),Z8 e [(2,(vi n)),(3,(.ptr (b1 + 0) 4 0)),(6,(.ptr (b1 + 1) 4 0)),(8,w3),(9,(vi s2.1)),(10,(vb s2.2.1))]∧Hs σ [.sl w3 3 1 (s2.2.2.map (cI .i64)) true,.blk (b1 + 1) 25 [(vi 0),(vi 0),.nils,.nils],.blk (b1 + 0) 25 (vF f)]) (fun y2 x e σ => (∃ a1,∃ (w4:PV),y2 = (.go a1)∧x = .exit 0∧Z8 e [(3,(.ptr (b1 + 0) 4 0)),(6,(.ptr (b1 + 1) 4 0)),(8,w4)]∧Hs σ [.sl w4 3 1 (a1.map (cI .i64)) true,.blk (b1 + 1) 25 [(vi 0),(vi 0),.nils,.nils],.blk (b1 + 0) 25 (vF f)])∨(∃ r',y2 = (.ret r')∧x = .ret∧Ends CX Try.f28.results.toList (.tup [(.agg (vs (Form.cs r'.1))),(vi r'.2)]) x e σ)) ⟨.nils,EI V,H⟩ ?_) ?_
 ·intro s2 e σ hI z h;obtain ⟨w3,he,H⟩:=hI;obtain ⟨e,rfl⟩:=he.ex;unfold Zp.s0 at h;refine .then (.tR 6 V H fun b9 σ H => (.mV V (.mV V ?_)));refine .md H 4 [(55,(vb (s2.2.1 && (decide (s2.1≤n))))),(2,(vi n)),(3,(.ptr (b1 + 0) 4 0)),(6,(.ptr (b1 + 1) 4 0)),(8,w3),(9,(vi s2.1))] [.sl w3 3 1 (s2.2.2.map (cI .i64)) true,.blk (b1 + 1) 25 [(vi 0),(vi 0),.nils,.nils],.blk (b1 + 0) 25 (vF f)] V ?_ fun e σ H => ?_
  ·refine .split V V ?_ ?_ <;> intro hc5
   ·refine .mV V (.mV V (.iV V (.kT V (.nil ?_))));exact ⟨⟨Z10 hc5,V,V,V,V,V,U⟩,H.wk (by omega)⟩
   ·refine .ps 3 V (.kF V (.nil ?_));exact ⟨⟨Z12 hc5,V,V,V,V,V,U⟩,H.wk (by omega)⟩
  refine .na H fun H => ?_;refine .wh h V ?_ ?_ <;> intro h
  ·refine .skip (.then (.inBlock (.tR 5 V H fun b10 σ H => (.m1 w3 V V (.mV V (.Z2K (sz:=1) ([s2.1].map (cI .i64)) H (by omega) (by omega) V V V V V V V V V fun σ H => ?_))))));obtain ⟨x3,q3,h⟩:=bs h;refine .Z28 (c:=(cI .i64)) (v:=w3) (w:=(.buf (b10 + 2) 1 1)) (xs:=s2.2.2) (ys:=[s2.1]) H (by omega) (by omega) 1 V V V (.s 0 V) q3 V V V V V nofun V fun w5 σ H => (.a1 w5 V V (.na H fun H => (.tR 3 V H fun b11 σ H => (.m1 w5 V V (.Z7w (c:=(cI .i64)) (xs:=x3) H 1 V V V nofun V (.iV V (.na H fun H => ?_)))))));refine .wh h V ?_ ?_ <;> intro h
   ·refine .tR 3 V H fun b12 σ H => (.bV [(vi 0),(vi 0),.nils,.nils] V (.sV [(vi 0),(vi 0),.nils,.nils] H 2 V fun σ H => (.aV V (.na H fun H => (.ret ?_)))));obtain rfl:=sj h;exact ⟨nofun,(.inr ⟨_,V,V,(Ends.H (xs:=[(.agg [(vi 0),(vi 0),.nils,.nils]),(vi 3)]) (.inr V) H (.agg (cs:=[(vi 0),(vi 0),.nils,.nils]) 2 V V V V V V V (.tmp (v:=(vi 3)) V .nil)) (.two (.cons (.a (.cons (.v _) (.cons (.v _) (.cons .n (.cons .n .nil))))) (.cons (.c (.v _)) .nil))))⟩)⟩
   refine .skip (.ZF 8 V H fun b13 σ H => (.LV (vF f) H 3 V (.mV V ?_)));obtain ⟨x4,q4,h⟩:=bs h;refine .cV (Z4s q4) V (.m1 (.tup [(vi x4.1),(vb x4.2)]) V V (.xV V (.xV V (.aV V (.aV V (.na H fun H => ?_))))));obtain rfl:=sj h;exact ⟨V,w5,EI V,(H.erase 0)⟩
  refine .exit ?_;obtain rfl:=sj h;exact ⟨nofun,(.inl ⟨_,w3,V,V,EI V,H⟩)⟩
 ·rintro x e σ (⟨a2,w6,rfl,rfl,he,H⟩ | ⟨r',rfl,rfl,hE⟩)
  ·replace h:=jgo h;obtain ⟨e,rfl⟩:=he.ex;refine .tR 1 V H fun b14 σ H => (.alc (cs:=[(vi 0),(vi 0),.nils,.nils]) H V V fun σ H => (.na H fun H => (.then (.tR 3 V H fun b15 σ H => (.m1 w6 V V (.Z7w (c:=(cI .i64)) (xs:=a2) H 1 V V V nofun V (.mV V (.na H fun H => ?_))))))));refine .inBlock ?_;replace H:=H.pushNil 61 2 true;obtain ⟨y3,hj3,h⟩:=bs h;obtain ⟨n2,hj3⟩:=ZK.1 hj3;refine .mono (Runs.loopO hj3 (fun s4 e σ => ∃ (w9:PV),Z8 e [(3,(.ptr (b1 + 0) 4 0)),(6,(.ptr (b1 + 1) 4 0)),(14,(.ptr (b14 + 0) 4 0)),(70,w6),(71,(vi (a2.length:Int))),(72,(vi s4.1))]∧Hs σ [.sl w9 61 2 (s4.2.map Granule.cs) true,.blk (b14 + 0) 25 [(vi 0),(vi 0),.nils,w9],.sl w6 3 1 (a2.map (cI .i64)) true,.blk (b1 + 1) 25 [(vi 0),(vi 0),.nils,.nils],.blk (b1 + 0) 25 (vF f)]) (fun y3 x e σ => (∃ a3,∃ (w10:PV),y3 = (.go a3)∧x = .exit 2∧Z8 e [(6,(.ptr (b1 + 1) 4 0)),(14,(.ptr (b14 + 0) 4 0))]∧Hs σ [.sl w10 61 2 (a3.map Granule.cs) true,.blk (b14 + 0) 25 [(vi 0),(vi 0),.nils,w10],.blk (b1 + 1) 25 [(vi 0),(vi 0),.nils,.nils]])∨(∃ r',y3 = (.ret r')∧x = .ret∧Ends CX Try.f28.results.toList (.tup [(.agg (vs (Form.cs r'.1))),(vi r'.2)]) x e σ)) ⟨.nils,EI V,H⟩ ?_) ?_
   ·intro s4 e σ hI z h;obtain ⟨w9,he,H⟩:=hI;obtain ⟨e,rfl⟩:=he.ex;unfold Zp.s1 at h;refine .tR 1 V H fun b16 σ H => (.iV V (.na H fun H => (.then ?_)));refine .wh h V ?_ ?_ <;> intro h
    ·refine .skip (.then (.inBlock (.tR 3 V H fun b17 σ H => ?_)));obtain ⟨x5,q5,h⟩:=bs h;refine .Z8M H 2 V V V (at?_map q5) V V nofun V ?_;intro id1 hv1;refine .loadS (id:=id1) (j:=0) (w:=(.int .i64 x5)) H 2 V hv1 (by simp) (at?_map q5) V (by simp) V V V nofun V ?_;refine .aV V (.na H fun H => (.tR 10 V H fun b18 σ H => (.LV (vF f) H 4 V (.mV V ?_))));obtain ⟨x6,q6,h⟩:=bs h;refine .cV (Z6U q6) V (.m1 (.tup [(vb x6.1),(vl Span.cs x6.2.1),(vi x6.2.2)]) V V (.xV V (.xV V (.xV V (.aV V (.aV V (.aV V (.na H fun H => ?_))))))));refine .then (.tR 2 V H fun b19 σ H => (.mV V (.iV V (.na H fun H => ?_))));refine .wh h V ?_ ?_ <;> intro h
     ·refine .tR 3 V H fun b20 σ H => (.bV [(vi 0),(vi 0),.nils,.nils] V (.sV [(vi 0),(vi 0),.nils,.nils] H 3 V fun σ H => (.aV V (.na H fun H => (.ret ?_)))));obtain rfl:=sj h;exact ⟨nofun,(.inr ⟨_,V,V,(Ends.H (xs:=[(.agg [(vi 0),(vi 0),.nils,.nils]),(vi 20)]) (.inr V) H (.agg (cs:=[(vi 0),(vi 0),.nils,.nils]) 3 V V V V V V V (.tmp (v:=(vi 20)) V .nil)) (.two (.cons (.a (.cons (.v _) (.cons (.v _) (.cons .n (.cons .n .nil))))) (.cons (.c (.v _)) .nil))))⟩)⟩
     refine .skip (.ZF 9 V H fun b21 σ H => (.fV H 1 V (.lV H 1 V (.mV V (.mV V (.bV [(vi x5),(vl Span.cs x6.2.1)] V (.Z2K (sz:=2) ([(Granule.mk x5 x6.2.1)].map Granule.cs) H (by omega) (by omega) V V V V V V V V V fun σ H => ?_)))))));obtain ⟨x7,q7,h⟩:=bs h;refine .Z28 (c:=Granule.cs) (v:=w9) (w:=(.buf (b21 + 5) 1 2)) (xs:=s4.2) (ys:=[(Granule.mk x5 x6.2.1)]) H (by omega) (by omega) 1 V V V (.s 0 V) q7 V V V V V nofun V fun w11 σ H => (.fV H 2 V (.Z4N (v:=w11) (ys:=[w11]) (cells':=[(vi 0),(vi 0),.nils,w11]) H 2 V V V V (H.slCells (k:=1) V) V V V V nofun fun σ H => (.na H fun H => (.ZF 2 V H fun b22 σ H => (.iV V (.mV V (.na H fun H => ?_)))))));obtain rfl:=sj h;exact ⟨V,w11,EI V,(H.erase 0)⟩
    refine .exit ?_;obtain rfl:=sj h;exact ⟨nofun,(.inl ⟨_,w9,V,V,EI V,((H.erase 4).erase 2)⟩)⟩
   ·rintro x e σ (⟨a4,w12,rfl,rfl,he,H⟩ | ⟨r',rfl,rfl,hE⟩)
    ·replace h:=jgo h;obtain ⟨e,rfl⟩:=he.ex;refine .tR 6 V H fun b23 σ H => (.LV [(vi 0),(vi 0),.nils,w12] H 1 V ?_);obtain ⟨x8,q8,h⟩:=bs h;refine .Z6W (xs:=[(.agg [(vi 0),(vi 0),.nils,w12])]) (ys:=[(.agg (vs (Form.cs (Form.mk 0 0 [] a4))))]) H V (.cons (.a (.cons (.v _) (.cons (.v _) (.cons (.n) (.cons (.s 0 V) .nil))))) .nil) (Z4r q8) V V nofun V fun σ H => (.xV V (.xV V (.sV (vF x8.1) H 2 V fun σ H => (.aV V (.na H fun H => (.ret ?_))))));obtain rfl:=sj h;exact (Ends.H (xs:=[(.agg (vF x8.1)),(vi x8.2)]) (.inr V) H (.agg (cs:=(vF x8.1)) 2 V V V V V V V (.tmp (v:=(vi x8.2)) V .nil)) (.two (.cons (.p V) (.cons (.c (.v _)) .nil))))
    ·replace h:=jret h;obtain rfl:=sj h;exact hE
  ·replace h:=jret h;obtain rfl:=sj h;exact hE
theorem Z7d {r:Form} (h:ZG = r):Fn CX 29 [] (.agg (vs (Form.cs r))):=by
 refine Fn.go Try.func29 V fun σ H => ?_;unfold ZG at h;refine .tR 1 V H fun b1 σ H => (.alc (cs:=[(vi 0),(vi 0),.nils,.nils]) H V V fun σ H => (.na H fun H => (.tR 5 V H fun b2 σ H => (.bV [(vi 0),(vi 4)] V (.Z2K (sz:=2) ([(Span.mk 0 4)].map Span.cs) H (by omega) (by omega) V V V V V V V V V fun σ H => (.Z94 (sz:=1) ([[(Span.mk 0 4)]].map (cL Span.cs)) H (by omega) (by omega) V V (.exp (.c (.s 0 V)) .nil) V V V V V V V nofun fun σ H => (.bV [(vi 7),(vi 1),(.buf (b2 + 2) 1 1),.nils] V (.sV [(vi 7),(vi 1),(.buf (b2 + 2) 1 1),.nils] H 2 V fun σ H => ?_))))))));refine .na H fun H => (.ret ?_);subst h;exact (Ends.H (xs:=[(.agg [(vi 7),(vi 1),(.buf (b2 + 2) 1 1),.nils])]) (.inr V) H (.agg (cs:=[(vi 7),(vi 1),(.buf (b2 + 2) 1 1),.nils]) 2 V V V V V V V .nil) (.one (.a (.cons (.v _) (.cons (.v _) (.cons (.s 0 V) (.cons .n .nil)))))))
theorem Z2O {a:(List Span)} {b:(List Span)} {r:Bool} (h:ZR a b = some r):Fn CX 30 [(vl Span.cs a),(vl Span.cs b)] (vb r):=by
 refine Fn.go Try.func30 V fun σ H => ?_;unfold ZR at h;refine .tR 1 V H fun b1 σ H => (.aV V (.na H fun H => (.then (.tR 5 V H fun b2 σ H => (.mV V (.nV V (.mV V (.nV V ?_))))))));refine .iV V (.na H fun H => ?_);refine .wh h V ?_ ?_ <;> intro h
 ·refine .tR 1 V H fun b3 σ H => (.aV V (.na H fun H => (.ret ?_)));obtain rfl:=sj h;exact Ends.eR V
 refine .skip (.then (.tR 3 V H fun b4 σ H => (.mV V (.nV V (.mV V (.na H fun H => (.inBlock ?_)))))));obtain ⟨y1,hj1,h⟩:=bs h;obtain ⟨n1,hj1⟩:=ZK.1 hj1;refine .mono (Runs.loopO hj1 (fun s1 e σ => Z8 e [(1,(vl Span.cs b)),(12,(vl Span.cs a)),(13,(vi (a.length:Int))),(14,(vi s1))]∧Hs σ []) (fun y1 x e σ => (∃ a1,y1 = (.go a1)∧x = .exit 0∧Z8 e []∧Hs σ [])∨(∃ r',y1 = (.ret r')∧x = .ret∧Ends CX Try.f30.results.toList (vb r') x e σ)) ⟨EI V,H⟩ ?_) ?_
 ·intro s1 e σ hI z h;obtain ⟨he,H⟩:=hI;obtain ⟨e,rfl⟩:=he.ex;unfold ZR.s0 at h;refine .tR 1 V H fun b5 σ H => (.iV V (.na H fun H => (.then ?_)));refine .wh h V ?_ ?_ <;> intro h
  ·refine .skip (.then (.inBlock (.tR 6 V H fun b6 σ H => (.mV V ?_))));obtain ⟨x1,q1,h⟩:=bs h;refine .jV q1 V (.qV [(.int .i64 x1.From),(.int .i64 x1.To)] V (.alc (cs:=[(vi 0),(vi 0)]) H V V fun σ H => (.aV V (.sV [(vi x1.From),(vi x1.To)] H 0 V fun σ H => (.na H fun H => (.then (.Z2L 6 V (by kernel_rfl) H fun b7 σ H B7 => (.mV V ?_))))))));refine .mV V ?_;obtain ⟨x2,q2,h⟩:=bs h;refine .jV q2 V (.qV [(.int .i64 x2.From),(.int .i64 x2.To)] V (.Z9q (cs:=[(vi x1.From),(vi x1.To)]) H 0 V V V V V V V (so (B7 0 _ V _ V)) V (.binA (u:=(.agg [(vi x2.From),(vi x2.To)])) (w:=(.agg [(vi x1.From),(vi x1.To)])) (r:=.bool (!((x2.From == x1.From) && ((x2.To == x1.To) && true)))) V V (by kernel_rfl) (fun _ => ask_eqA V V V V) V (.na H fun H => ?_))));refine .wh h V ?_ ?_ <;> intro h
   ·refine .tR 1 V H fun b8 σ H => (.aV V (.na H fun H => (.ret ?_)));obtain rfl:=sj h;exact ⟨nofun,(.inr ⟨_,V,V,(Ends.H (xs:=[(vb false)]) (.inr V) H (.tmp (v:=(vb false)) V .nil) (.one (.c (.v _))))⟩)⟩
   refine .skip (.ZF 2 V H fun b9 σ H => (.iV V (.mV V (.na H fun H => ?_))));obtain rfl:=sj h;exact ⟨V,EI V,(H.erase 0)⟩
  refine .exit ?_;obtain rfl:=sj h;exact ⟨nofun,(.inl ⟨_,V,V,U,H⟩)⟩
 ·rintro x e σ (⟨a2,rfl,rfl,he,H⟩ | ⟨r',rfl,rfl,hE⟩)
  ·replace h:=jgo h;obtain ⟨e,rfl⟩:=he.ex;refine .tR 1 V H fun b10 σ H => (.aV V (.na H fun H => (.ret ?_)));obtain rfl:=sj h;exact Ends.eR V
  ·replace h:=jret h;obtain rfl:=sj h;exact hE
theorem Z73 {r:Bool} (h:Z1Z = some r):Fn CX 10 [] (vb r):=by
 refine Fn.go Try.func10 V fun σ H => ?_;unfold Z1Z at h;refine .tR 1 V H fun b1 σ H => (.aV V (.na H fun H => (.tR 8 V H fun b2 σ H => (.cV (Z1K V) V ?_))));obtain ⟨x1,q1,h⟩:=bs h;refine .cV (Z2C q1) V (.m1 (.tup [(.agg (vF x1.1)),(vi x1.2)]) V V (.xV V (.xV V (.alc (cs:=[(vi 0),(vi 0),.nils,.nils]) H V V fun σ H => (.sV (vF x1.1) H 0 V fun σ H => (.aV V (.na H fun H => (.tR 8 V H fun b3 σ H => ?_))))))));refine .cV (Z1K V) V ?_;obtain ⟨x2,q2,h⟩:=bs h;refine .cV (ZAg q2) V (.m1 (.tup [(.agg (vF x2.1)),(vi x2.2)]) V V (.xV V (.xV V (.alc (cs:=[(vi 0),(vi 0),.nils,.nils]) H V V fun σ H => (.sV (vF x2.1) H 0 V fun σ H => (.aV V (.na H fun H => (.tR 8 V H fun b4 σ H => ?_))))))));refine .cV (Z1K V) V ?_;obtain ⟨x3,q3,h⟩:=bs h;refine .cV (Z5f q3) V (.m1 (.tup [(.agg (vF x3.1)),(vi x3.2)]) V V (.xV V (.xV V (.alc (cs:=[(vi 0),(vi 0),.nils,.nils]) H V V fun σ H => (.sV (vF x3.1) H 0 V fun σ H => (.aV V (.na H fun H => (.tR 3 V H fun b5 σ H => ?_))))))));refine .cV (Z7d V) V (.alc (cs:=[(vi 0),(vi 0),.nils,.nils]) H V V fun σ H => (.sV (vF ZG) H 0 V fun σ H => (.na H fun H => (.tR 6 V H fun b6 σ H => (.bV [(vi 8),(vi 11)] V (.Z2K (sz:=2) ([(Span.mk 8 11)].map Span.cs) H (by omega) (by omega) V V V V V V V V V fun σ H => (.bV [(vi 1),(.buf (b6 + 1) 1 2)] V (.Z94 (sz:=2) ([(Granule.mk 1 [(Span.mk 8 11)])].map Granule.cs) H (by omega) (by omega) V V (.exp (.a (.cons (.v _) (.cons (.s 0 V) .nil))) .nil) V V V V V V V nofun fun σ H => ?_))))))))
 refine .fV H 2 V (.sV [(vi ZG.Period),(vi ZG.Count),(vl (cL Span.cs) ZG.Core),(.buf (b6 + 3) 1 2)] H 2 V fun σ H => (.na H fun H => (.tR 8 V H fun b7 σ H => (.LV [(vi ZG.Period),(vi ZG.Count),(vl (cL Span.cs) ZG.Core),(.buf (b6 + 3) 1 2)] H 2 V ?_))));obtain ⟨x4,q4,h⟩:=bs h;refine .Z6W (xs:=[(.agg [(vi ZG.Period),(vi ZG.Count),(vl (cL Span.cs) ZG.Core),(.buf (b6 + 3) 1 2)]),(vi 2)]) (ys:=[(.agg (vs (Form.cs (Form.mk ZG.Period ZG.Count ZG.Core [(Granule.mk 1 [(Span.mk 8 11)])])))),(vi 2)]) H V (.cons (.a (.cons (.v _) (.cons (.v _) (.cons (.v _) (.cons (.s 0 V) .nil))))) (.cons (.c (.v _)) .nil)) (Z2C q4) V V nofun V fun σ H => (.m1 (.tup [(.agg (vF x4.1)),(vi x4.2)]) V V (.xV V (.xV V (.alc (cs:=[(vi 0),(vi 0),.nils,.nils]) H V V fun σ H => (.sV (vF x4.1) H 0 V fun σ H => (.aV V (.na H fun H => (.tR 7 V H fun b8 σ H => ?_))))))));refine .LV (vF x2.1) H 5 V ?_;obtain ⟨x5,q5,h⟩:=bs h;refine .cV (Z1T q5) V (.m1 (.tup [(vl Span.cs x5.1),(vi x5.2)]) V V (.xV V (.xV V (.aV V (.aV V (.na H fun H => (.tR 8 V H fun b9 σ H => (.cV (Z1K V) V ?_))))))));obtain ⟨x6,q6,h⟩:=bs h;refine .cV (Z2C q6) V (.m1 (.tup [(.agg (vF x6.1)),(vi x6.2)]) V V (.xV V (.xV V (.alc (cs:=[(vi 0),(vi 0),.nils,.nils]) H V V fun σ H => (.sV (vF x6.1) H 0 V fun σ H => (.aV V (.na H fun H => (.tR 8 V H fun b10 σ H => ?_))))))))
 refine .cV (Z1K V) V ?_;obtain ⟨x7,q7,h⟩:=bs h;refine .cV (Z5f q7) V (.m1 (.tup [(.agg (vF x7.1)),(vi x7.2)]) V V (.xV V (.xV V (.alc (cs:=[(vi 0),(vi 0),.nils,.nils]) H V V fun σ H => (.sV (vF x7.1) H 0 V fun σ H => (.aV V (.na H fun H => (.tR 6 V H fun b11 σ H => ?_))))))));refine .bV [(vi 0),(vi 0)] V (.Z2K (sz:=2) ([(Span.mk 0 0)].map Span.cs) H (by omega) (by omega) V V V V V V V V V fun σ H => (.Z94 (sz:=1) ([[(Span.mk 0 0)]].map (cL Span.cs)) H (by omega) (by omega) V V (.exp (.c (.s 0 V)) .nil) V V V V V V V nofun fun σ H => (.bV [(vi 549755813888),(vi 1),(.buf (b11 + 2) 1 1),.nils] V (.alc (cs:=[(vi 0),(vi 0),.nils,.nils]) H V V fun σ H => (.sV [(vi 549755813888),(vi 1),(.buf (b11 + 2) 1 1),.nils] H 0 V fun σ H => (.na H fun H => (.tR 8 V H fun b12 σ H => (.LV [(vi 549755813888),(vi 1),(.buf (b11 + 2) 1 1),.nils] H 0 V ?_))))))));obtain ⟨x8,q8,h⟩:=bs h;refine .Z6W (xs:=[(.agg [(vi 549755813888),(vi 1),(.buf (b11 + 2) 1 1),.nils]),(vi 4)]) (ys:=[(.agg (vs (Form.cs (Form.mk 549755813888 1 [[(Span.mk 0 0)]] [])))),(vi 4)]) H V (.cons (.a (.cons (.v _) (.cons (.v _) (.cons (.s 1 V) (.cons (.n) .nil))))) (.cons (.c (.v _)) .nil)) (Z2C q8) V V nofun V fun σ H => (.m1 (.tup [(.agg (vF x8.1)),(vi x8.2)]) V V (.xV V (.xV V (.alc (cs:=[(vi 0),(vi 0),.nils,.nils]) H V V fun σ H => (.sV (vF x8.1) H 0 V fun σ H => (.aV V (.na H fun H => (.tR 95 V H fun b13 σ H => ?_))))))))
 refine .mV V (.iV V (.mV V ?_));refine .md H 3 [(74,(vb ((x1.2 == 0) && (x2.2 == 0)))),(1,(.ptr (b2 + 5) 4 0)),(5,(.ptr (b4 + 5) 4 0)),(6,(vi x3.2)),(8,(.ptr (b7 + 5) 4 0)),(9,(vi x4.2)),(10,(vl Span.cs x5.1)),(11,(vi x5.2)),(13,(vi x6.2)),(15,(vi x7.2)),(18,(vi x8.2))] [.blk (b7 + 5) 25 (vF x4.1),.blk (b4 + 5) 25 (vF x3.1),.blk (b2 + 5) 25 (vF x1.1)] V ?_ fun e σ H => ?_
 ·refine .split V V ?_ ?_ <;> intro hc1
  ·refine .mV V (.iV V (.kT V (.nil ?_)));exact ⟨⟨Z10 hc1,V,V,V,V,V,V,V,V,V,V,U⟩,((((((((((H.erase 11).erase 9).erase 8).erase 7).erase 5).erase 4).erase 3).erase 2).erase 1).erase 0).wk (by omega)⟩
  ·refine .ps 2 V (.kF V (.nil ?_));exact ⟨⟨Z12 hc1,V,V,V,V,V,V,V,V,V,V,U⟩,((((((((((H.erase 11).erase 9).erase 8).erase 7).erase 5).erase 4).erase 3).erase 2).erase 1).erase 0).wk (by omega)⟩
 refine .mV V ?_;refine .md H 3 [(78,(vb (((x1.2 == 0) && (x2.2 == 0)) && (x3.2 == 0)))),(1,(.ptr (b2 + 5) 4 0)),(5,(.ptr (b4 + 5) 4 0)),(8,(.ptr (b7 + 5) 4 0)),(9,(vi x4.2)),(10,(vl Span.cs x5.1)),(11,(vi x5.2)),(13,(vi x6.2)),(15,(vi x7.2)),(18,(vi x8.2))] [.blk (b7 + 5) 25 (vF x4.1),.blk (b4 + 5) 25 (vF x3.1),.blk (b2 + 5) 25 (vF x1.1)] V ?_ fun e σ H => ?_
 ·refine .split V V ?_ ?_ <;> intro hc2
  ·refine .mV V (.iV V (.kT V (.nil ?_)));exact ⟨⟨Z10 hc2,V,V,V,V,V,V,V,V,V,U⟩,H.wk (by omega)⟩
  ·refine .ps 2 V (.kF V (.nil ?_));exact ⟨⟨Z12 hc2,V,V,V,V,V,V,V,V,V,U⟩,H.wk (by omega)⟩
 refine .mV V ?_;refine .md H 3 [(82,(vb ((((x1.2 == 0) && (x2.2 == 0)) && (x3.2 == 0)) && (x4.2 == 0)))),(1,(.ptr (b2 + 5) 4 0)),(5,(.ptr (b4 + 5) 4 0)),(8,(.ptr (b7 + 5) 4 0)),(10,(vl Span.cs x5.1)),(11,(vi x5.2)),(13,(vi x6.2)),(15,(vi x7.2)),(18,(vi x8.2))] [.blk (b7 + 5) 25 (vF x4.1),.blk (b4 + 5) 25 (vF x3.1),.blk (b2 + 5) 25 (vF x1.1)] V ?_ fun e σ H => ?_
 ·refine .split V V ?_ ?_ <;> intro hc3
  ·refine .mV V (.iV V (.kT V (.nil ?_)));exact ⟨⟨Z10 hc3,V,V,V,V,V,V,V,V,U⟩,H.wk (by omega)⟩
  ·refine .ps 2 V (.kF V (.nil ?_));exact ⟨⟨Z12 hc3,V,V,V,V,V,V,V,V,U⟩,H.wk (by omega)⟩
 refine .mV V ?_;refine .md H 3 [(86,(vb (((((x1.2 == 0) && (x2.2 == 0)) && (x3.2 == 0)) && (x4.2 == 0)) && (x5.2 == 0)))),(1,(.ptr (b2 + 5) 4 0)),(5,(.ptr (b4 + 5) 4 0)),(8,(.ptr (b7 + 5) 4 0)),(10,(vl Span.cs x5.1)),(13,(vi x6.2)),(15,(vi x7.2)),(18,(vi x8.2))] [.blk (b7 + 5) 25 (vF x4.1),.blk (b4 + 5) 25 (vF x3.1),.blk (b2 + 5) 25 (vF x1.1)] V ?_ fun e σ H => ?_
 ·refine .split V V ?_ ?_ <;> intro hc4
  ·refine .mV V (.iV V (.kT V (.nil ?_)));exact ⟨⟨Z10 hc4,V,V,V,V,V,V,V,U⟩,H.wk (by omega)⟩
  ·refine .ps 2 V (.kF V (.nil ?_));exact ⟨⟨Z12 hc4,V,V,V,V,V,V,V,U⟩,H.wk (by omega)⟩
 refine .mV V ?_;refine .md H 3 [(90,(vb ((((((x1.2 == 0) && (x2.2 == 0)) && (x3.2 == 0)) && (x4.2 == 0)) && (x5.2 == 0)) && (x6.2 == 2)))),(1,(.ptr (b2 + 5) 4 0)),(5,(.ptr (b4 + 5) 4 0)),(8,(.ptr (b7 + 5) 4 0)),(10,(vl Span.cs x5.1)),(15,(vi x7.2)),(18,(vi x8.2))] [.blk (b7 + 5) 25 (vF x4.1),.blk (b4 + 5) 25 (vF x3.1),.blk (b2 + 5) 25 (vF x1.1)] V ?_ fun e σ H => ?_
 ·refine .split V V ?_ ?_ <;> intro hc5
  ·refine .mV V (.iV V (.kT V (.nil ?_)));exact ⟨⟨Z10 hc5,V,V,V,V,V,V,U⟩,H.wk (by omega)⟩
  ·refine .ps 2 V (.kF V (.nil ?_));exact ⟨⟨Z12 hc5,V,V,V,V,V,V,U⟩,H.wk (by omega)⟩
 refine .mV V ?_;refine .md H 3 [(94,(vb (((((((x1.2 == 0) && (x2.2 == 0)) && (x3.2 == 0)) && (x4.2 == 0)) && (x5.2 == 0)) && (x6.2 == 2)) && (x7.2 == 2)))),(1,(.ptr (b2 + 5) 4 0)),(5,(.ptr (b4 + 5) 4 0)),(8,(.ptr (b7 + 5) 4 0)),(10,(vl Span.cs x5.1)),(18,(vi x8.2))] [.blk (b7 + 5) 25 (vF x4.1),.blk (b4 + 5) 25 (vF x3.1),.blk (b2 + 5) 25 (vF x1.1)] V ?_ fun e σ H => ?_
 ·refine .split V V ?_ ?_ <;> intro hc6
  ·refine .mV V (.iV V (.kT V (.nil ?_)));exact ⟨⟨Z10 hc6,V,V,V,V,V,U⟩,H.wk (by omega)⟩
  ·refine .ps 2 V (.kF V (.nil ?_));exact ⟨⟨Z12 hc6,V,V,V,V,V,U⟩,H.wk (by omega)⟩
 refine .mV V ?_;refine .md H 3 [(98,(vb ((((((((x1.2 == 0) && (x2.2 == 0)) && (x3.2 == 0)) && (x4.2 == 0)) && (x5.2 == 0)) && (x6.2 == 2)) && (x7.2 == 2)) && (x8.2 == 20)))),(1,(.ptr (b2 + 5) 4 0)),(5,(.ptr (b4 + 5) 4 0)),(8,(.ptr (b7 + 5) 4 0)),(10,(vl Span.cs x5.1))] [.blk (b7 + 5) 25 (vF x4.1),.blk (b4 + 5) 25 (vF x3.1),.blk (b2 + 5) 25 (vF x1.1)] V ?_ fun e σ H => ?_
 ·refine .split V V ?_ ?_ <;> intro hc7
  ·refine .mV V (.iV V (.kT V (.nil ?_)));exact ⟨⟨Z10 hc7,V,V,V,V,U⟩,H.wk (by omega)⟩
  ·refine .ps 2 V (.kF V (.nil ?_));exact ⟨⟨Z12 hc7,V,V,V,V,U⟩,H.wk (by omega)⟩
 refine .mV V ?_;refine .md H 4 [(103,(vb (((((((((x1.2 == 0) && (x2.2 == 0)) && (x3.2 == 0)) && (x4.2 == 0)) && (x5.2 == 0)) && (x6.2 == 2)) && (x7.2 == 2)) && (x8.2 == 20)) && (x1.1.Period == 7)))),(1,(.ptr (b2 + 5) 4 0)),(5,(.ptr (b4 + 5) 4 0)),(8,(.ptr (b7 + 5) 4 0)),(10,(vl Span.cs x5.1))] [.blk (b7 + 5) 25 (vF x4.1),.blk (b4 + 5) 25 (vF x3.1),.blk (b2 + 5) 25 (vF x1.1)] V ?_ fun e σ H => ?_
 ·refine .split V V ?_ ?_ <;> intro hc8
  ·refine .fV H 2 V (.lV H 2 V (.iV V (.kT V (.nil ?_))));exact ⟨⟨Z10 hc8,V,V,V,V,U⟩,H.wk (by omega)⟩
  ·refine .ps 3 V (.kF V (.nil ?_));exact ⟨⟨Z12 hc8,V,V,V,V,U⟩,H.wk (by omega)⟩
 refine .mV V ?_;refine .md H 4 [(108,(vb ((((((((((x1.2 == 0) && (x2.2 == 0)) && (x3.2 == 0)) && (x4.2 == 0)) && (x5.2 == 0)) && (x6.2 == 2)) && (x7.2 == 2)) && (x8.2 == 20)) && (x1.1.Period == 7)) && (x1.1.Count == 1)))),(1,(.ptr (b2 + 5) 4 0)),(5,(.ptr (b4 + 5) 4 0)),(8,(.ptr (b7 + 5) 4 0)),(10,(vl Span.cs x5.1))] [.blk (b7 + 5) 25 (vF x4.1),.blk (b4 + 5) 25 (vF x3.1),.blk (b2 + 5) 25 (vF x1.1)] V ?_ fun e σ H => ?_
 ·refine .split V V ?_ ?_ <;> intro hc9
  ·refine .fV H 2 V (.lV H 2 V (.iV V (.kT V (.nil ?_))));exact ⟨⟨Z10 hc9,V,V,V,V,U⟩,H.wk (by omega)⟩
  ·refine .ps 3 V (.kF V (.nil ?_));exact ⟨⟨Z12 hc9,V,V,V,V,U⟩,H.wk (by omega)⟩
 refine .mV V ?_;refine .md H 5 [(114,(vb (((((((((((x1.2 == 0) && (x2.2 == 0)) && (x3.2 == 0)) && (x4.2 == 0)) && (x5.2 == 0)) && (x6.2 == 2)) && (x7.2 == 2)) && (x8.2 == 20)) && (x1.1.Period == 7)) && (x1.1.Count == 1)) && ((x1.1.Core.length:Int) == 1)))),(1,(.ptr (b2 + 5) 4 0)),(5,(.ptr (b4 + 5) 4 0)),(8,(.ptr (b7 + 5) 4 0)),(10,(vl Span.cs x5.1))] [.blk (b7 + 5) 25 (vF x4.1),.blk (b4 + 5) 25 (vF x3.1),.blk (b2 + 5) 25 (vF x1.1)] V ?_ fun e σ H => ?_
 ·refine .split V V ?_ ?_ <;> intro hc10
  ·refine .fV H 2 V (.lV H 2 V (.nV V (.iV V (.kT V (.nil ?_)))));exact ⟨⟨Z10 hc10,V,V,V,V,U⟩,H.wk (by omega)⟩
  ·refine .ps 4 V (.kF V (.nil ?_));exact ⟨⟨Z12 hc10,V,V,V,V,U⟩,H.wk (by omega)⟩
 refine .mV V ?_;obtain ⟨y1,hj1,h⟩:=bs h;refine .md H 8 [(123,(vb y1)),(5,(.ptr (b4 + 5) 4 0)),(8,(.ptr (b7 + 5) 4 0)),(10,(vl Span.cs x5.1))] [.blk (b7 + 5) 25 (vF x4.1),.blk (b4 + 5) 25 (vF x3.1)] V ?_ fun e σ H => ?_
 ·refine .sp hj1 V ?_ ?_ <;> intro h
  ·refine .fV H 2 V (.lV H 2 V (.wt V V ?_));obtain ⟨x9,q9,h⟩:=bs h;refine .jV q9 V (.pV V (.bV [(vi 0),(vi 6)] V (.wt V V (.Z2K (sz:=2) ([(Span.mk 0 6)].map Span.cs) H (by omega) (by omega) V V V V V V V V V fun σ H => (.wt V V ?_)))));obtain ⟨x10,q10,h⟩:=bs h;refine .Z6W (xs:=[(vl Span.cs x9),(.buf (b13 + 52) 1 2)]) (ys:=[(vl Span.cs x9),(vl Span.cs [(Span.mk 0 6)])]) H V (.cons (.c (.v _)) (.cons (.c (.s 0 V)) .nil)) (Z2O q10) V V nofun V fun σ H => (.kT V (.nil ?_));obtain rfl:=sj h;exact ⟨EI V,((H.erase 3).erase 0).wk (by omega)⟩
  refine .ps 7 V (.kF V (.nil ?_));obtain rfl:=sj h;exact ⟨EI V,(H.erase 2).wk (by omega)⟩
 refine .mV V ?_;obtain ⟨y2,hj2,h⟩:=bs h;refine .md H 5 [(129,(vb y2)),(5,(.ptr (b4 + 5) 4 0)),(8,(.ptr (b7 + 5) 4 0))] [.blk (b7 + 5) 25 (vF x4.1),.blk (b4 + 5) 25 (vF x3.1)] V ?_ fun e σ H => ?_
 ·refine .sp hj2 V ?_ ?_ <;> intro h
  ·refine .mV V (.bV [(vi (-3)),(vi (-3))] V (.wt V V (.Z2K (sz:=2) ([(Span.mk (-3) (-3))].map Span.cs) H (by omega) (by omega) V V V V V V V V V fun σ H => (.wt V V ?_))));obtain ⟨x11,q11,h⟩:=bs h;refine .Z6W (xs:=[(vl Span.cs x5.1),(.buf (b13 + 58) 1 2)]) (ys:=[(vl Span.cs x5.1),(vl Span.cs [(Span.mk (-3) (-3))])]) H V (.cons (.c (.v _)) (.cons (.c (.s 0 V)) .nil)) (Z2O q11) V V nofun V fun σ H => (.kT V (.nil ?_));obtain rfl:=sj h;exact ⟨EI V,(H.erase 0).wk (by omega)⟩
  refine .ps 4 V (.kF V (.nil ?_));obtain rfl:=sj h;exact ⟨EI V,H.wk (by omega)⟩
 refine .mV V ?_;refine .md H 5 [(135,(vb (y2 && ((x3.1.Odd.length:Int) == 3)))),(5,(.ptr (b4 + 5) 4 0)),(8,(.ptr (b7 + 5) 4 0))] [.blk (b7 + 5) 25 (vF x4.1),.blk (b4 + 5) 25 (vF x3.1)] V ?_ fun e σ H => ?_
 ·refine .split V V ?_ ?_ <;> intro hc13
  ·refine .fV H 1 V (.lV H 1 V (.nV V (.iV V (.kT V (.nil ?_)))));exact ⟨⟨Z10 hc13,V,V,U⟩,H.wk (by omega)⟩
  ·refine .ps 4 V (.kF V (.nil ?_));exact ⟨⟨Z12 hc13,V,V,U⟩,H.wk (by omega)⟩
 refine .mV V ?_;obtain ⟨y3,hj3,h⟩:=bs h;refine .md H 7 [(143,(vb y3)),(5,(.ptr (b4 + 5) 4 0)),(8,(.ptr (b7 + 5) 4 0))] [.blk (b7 + 5) 25 (vF x4.1),.blk (b4 + 5) 25 (vF x3.1)] V ?_ fun e σ H => ?_
 ·refine .sp hj3 V ?_ ?_ <;> intro h
  ·refine .fV H 1 V (.lV H 1 V (.wt V V ?_));obtain ⟨x12,q12,h⟩:=bs h;refine .jV q12 V (.wt V V (.Z09 V V V V (.pV V (.iV V (.kT V (.nil ?_))))));obtain rfl:=sj h;exact ⟨EI V,H.wk (by omega)⟩
  refine .ps 6 V (.kF V (.nil ?_));obtain rfl:=sj h;exact ⟨EI V,H.wk (by omega)⟩
 refine .mV V ?_;refine .md H 4 [(148,(vb (y3 && (x3.1.Count == 0)))),(8,(.ptr (b7 + 5) 4 0))] [.blk (b7 + 5) 25 (vF x4.1)] V ?_ fun e σ H => ?_
 ·refine .split V V ?_ ?_ <;> intro hc15
  ·refine .fV H 1 V (.lV H 1 V (.iV V (.kT V (.nil ?_))));exact ⟨⟨Z10 hc15,V,U⟩,(H.erase 1).wk (by omega)⟩
  ·refine .ps 3 V (.kF V (.nil ?_));exact ⟨⟨Z12 hc15,V,U⟩,(H.erase 1).wk (by omega)⟩
 refine .mV V ?_;refine .md H 5 [(154,(vb ((y3 && (x3.1.Count == 0)) && ((x4.1.Odd.length:Int) == 1)))),(8,(.ptr (b7 + 5) 4 0))] [.blk (b7 + 5) 25 (vF x4.1)] V ?_ fun e σ H => ?_
 ·refine .split V V ?_ ?_ <;> intro hc16
  ·refine .fV H 0 V (.lV H 0 V (.nV V (.iV V (.kT V (.nil ?_)))));exact ⟨⟨Z10 hc16,V,U⟩,H.wk (by omega)⟩
  ·refine .ps 4 V (.kF V (.nil ?_));exact ⟨⟨Z12 hc16,V,U⟩,H.wk (by omega)⟩
 refine .mV V ?_;obtain ⟨y4,hj4,h⟩:=bs h;refine .md H 7 [(162,(vb y4))] [] V ?_ fun e σ H => ?_
 ·refine .sp hj4 V ?_ ?_ <;> intro h
  ·refine .fV H 0 V (.lV H 0 V (.wt V V ?_));obtain ⟨x13,q13,h⟩:=bs h;refine .jV q13 V (.wt V V (.Z09 V V V V (.pV V (.iV V (.kT V (.nil ?_))))));obtain rfl:=sj h;exact ⟨EI V,(H.erase 0).wk (by omega)⟩
  refine .ps 6 V (.kF V (.nil ?_));obtain rfl:=sj h;exact ⟨EI V,(H.erase 0).wk (by omega)⟩
 refine .aV V (.na H fun H => (.ret ?_));obtain rfl:=sj h;exact Ends.eR V
theorem Z2s {r:Bool} (h:Z0T = r):Fn CX 10 [] (vb r):=by
 subst h;exact Z73 Z6P
theorem Z6R {a:Form} {b:Form} {r:Bool} (h:ZD a b = some r):Fn CX 12 [(.agg (vs (Form.cs a))),(.agg (vs (Form.cs b)))] (vb r):=by
 refine Fn.go Try.func12 V fun σ H => ?_;unfold ZD at h;refine .tR 3 V H fun b1 σ H => (.bxc (cs:=(vF a)) H V V V fun σ H => (.bxc (cs:=(vF b)) H V V V fun σ H => (.aV V (.na H fun H => (.then (.tR 30 V H fun b2 σ H => (.fV H 1 V (.lV H 1 V ?_))))))));refine .fV H 0 V (.lV H 0 V (.iV V (.mV V ?_)));refine .md H 6 [(20,(vb ((a.Period != b.Period) || (a.Count != b.Count)))),(2,(.ptr (b1 + 0) 4 0)),(3,(.ptr (b1 + 1) 4 0))] [.blk (b1 + 1) 25 (vF b),.blk (b1 + 0) 25 (vF a)] rfl ?_ fun e σ H => ?_
 ·refine .split V V ?_ ?_ <;> intro hc1
  ·refine .ps 5 V (.kT V (.nil ?_));exact ⟨⟨or_T hc1,V,V,U⟩,H.wk (by omega)⟩
  ·refine .fV H 1 V (.lV H 1 V (.fV H 0 V (.lV H 0 V (.iV V (.kF V (.nil ?_))))));exact ⟨⟨or_F hc1,V,V,U⟩,H.wk (by omega)⟩
 refine .mV V ?_;refine .md H 8 [(29,(vb (((a.Period != b.Period) || (a.Count != b.Count)) || ((a.Core.length:Int) != (b.Core.length:Int))))),(2,(.ptr (b1 + 0) 4 0)),(3,(.ptr (b1 + 1) 4 0))] [.blk (b1 + 1) 25 (vF b),.blk (b1 + 0) 25 (vF a)] rfl ?_ fun e σ H => ?_
 ·refine .split V V ?_ ?_ <;> intro hc2
  ·refine .ps 7 V (.kT V (.nil ?_));exact ⟨⟨or_T hc2,V,V,U⟩,H.wk (by omega)⟩
  ·refine .fV H 1 V (.lV H 1 V (.nV V (.fV H 0 V (.lV H 0 V (.nV V (.iV V (.kF V (.nil ?_))))))));exact ⟨⟨or_F hc2,V,V,U⟩,H.wk (by omega)⟩
 refine .mV V ?_;refine .md H 8 [(38,(vb ((((a.Period != b.Period) || (a.Count != b.Count)) || ((a.Core.length:Int) != (b.Core.length:Int))) || ((a.Odd.length:Int) != (b.Odd.length:Int))))),(2,(.ptr (b1 + 0) 4 0)),(3,(.ptr (b1 + 1) 4 0))] [.blk (b1 + 1) 25 (vF b),.blk (b1 + 0) 25 (vF a)] rfl ?_ fun e σ H => ?_
 ·refine .split V V ?_ ?_ <;> intro hc3
  ·refine .ps 7 V (.kT V (.nil ?_));exact ⟨⟨or_T hc3,V,V,U⟩,H.wk (by omega)⟩
  ·refine .fV H 1 V (.lV H 1 V (.nV V (.fV H 0 V (.lV H 0 V (.nV V (.iV V (.kF V (.nil ?_))))))));exact ⟨⟨or_F hc3,V,V,U⟩,H.wk (by omega)⟩
 refine .na H fun H => ?_;refine .wh h V ?_ ?_ <;> intro h
 ·refine .tR 1 V H fun b3 σ H => (.aV V (.na H fun H => (.ret ?_)));obtain rfl:=sj h;exact Ends.eR V
 refine .skip (.then (.tR 4 V H fun b4 σ H => (.fV H 1 V (.lV H 1 V (.nV V (.mV V (.na H fun H => (.inBlock ?_))))))));obtain ⟨y1,hj1,h⟩:=bs h;obtain ⟨n1,hj1⟩:=ZK.1 hj1;refine .mono (Runs.loopO hj1 (fun s1 e σ => Z8 e [(2,(.ptr (b1 + 0) 4 0)),(3,(.ptr (b1 + 1) 4 0)),(40,(vl (cL Span.cs) a.Core)),(41,(vi (a.Core.length:Int))),(42,(vi s1))]∧Hs σ [.blk (b1 + 1) 25 (vF b),.blk (b1 + 0) 25 (vF a)]) (fun y1 x e σ => (∃ a1,y1 = (.go a1)∧x = .exit 0∧Z8 e [(2,(.ptr (b1 + 0) 4 0)),(3,(.ptr (b1 + 1) 4 0))]∧Hs σ [.blk (b1 + 1) 25 (vF b),.blk (b1 + 0) 25 (vF a)])∨(∃ r',y1 = (.ret r')∧x = .ret∧Ends CX Try.f12.results.toList (vb r') x e σ)) ⟨EI V,H⟩ ?_) ?_
 ·intro s1 e σ hI z h;obtain ⟨he,H⟩:=hI;obtain ⟨e,rfl⟩:=he.ex;unfold ZD.s0 at h;refine .tR 1 V H fun b5 σ H => (.iV V (.na H fun H => (.then ?_)));refine .wh h V ?_ ?_ <;> intro h
  ·refine .skip (.then (.inBlock (.tR 5 V H fun b6 σ H => (.mV V ?_))));obtain ⟨x1,q1,h⟩:=bs h;refine .jV q1 V (.pV V (.aV V (.aV V (.na H fun H => (.tR 8 V H fun b7 σ H => (.mV V (.fV H 0 V (.lV H 0 V ?_))))))));refine .mV V ?_;obtain ⟨x2,q2,h⟩:=bs h;refine .jV q2 V (.pV V ?_);obtain ⟨x3,q3,h⟩:=bs h;refine .cV (Z2O q3) V (.tV V (.na H fun H => ?_));refine .wh h V ?_ ?_ <;> intro h
   ·refine .tR 1 V H fun b8 σ H => (.aV V (.na H fun H => (.ret ?_)));obtain rfl:=sj h;exact ⟨nofun,(.inr ⟨_,V,V,(Ends.H (xs:=[(vb false)]) (.inr V) H (.tmp (v:=(vb false)) V .nil) (.one (.c (.v _))))⟩)⟩
   refine .skip (.ZF 2 V H fun b9 σ H => (.iV V (.mV V (.na H fun H => ?_))));obtain rfl:=sj h;exact ⟨V,EI V,H⟩
  refine .exit ?_;obtain rfl:=sj h;exact ⟨nofun,(.inl ⟨_,V,V,EI V,H⟩)⟩
 ·rintro x e σ (⟨a2,rfl,rfl,he,H⟩ | ⟨r',rfl,rfl,hE⟩)
  ·replace h:=jgo h;obtain ⟨e,rfl⟩:=he.ex;refine .then (.tR 4 V H fun b10 σ H => (.fV H 1 V (.lV H 1 V (.nV V (.mV V (.na H fun H => (.inBlock ?_)))))));obtain ⟨y2,hj2,h⟩:=bs h;obtain ⟨n2,hj2⟩:=ZK.1 hj2;refine .mono (Runs.loopO hj2 (fun s2 e σ => Z8 e [(3,(.ptr (b1 + 1) 4 0)),(57,(vl Granule.cs a.Odd)),(58,(vi (a.Odd.length:Int))),(59,(vi s2))]∧Hs σ [.blk (b1 + 1) 25 (vF b)]) (fun y2 x e σ => (∃ a3,y2 = (.go a3)∧x = .exit 2∧Z8 e []∧Hs σ [])∨(∃ r',y2 = (.ret r')∧x = .ret∧Ends CX Try.f12.results.toList (vb r') x e σ)) ⟨EI V,(H.erase 1)⟩ ?_) ?_
   ·intro s2 e σ hI z h;obtain ⟨he,H⟩:=hI;obtain ⟨e,rfl⟩:=he.ex;unfold ZD.s1 at h;refine .tR 1 V H fun b11 σ H => (.iV V (.na H fun H => (.then ?_)));refine .wh h V ?_ ?_ <;> intro h
    ·refine .skip (.then (.inBlock (.tR 6 V H fun b12 σ H => (.mV V ?_))));obtain ⟨x4,q4,h⟩:=bs h;refine .jV q4 V (.qV [(.int .i64 x4.Index),(.sl (x4.Ticks.map Span.cs))] V (.alc (cs:=[(vi 0),.nils]) H V V fun σ H => (.aV V (.sV [(vi x4.Index),(vl Span.cs x4.Ticks)] H 0 V fun σ H => (.na H fun H => (.then (.Z2L 21 V (by kernel_rfl) H fun b13 σ H B13 => (.ZX H 0 V V V V V (so (B13 0 _ V _ V)) V ?_))))))));refine .ld (vi x4.Index) H 0 V V V V V (so (B13 0 _ V _ V)) V (.ZX H 1 V V V V V (so (B13 1 _ V _ V)) V (.ld (vl Granule.cs b.Odd) H 1 V V V V V (so (B13 1 _ V _ V)) V (.mV V ?_)));obtain ⟨x5,q5,h⟩:=bs h;refine .jV q5 V (.Z09 V V V V (.pV V (.iV V (.mV V ?_))));obtain ⟨y3,hj3,h⟩:=bs h;refine .md H 11 [(84,(vb y3)),(3,(.ptr (b1 + 1) 4 0)),(57,(vl Granule.cs a.Odd)),(58,(vi (a.Odd.length:Int))),(59,(vi s2))] [.blk (b1 + 1) 25 (vF b)] V ?_ fun e σ H => ?_
     ·refine .sp hj3 V ?_ ?_ <;> intro h
      ·refine .ps 10 V (.kT V (.nil ?_));obtain rfl:=sj h;exact ⟨EI V,(H.erase 0).wk (by omega)⟩
      refine .wt V V (.ZX H 0 V V V V V (so (B13 0 _ V _ V)) V (.wt V V (.ld (vl Span.cs x4.Ticks) H 0 V V V V V (so (B13 0 _ V _ V)) V (.wt V V (.ZX H 1 V V V V V (so (B13 1 _ V _ V)) V (.wt V V (.ld (vl Granule.cs b.Odd) H 1 V V V V V (so (B13 1 _ V _ V)) V (.mV V ?_))))))));refine .wt V V ?_;obtain ⟨x6,q6,h⟩:=bs h;refine .jV q6 V (.wt V V (.Z09 V V V V (.pV V (.wt V V ?_))));obtain ⟨x7,q7,h⟩:=bs h;refine .cV (Z2O q7) V (.tV V (.kF V (.nil ?_)));obtain rfl:=sj h;exact ⟨EI V,(H.erase 0).wk (by omega)⟩
     refine .na H fun H => ?_;refine .wh h V ?_ ?_ <;> intro h
     ·refine .tR 1 V H fun b14 σ H => (.aV V (.na H fun H => (.ret ?_)));obtain rfl:=sj h;exact ⟨nofun,(.inr ⟨_,V,V,(Ends.H (xs:=[(vb false)]) (.inr V) H (.tmp (v:=(vb false)) V .nil) (.one (.c (.v _))))⟩)⟩
     refine .skip (.ZF 2 V H fun b15 σ H => (.iV V (.mV V (.na H fun H => ?_))));obtain rfl:=sj h;exact ⟨V,EI V,H⟩
    refine .exit ?_;obtain rfl:=sj h;exact ⟨nofun,(.inl ⟨_,V,V,U,(H.erase 0)⟩)⟩
   ·rintro x e σ (⟨a4,rfl,rfl,he,H⟩ | ⟨r',rfl,rfl,hE⟩)
    ·replace h:=jgo h;obtain ⟨e,rfl⟩:=he.ex;refine .tR 1 V H fun b16 σ H => (.aV V (.na H fun H => (.ret ?_)));obtain rfl:=sj h;exact Ends.eR V
    ·replace h:=jret h;obtain rfl:=sj h;exact hE
  ·replace h:=jret h;obtain rfl:=sj h;exact hE
theorem Z1y {l:(List Span)} {in':Bool} {r:Int} (h:ZV l in' = some r):Fn CX 104 [(vl Span.cs l),(vb in')] (vi r):=by
 refine Fn.go Try.func104 V fun σ H => ?_;unfold ZV at h;refine .tR 1 V H fun b1 σ H => (.aV V (.na H fun H => (.then (.tR 1 V H fun b2 σ H => (.mV V (.na H fun H => ?_))))));refine .wh h V ?_ ?_ <;> intro h
 ·refine .tR 6 V H fun b3 σ H => (.mV V ?_);obtain ⟨x1,q1,h⟩:=bs h;refine .jV q1 V (.Z09 V V V V (.pV V (.iV V (.aV V (.na H fun H => (.ret ?_))))));obtain rfl:=sj h;exact Ends.eR V
 refine .skip (.tR 5 V H fun b4 σ H => (.mV V ?_));obtain ⟨x2,q2,h⟩:=bs h;refine .jV q2 V (.Z09 V V V V (.pV V (.aV V (.na H fun H => (.ret ?_)))));obtain rfl:=sj h;exact Ends.eR V
end Go.Dn

namespace Go.Dn
open Go Go.Proofs
set_option maxRecDepth 100000
set_option maxHeartbeats 4000000
theorem Z7i {l:(List Span)} {in':Bool} {at':Int} {r:(List Span) × Bool} (h:Z0Y l in' at' = some r):Fn CX 106 [(vl Span.cs l),(vb in'),(vi at')] (.tup [(vl Span.cs r.1),(vb r.2)]):=by
 refine Fn.go Try.func106 V fun σ H => ?_;unfold Z0Y at h;refine .tR 2 V H fun b1 σ H => (.a1 .nils V V (.aV V (.na H fun H => (.then (.inBlock (.tR 16 V H fun b2 σ H => (.mV V (.nV V ?_))))))));refine .iV V (.mV V ?_);refine .md H 2 [(14,(vb ((decide ((l.length:Int) > 0)) && in'))),(0,(vl Span.cs l)),(1,(vb in')),(2,(vi at'))] [] V ?_ fun e σ H => ?_
 ·refine .split V V ?_ ?_ <;> intro hc1
  ·refine .mV V (.kT V (.nil ?_));exact ⟨⟨Z10 hc1,V,V,V,U⟩,H.wk (by omega)⟩
  ·refine .ps 1 V (.kF V (.nil ?_));exact ⟨⟨Z12 hc1,V,V,V,U⟩,H.wk (by omega)⟩
 refine .mV V ?_;obtain ⟨y1,hj1,h⟩:=bs h;refine .md H 8 [(23,(vb y1)),(0,(vl Span.cs l)),(1,(vb in')),(2,(vi at'))] [] V ?_ fun e σ H => ?_
 ·refine .sp hj1 V ?_ ?_ <;> intro h
  ·refine .mV V (.wt V V ?_);obtain ⟨x1,q1,h⟩:=bs h;refine .jV q1 V (.wt V V (.Z09 V V V V (.pV V (.iV V (.mV V (.iV V (.kT V (.nil ?_))))))));obtain rfl:=sj h;exact ⟨EI V,H.wk (by omega)⟩
  refine .ps 7 V (.kF V (.nil ?_));obtain rfl:=sj h;exact ⟨EI V,H.wk (by omega)⟩
 refine .aV V (.na H fun H => ?_);refine .wh h V ?_ ?_ <;> intro h
 ·refine .tR 4 V H fun b3 σ H => (.mV V ?_);obtain ⟨x2,q2,h⟩:=bs h;refine .sliceP10 (c:=Span.cs) q2 V V V V (fun _ => V) V (.aV V (.aV V (.na H fun H => (.ret ?_))));obtain rfl:=sj h;exact Ends.eR V
 refine .tR 16 V H fun b4 σ H => (.mV V (.nV V (.iV V (.mV V ?_))));refine .md H 3 [(33,(vb ((decide ((l.length:Int) > 0)) && (!in')))),(0,(vl Span.cs l)),(1,(vb in')),(2,(vi at'))] [] V ?_ fun e σ H => ?_
 ·refine .split V V ?_ ?_ <;> intro hc4
  ·refine .mV V (.tV V (.kT V (.nil ?_)));exact ⟨⟨Z10 hc4,V,V,V,U⟩,H.wk (by omega)⟩
  ·refine .ps 2 V (.kF V (.nil ?_));exact ⟨⟨Z12 hc4,V,V,V,U⟩,H.wk (by omega)⟩
 refine .mV V ?_;obtain ⟨y2,hj2,h⟩:=bs h;refine .md H 7 [(41,(vb y2)),(0,(vl Span.cs l)),(1,(vb in'))] [] V ?_ fun e σ H => ?_
 ·refine .sp hj2 V ?_ ?_ <;> intro h
  ·refine .mV V (.wt V V ?_);obtain ⟨x3,q3,h⟩:=bs h;refine .jV q3 V (.wt V V (.Z09 V V V V (.pV V (.mV V (.iV V (.kT V (.nil ?_)))))));obtain rfl:=sj h;exact ⟨EI V,H.wk (by omega)⟩
  refine .ps 6 V (.kF V (.nil ?_));obtain rfl:=sj h;exact ⟨EI V,H.wk (by omega)⟩
 refine .aV V (.na H fun H => ?_);refine .wh h V ?_ ?_ <;> intro h
 ·refine .tR 3 V H fun b5 σ H => (.mV V (.aV V (.aV V (.na H fun H => (.ret ?_)))));obtain rfl:=sj h;exact Ends.eR V
 refine .skip (.tR 4 V H fun b6 σ H => (.mV V (.mV V (.aV V (.aV V (.na H fun H => (.ret ?_)))))));obtain rfl:=sj h;exact Ends.eR V
theorem Z8K {S:Type} {gp1':S→(List Span)} {pp1':S→(List Span)→S} {gp2':S→(List Span)} {pp2':S→(List Span)→S} {C:S→List Res→Prop} {yield:S→spans_border→Option (S × Bool)} {yid:Nat} {id0':Nat} (hst0:∀ s L,C s L→∃ k,L[k]? = some (.blk id0' 37 [(vl Span.cs (gp1' s))])∧∀ v,C (pp1' s v) (L.set k (.blk id0' 37 [(vl Span.cs v)]))) {id1':Nat} (hst1:∀ s L,C s L→∃ k,L[k]? = some (.blk id1' 37 [(vl Span.cs (gp2' s))])∧∀ v,C (pp2' s v) (L.set k (.blk id1' 37 [(vl Span.cs v)]))) {id2':Nat} (hy:YldH CX yid C (fun z => [(.agg (vs (spans_border.cs z)))]) yield) (hcap:∀ s L,C s L→Sub [.blk id2' 129 [(.v (.fn 104))]] L) {st' r:S} (h:Z0F gp1' pp1' gp2' pp2' yield st' = some r):ItF CX 105 [(.yld yid),(.ptr id0' 1 0),(.ptr id1' 1 0),(.ptr id2' 1 0)] C st' r:=by
 refine ItF.of Try.func105 V V V V V V V V ?_;intro σ L hC H;have hc0:=hcap _ _ hC;obtain ⟨k0',hk0',hp0'⟩:=hst0 _ _ hC;obtain ⟨k1',hk1',hp1'⟩:=hst1 _ _ hC;obtain ⟨k2',hk2',hc0⟩:=hc0.inv;unfold Z0F at h;refine .tR 2 V H fun b1 σ H => (.aV V (.aV V (.na H fun H => (.inBlock ?_))));obtain ⟨y1,hj1,h⟩:=bs h;obtain ⟨n1,hj1⟩:=ZK.1 hj1;refine .mono (Runs.loopO hj1 (fun s1 e σ => ∃ (L:List Res),C s1.2.2 L∧Z8 e [(0,(.yld yid)),(1,(.ptr id0' 1 0)),(2,(.ptr id1' 1 0)),(3,(.ptr id2' 1 0)),(5,(vb s1.1)),(6,(vb s1.2.1))]∧Hs σ (L)) (fun y1 x e σ => (∃ a1,∃ (L:List Res),C a1 L∧y1 = (.go a1)∧x = .exit 0∧Z8 e []∧Hs σ (L))∨(∃ r',y1 = (.ret r')∧x = .ret∧EndsI C r' x e σ)) ⟨_,hC,EI V,H⟩ ?_) ?_
 ·intro s1 e σ hI z h;obtain ⟨L,hC,he,H⟩:=hI;obtain ⟨e,rfl⟩:=he.ex;have hc0:=hcap _ _ hC;obtain ⟨k0',hk0',hp0'⟩:=hst0 _ _ hC;obtain ⟨k1',hk1',hp1'⟩:=hst1 _ _ hC;obtain ⟨k2',hk2',hc0⟩:=hc0.inv;unfold Z0F.s0 at h;refine .then (.tR 6 V H fun b2 σ H => (.ld (vl Span.cs (gp1' s1.2.2)) H k0' hk0' V V V V nofun V (.nV V (.ld (vl Span.cs (gp2' s1.2.2)) H k1' hk1' V V V V nofun V (.nV V (.iV V (.iV V (.na H fun H => ?_))))))));refine .wh h V ?_ ?_ <;> intro h
  ·refine .skip (.inBlock ?_);obtain ⟨y2,hj2,h⟩:=bs h;refine .mono (Q:=fun x e σ => (∃ a2,∃ (L:List Res),C a2.2.2 L∧y2 = (.go a2)∧x = .normal∧Z8 e [(0,(.yld yid)),(1,(.ptr id0' 1 0)),(2,(.ptr id1' 1 0)),(3,(.ptr id2' 1 0)),(5,(vb a2.1)),(6,(vb a2.2.1))]∧Hs σ (L))∨(∃ r',y2 = (.ret r')∧x = .ret∧EndsI C r' x e σ)) ?_ ?_
   ·replace h:=hj2;refine .tR 1 V H fun b3 σ H => (.aV V (.na H fun H => (.then ?_)));obtain ⟨y3,hj3,h⟩:=bs h;refine .mono (Q:=fun x e σ => ∃ (L:List Res),C s1.2.2 L∧x = .normal∧Z8 e [(0,(.yld yid)),(1,(.ptr id0' 1 0)),(2,(.ptr id1' 1 0)),(3,(.ptr id2' 1 0)),(5,(vb s1.1)),(6,(vb s1.2.1)),(7,(vi y3))]∧Hs σ (L)) ?_ ?_
    ·replace h:=hj3;refine .inBlock ?_;obtain ⟨y4,hj4,h⟩:=bs h;refine .mono (Q:=fun x e σ => ∃ (L:List Res),C s1.2.2 L∧x = .normal∧Z8 e [(0,(.yld yid)),(1,(.ptr id0' 1 0)),(2,(.ptr id1' 1 0)),(3,(.ptr id2' 1 0)),(5,(vb s1.1)),(6,(vb s1.2.1)),(7,(vi y4))]∧Hs σ (L)) ?_ ?_
     ·replace h:=hj4;refine .tR 4 V H fun b4 σ H => (.ld (vl Span.cs (gp1' s1.2.2)) H k0' hk0' V V V V nofun V (.nV V (.iV V (.aV V (.na H fun H => ?_)))));refine .wh h V ?_ ?_ <;> intro h
      ·refine .ZF 5 V H fun b5 σ H => (.ld (.v (.fn 104)) H k2' hk2' V V V V nofun V (.ld (vl Span.cs (gp2' s1.2.2)) H k1' hk1' V V V V nofun V (.mV V ?_)));obtain ⟨x1,q1,h⟩:=bs h;refine .callF (ys:=[(vl Span.cs (gp2' s1.2.2)),(vb s1.2.1)]) (r:=(vi x1)) V V (Z1y q1) V (.aV V (.na H fun H => ?_));obtain rfl:=sj h;exact ⟨_,hC,V,EI V,H⟩
      refine .tR 4 V H fun b6 σ H => (.ld (vl Span.cs (gp2' s1.2.2)) H k1' hk1' V V V V nofun V (.nV V (.iV V (.aV V (.na H fun H => ?_)))));refine .wh h V ?_ ?_ <;> intro h
      ·refine .ZF 5 V H fun b7 σ H => (.ld (.v (.fn 104)) H k2' hk2' V V V V nofun V (.ld (vl Span.cs (gp1' s1.2.2)) H k0' hk0' V V V V nofun V (.mV V ?_)));obtain ⟨x2,q2,h⟩:=bs h;refine .callF (ys:=[(vl Span.cs (gp1' s1.2.2)),(vb s1.1)]) (r:=(vi x2)) V V (Z1y q2) V (.aV V (.na H fun H => ?_));obtain rfl:=sj h;exact ⟨_,hC,V,EI V,H⟩
      refine .Z2L 10 V (by kernel_rfl) H fun b8 σ H B8 => (.ld (.v (.fn 104)) H k2' hk2' V V V V (so (B8 (k2' + 0) _ hk2' _ V)) V (.ld (vl Span.cs (gp1' s1.2.2)) H k0' hk0' V V V V (so (B8 (k0' + 0) _ hk0' _ V)) V (.mV V ?_)));obtain ⟨x3,q3,h⟩:=bs h;refine .callF (ys:=[(vl Span.cs (gp1' s1.2.2)),(vb s1.1)]) (r:=(vi x3)) V V (Z1y q3) V (.ld (.v (.fn 104)) H k2' hk2' V V V V (so (B8 (k2' + 0) _ hk2' _ V)) V (.ld (vl Span.cs (gp2' s1.2.2)) H k1' hk1' V V V V (so (B8 (k1' + 0) _ hk1' _ V)) V (.mV V ?_)));obtain ⟨x4,q4,h⟩:=bs h;refine .callF (ys:=[(vl Span.cs (gp2' s1.2.2)),(vb s1.2.1)]) (r:=(vi x4)) V V (Z1y q4) V (.min2 V V V (.aV V (.na H fun H => ?_)));obtain rfl:=sj h;exact ⟨_,hC,V,EI V,H⟩
     ·rintro x e σ ⟨L,hC,rfl,he,H⟩;obtain ⟨e,rfl⟩:=he.ex;have hc0:=hcap _ _ hC;obtain ⟨k0',hk0',hp0'⟩:=hst0 _ _ hC;obtain ⟨k1',hk1',hp1'⟩:=hst1 _ _ hC;obtain ⟨k2',hk2',hc0⟩:=hc0.inv;obtain rfl:=sj h;exact ⟨_,hC,V,EI V,H⟩
    ·rintro x e σ ⟨L,hC,rfl,he,H⟩;obtain ⟨e,rfl⟩:=he.ex;have hc0:=hcap _ _ hC;obtain ⟨k0',hk0',hp0'⟩:=hst0 _ _ hC;obtain ⟨k1',hk1',hp1'⟩:=hst1 _ _ hC;obtain ⟨k2',hk2',hc0⟩:=hc0.inv;refine .tR 9 V H fun b9 σ H => (.ld (vl Span.cs (gp1' s1.2.2)) H k0' hk0' V V V V nofun V (.mV V (.mV V ?_)));obtain ⟨x5,q5,h⟩:=bs h;refine .cV (Z7i q5) V (.m1 (.tup [(vl Span.cs x5.1),(vb x5.2)]) V V (.xV V (.xV V (.storeC (s':=pp1' s1.2.2 x5.1) (cells':=[(vl Span.cs x5.1)]) H k0' hk0' (hp0' _) V V V V V V V V V fun σ L hC H => ?_))));have hc0:=hcap _ _ hC;obtain ⟨k0',hk0',hp0'⟩:=hst0 _ _ hC;obtain ⟨k1',hk1',hp1'⟩:=hst1 _ _ hC;obtain ⟨k2',hk2',hc0⟩:=hc0.inv;refine .aV V (.na H fun H => (.tR 9 V H fun b10 σ H => (.ld (vl Span.cs (gp2' (pp1' s1.2.2 x5.1))) H k1' hk1' V V V V nofun V (.mV V (.mV V ?_)))));obtain ⟨x6,q6,h⟩:=bs h;refine .cV (Z7i q6) V (.m1 (.tup [(vl Span.cs x6.1),(vb x6.2)]) V V (.xV V (.xV V (.storeC (s':=pp2' (pp1' s1.2.2 x5.1) x6.1) (cells':=[(vl Span.cs x6.1)]) H k1' hk1' (hp1' _) V V V V V V V V V fun σ L hC H => ?_))));have hc0:=hcap _ _ hC;obtain ⟨k0',hk0',hp0'⟩:=hst0 _ _ hC;obtain ⟨k1',hk1',hp1'⟩:=hst1 _ _ hC;obtain ⟨k2',hk2',hc0⟩:=hc0.inv;refine .aV V (.na H fun H => (.tR 7 V H fun b11 σ H => (.m1 (.yld yid) V V (.mV V (.mV V (.mV V (.bV [(vi y3),(vb x5.2),(vb x6.2)] V ?_)))))));obtain ⟨x7,q7,h⟩:=bs h;refine .callY (z:=(spans_border.mk y3 x5.2 x6.2)) (s':=x7.1) (b:=x7.2) [] H hC V V hy q7 V V fun σ L hC H => ?_
     have hc0:=hcap _ _ hC;obtain ⟨k0',hk0',hp0'⟩:=hst0 _ _ hC;obtain ⟨k1',hk1',hp1'⟩:=hst1 _ _ hC;obtain ⟨k2',hk2',hc0⟩:=hc0.inv;refine .tV V (.na H fun H => ?_);refine .wh h V ?_ ?_ <;> intro h
     ·refine .ret ?_;obtain rfl:=sj h;exact (.inr ⟨_,V,V,(EndsI.H (.inr V) H 0 V hC)⟩)
     refine .skip ?_;obtain rfl:=sj h;exact (.inl ⟨_,_,hC,V,V,EI V,H⟩)
   ·rintro x e σ (⟨a3,L,hC,rfl,rfl,he,H⟩ | ⟨r',rfl,rfl,hE⟩)
    ·replace h:=jgo h;obtain ⟨e,rfl⟩:=he.ex;have hc0:=hcap _ _ hC;obtain ⟨k0',hk0',hp0'⟩:=hst0 _ _ hC;obtain ⟨k1',hk1',hp1'⟩:=hst1 _ _ hC;obtain ⟨k2',hk2',hc0⟩:=hc0.inv;obtain rfl:=sj h;exact ⟨V,_,hC,EI V,H⟩
    ·replace h:=jret h;obtain rfl:=sj h;exact ⟨nofun,(.inr ⟨_,V,V,hE⟩)⟩
  refine .exit ?_;obtain rfl:=sj h;exact ⟨nofun,(.inl ⟨_,_,hC,V,V,U,H⟩)⟩
 ·rintro x e σ (⟨a4,L,hC,rfl,rfl,he,H⟩ | ⟨r',rfl,rfl,hE⟩)
  ·replace h:=jgo h;obtain ⟨e,rfl⟩:=he.ex;have hc0:=hcap _ _ hC;obtain ⟨k0',hk0',hp0'⟩:=hst0 _ _ hC;obtain ⟨k1',hk1',hp1'⟩:=hst1 _ _ hC;obtain ⟨k2',hk2',hc0⟩:=hc0.inv;obtain rfl:=sj h;exact (EndsI.H (.inl V) H 0 V hC)
  ·replace h:=jret h;obtain rfl:=sj h;exact hE
theorem spans_kept_fn {a:(List Span)} {b:(List Span)} {yes:Bool→Bool→Option Bool} {C:List Res} {cv0:PV} (hs0:cv0.one = true) (hp0:cv0.pure = true→C = []) (hf0:∀ z0 z1 y,yes z0 z1 = some y→CloH CX cv0 [(vb z0),(vb z1)] (vb y) C) {r:(List Span)} (h:Z1L a b yes = some r):FnH CX 73 [(vl Span.cs a),(vl Span.cs b),cv0] (vl Span.cs r) C:=by
 refine FnH.of Try.func73 V V V V (Z2q V (Z2q V (Z2q (Z3D hs0) all_nil))) V (fun h => hp0 (Z3T h 2 V)) ?_;intro σ L hC H;unfold Z1L at h;refine .tR 2 V H fun b1 σ H => (.bxc (cs:=[cv0]) H V (one_cells hs0) V fun σ H => (.a1 .nils V V (.na H fun H => (.tR 1 V H fun b2 σ H => (.alc (cs:=[.nils]) H V V fun σ H => (.na H fun H => (.tR 4 V H fun b3 σ H => (.alc (cs:=[(vb false)]) H V V fun σ H => ?_))))))));refine .alc (cs:=[(vi 0)]) H V V fun σ H => (.sV [(vb false)] H 1 V fun σ H => (.sV [(vi 0)] H 0 V fun σ H => (.na H fun H => (.then (.tR 3 V H fun b4 σ H => (.mV V (.mV V ?_)))))));obtain ⟨y1,hj1,h⟩:=bs h;refine .callI (PostA:=fun r A => ∃ (id1:Nat) (id2:Nat) (id3:Nat),r = (.clo 105 [] [(.ptr id3 1 0),(.ptr id2 1 0),(.ptr id1 1 0)])∧A = [.blk id1 129 [(.v (.fn 104))],.blk id2 37 [(vl Span.cs b)],.blk id3 37 [(vl Span.cs a)],.blk (b3 + 1) 3 [(vi 0)],.blk (b3 + 0) 4 [(vb false)],.blk (b2 + 0) 37 [.nils],.blk (b1 + 0) 105 [cv0]]) (cv:=(.v (.fn 95))) (ys:=[(vl Span.cs a),(vl Span.cs b)]) (L:=L) [.blk (b3 + 1) 3 [(vi 0)],.blk (b3 + 0) 4 [(vb false)],.blk (b2 + 0) 37 [.nils],.blk (b1 + 0) 105 [cv0]] H V V (fun T1 hT H => callI_of Try.func95 V (fun _ => V) V V V V ?_) nofun V ?_
 ·replace h:=hj1;have hC:=hT _ hC;refine .tR 3 V H fun b5 σ H => (.bxc (cs:=[(vl Span.cs a)]) H V V V fun σ H => (.bxc (cs:=[(vl Span.cs b)]) H V V V fun σ H => (.aV V (.na H fun H => (.tR 2 V H fun b6 σ H => (.alc (cs:=[(.v .nilf)]) H V V fun σ H => (.sV [(.v (.fn 104))] H 0 V fun σ H => (.na H fun H => ?_))))))));refine .tR 2 V H fun b7 σ H => (.Z7T (fs:=[]) (cs:=[(.ptr (b5 + 0) 1 0),(.ptr (b5 + 1) 1 0),(.ptr (b6 + 0) 1 0)]) V V V V (.a1 (.clo 105 [] [(.ptr (b5 + 0) 1 0),(.ptr (b5 + 1) 1 0),(.ptr (b6 + 0) 1 0)]) V V (.na H fun H => (.ret ?_))));obtain rfl:=sj h;exact ⟨.inr V,_,Z3u H (.tmp (v:=(.clo 105 [] [(.ptr (b5 + 0) 1 0),(.ptr (b5 + 1) 1 0),(.ptr (b6 + 0) 1 0)])) V .nil),_,⟨(b6 + 0),(b5 + 1),(b5 + 0),V,V⟩,H⟩
 ·rintro _ _ σ ⟨id1,id2,id3,rfl,rfl⟩ H;refine .na H fun H => (.inBlock ?_);replace H:=H.pushNil 59 2 true;obtain ⟨y2,hj2,h⟩:=bs h;refine .rangeH H rfl (fun s2 M => ∃ (w3:PV),M = (.sl w3 59 2 (s2.1.map Span.cs) true :: .blk id1 129 [(.v (.fn 104))] :: .blk id2 37 [(vl Span.cs s2.2.1)] :: .blk id3 37 [(vl Span.cs s2.2.2.1)] :: .blk (b3 + 1) 3 [(vi s2.2.2.2.1)] :: .blk (b3 + 0) 4 [(vb s2.2.2.2.2)] :: .blk (b2 + 0) 37 [w3] :: .blk (b1 + 0) 105 [cv0] :: L)) (fun z2 => [(.agg (vs (spans_border.cs z2)))]) (Z1L.b0 yes) (fun p => none) rfl (fun p => ⟨_,rfl⟩) (r:=y2) ⟨.nils,rfl⟩ (fun _ => rfl) (fun _ => rfl) ?_ (fun id hy => Z8K (fun s L hL => by obtain ⟨M,hM,rfl⟩:=hL;obtain ⟨w3,rfl⟩:=hM;exact ⟨4,rfl,fun v => ⟨_,⟨w3,rfl⟩,rfl⟩⟩) (fun s L hL => by obtain ⟨M,hM,rfl⟩:=hL;obtain ⟨w3,rfl⟩:=hM;exact ⟨3,rfl,fun v => ⟨_,⟨w3,rfl⟩,rfl⟩⟩) hy (fun s L hL => by obtain ⟨M,hM,rfl⟩:=hL;obtain ⟨_,rfl⟩:=hM;exact (.cons 2 rfl .nil)) hj2) ?_
  ·intro R0 R1 s2 z2 s' p h σ M O hM H;obtain ⟨w3,rfl⟩:=hM;unfold Z1L.b0 at h;have hC:=hC.more (M:=O);refine .env [(15,(.agg [(vi z2.at'),(vb z2.a),(vb z2.b)])),(5,(.ptr (b1 + 0) 1 0)),(6,.nils),(7,(.ptr (b2 + 0) 1 0)),(8,(.ptr (b3 + 0) 1 0)),(9,(.ptr (b3 + 1) 1 0)),(14,(.clo 105 [] [(.ptr id3 1 0),(.ptr id2 1 0),(.ptr id1 1 0)]))] (EI V) fun e => (.ZF 2 V H fun b8 σ H => (.alc (cs:=[(vi 0),(vb false),(vb false)]) H V V fun σ H => (.sV [(vi z2.at'),(vb z2.a),(vb z2.b)] H 0 V fun σ H => (.na H fun H => ?_))));replace H:Has σ _ _ (R0 :: .blk (b8 + 0) 125 [(vi z2.at'),(vb z2.a),(vb z2.b)] :: .sl w3 59 2 (s2.1.map Span.cs) true :: .blk id1 129 [(.v (.fn 104))] :: .blk id2 37 [(vl Span.cs s2.2.1)] :: .blk id3 37 [(vl Span.cs s2.2.2.1)] :: .blk (b3 + 1) 3 [(vi s2.2.2.2.1)] :: .blk (b3 + 0) 4 [(vb s2.2.2.2.2)] :: .blk (b2 + 0) 37 [w3] :: .blk (b1 + 0) 105 [cv0] :: (L ++ O)):=Has.perm (L:=([.blk (b8 + 0) 125 [(vi z2.at'),(vb z2.a),(vb z2.b)]] : List Res) ++ (R0 :: .sl w3 59 2 (s2.1.map Span.cs) true :: .blk id1 129 [(.v (.fn 104))] :: .blk id2 37 [(vl Span.cs s2.2.1)] :: .blk id3 37 [(vl Span.cs s2.2.2.1)] :: .blk (b3 + 1) 3 [(vi s2.2.2.2.1)] :: .blk (b3 + 0) 4 [(vb s2.2.2.2.2)] :: .blk (b2 + 0) 37 [w3] :: .blk (b1 + 0) 105 [cv0] :: (L ++ O))) H List.perm_middle;refine ⟨V,(.blk (b8 + 0) 125 [(vi z2.at'),(vb z2.a),(vb z2.b)] :: .sl w3 59 2 (s2.1.map Span.cs) true :: .blk id1 129 [(.v (.fn 104))] :: .blk id2 37 [(vl Span.cs s2.2.1)] :: .blk id3 37 [(vl Span.cs s2.2.2.1)] :: .blk (b3 + 1) 3 [(vi s2.2.2.2.1)] :: .blk (b3 + 0) 4 [(vb s2.2.2.2.2)] :: .blk (b2 + 0) 37 [w3] :: .blk (b1 + 0) 105 [cv0] :: L),H,?_⟩;intro σ H
   obtain ⟨y3,hj3,h⟩:=bs h;refine .mono (Q:=fun x e σ => ∃ (w4:PV),x = .normal∧Z8 e []∧Hs σ (R1 :: .sl w4 59 2 (y3.1.map Span.cs) true :: .blk id1 129 [(.v (.fn 104))] :: .blk id2 37 [(vl Span.cs s2.2.1)] :: .blk id3 37 [(vl Span.cs s2.2.2.1)] :: .blk (b3 + 1) 3 [(vi y3.2.1)] :: .blk (b3 + 0) 4 [(vb y3.2.2)] :: .blk (b2 + 0) 37 [w4] :: .blk (b1 + 0) 105 [cv0] :: (L ++ O))) ?_ ?_
   ·replace h:=hj3;refine .inBlock ?_;obtain ⟨y4,hj4,h⟩:=bs h;refine .mono (Q:=fun x e σ => ∃ (w5:PV),x = .normal∧Z8 e []∧Hs σ (R1 :: .sl w5 59 2 (y4.1.map Span.cs) true :: .blk id1 129 [(.v (.fn 104))] :: .blk id2 37 [(vl Span.cs s2.2.1)] :: .blk id3 37 [(vl Span.cs s2.2.2.1)] :: .blk (b3 + 1) 3 [(vi y4.2.1)] :: .blk (b3 + 0) 4 [(vb y4.2.2)] :: .blk (b2 + 0) 37 [w5] :: .blk (b1 + 0) 105 [cv0] :: (L ++ O))) ?_ ?_
    ·replace h:=hj4;refine .tR 7 V H fun b9 σ H => (.lV H 9 V (.fV H 1 V (.lV H 1 V (.fV H 1 V (.lV H 1 V ?_)))));obtain ⟨x1,q1,h⟩:=bs h;refine .callV (cv:=cv0) (ys:=[(vb z2.a),(vb z2.b)]) (r:=(vb x1)) H V V (hf0 z2.a z2.b _ q1) hC.push.push.push.push.push.push.push.push.push.push nofun V fun σ H => (.aV V (.na H fun H => (.then ?_)));obtain ⟨y5,hj5,h⟩:=bs h;refine .mono (Q:=fun x e σ => ∃ (w6:PV),x = .normal∧Z8 e [(8,(.ptr (b3 + 0) 1 0)),(11,(vb x1))]∧Hs σ (R1 :: .sl w6 59 2 (y5.1.map Span.cs) true :: .blk id1 129 [(.v (.fn 104))] :: .blk id2 37 [(vl Span.cs s2.2.1)] :: .blk id3 37 [(vl Span.cs s2.2.2.1)] :: .blk (b3 + 1) 3 [(vi y5.2)] :: .blk (b3 + 0) 4 [(vb s2.2.2.2.2)] :: .blk (b2 + 0) 37 [w6] :: .blk (b1 + 0) 105 [cv0] :: (L ++ O))) ?_ ?_
     ·replace h:=hj5;refine .inBlock ?_;obtain ⟨y6,hj6,h⟩:=bs h;refine .mono (Q:=fun x e σ => ∃ (w7:PV),x = .normal∧Z8 e [(8,(.ptr (b3 + 0) 1 0)),(11,(vb x1))]∧Hs σ (R1 :: .sl w7 59 2 (y6.1.map Span.cs) true :: .blk id1 129 [(.v (.fn 104))] :: .blk id2 37 [(vl Span.cs s2.2.1)] :: .blk id3 37 [(vl Span.cs s2.2.2.1)] :: .blk (b3 + 1) 3 [(vi y6.2)] :: .blk (b3 + 0) 4 [(vb s2.2.2.2.2)] :: .blk (b2 + 0) 37 [w7] :: .blk (b1 + 0) 105 [cv0] :: (L ++ O))) ?_ ?_
      ·replace h:=hj6;refine .tR 6 V H fun b10 σ H => (.mV V (.mV V ?_));refine .md H 3 [(27,(vb (x1 && (!s2.2.2.2.2)))),(7,(.ptr (b2 + 0) 1 0)),(8,(.ptr (b3 + 0) 1 0)),(9,(.ptr (b3 + 1) 1 0)),(10,(.ptr (b8 + 0) 3 0)),(11,(vb x1))] (R1 :: .blk (b8 + 0) 125 [(vi z2.at'),(vb z2.a),(vb z2.b)] :: .sl w3 59 2 (s2.1.map Span.cs) true :: .blk id1 129 [(.v (.fn 104))] :: .blk id2 37 [(vl Span.cs s2.2.1)] :: .blk id3 37 [(vl Span.cs s2.2.2.1)] :: .blk (b3 + 1) 3 [(vi s2.2.2.2.1)] :: .blk (b3 + 0) 4 [(vb s2.2.2.2.2)] :: .blk (b2 + 0) 37 [w3] :: .blk (b1 + 0) 105 [cv0] :: (L ++ O)) V ?_ fun e σ H => ?_
       ·refine .split V V ?_ ?_ <;> intro hc1
        ·refine .lV H 7 V (.tV V (.kT V (.nil ?_)));exact ⟨⟨Z10 hc1,V,V,V,V,V,U⟩,H.wk (by omega)⟩
        ·refine .ps 2 V (.kF V (.nil ?_));exact ⟨⟨Z12 hc1,V,V,V,V,V,U⟩,H.wk (by omega)⟩
       refine .aV V (.na H fun H => ?_);refine .wh h V ?_ ?_ <;> intro h
       ·refine .ZF 3 V H fun b11 σ H => (.fV H 1 V (.lV H 1 V (.sV [(vi z2.at')] H 6 V fun σ H => (.na H fun H => ?_))));obtain rfl:=sj h;exact ⟨w3,V,EI V,(H.erase 1)⟩
       refine .tR 6 V H fun b12 σ H => (.mV V (.tV V (.mV V ?_)));refine .md H 2 [(35,(vb ((!x1) && s2.2.2.2.2))),(7,(.ptr (b2 + 0) 1 0)),(8,(.ptr (b3 + 0) 1 0)),(9,(.ptr (b3 + 1) 1 0)),(10,(.ptr (b8 + 0) 3 0)),(11,(vb x1))] (R1 :: .blk (b8 + 0) 125 [(vi z2.at'),(vb z2.a),(vb z2.b)] :: .sl w3 59 2 (s2.1.map Span.cs) true :: .blk id1 129 [(.v (.fn 104))] :: .blk id2 37 [(vl Span.cs s2.2.1)] :: .blk id3 37 [(vl Span.cs s2.2.2.1)] :: .blk (b3 + 1) 3 [(vi s2.2.2.2.1)] :: .blk (b3 + 0) 4 [(vb s2.2.2.2.2)] :: .blk (b2 + 0) 37 [w3] :: .blk (b1 + 0) 105 [cv0] :: (L ++ O)) V ?_ fun e σ H => ?_
       ·refine .split V V ?_ ?_ <;> intro hc3
        ·refine .lV H 7 V (.kT V (.nil ?_));exact ⟨⟨Z10 hc3,V,V,V,V,V,U⟩,H.wk (by omega)⟩
        ·refine .ps 1 V (.kF V (.nil ?_));exact ⟨⟨Z12 hc3,V,V,V,V,V,U⟩,H.wk (by omega)⟩
       refine .aV V (.na H fun H => ?_);refine .wh h V ?_ ?_ <;> intro h
       ·refine .ZF 9 V H fun b13 σ H => (.lV H 8 V (.lV H 6 V (.fV H 1 V (.lV H 1 V (.iV V (.bV [(vi s2.2.2.2.1),(vi (w64 (z2.at' - 1)))] V (.Z2K (sz:=2) ([(Span.mk s2.2.2.2.1 (w64 (z2.at' - 1)))].map Span.cs) H (by omega) (by omega) V V V V V V V V V fun σ H => ?_)))))));obtain ⟨x2,q2,h⟩:=bs h;refine .Z28 (c:=Span.cs) (v:=w3) (w:=(.buf (b13 + 6) 1 2)) (xs:=s2.1) (ys:=[(Span.mk s2.2.2.2.1 (w64 (z2.at' - 1)))]) H (by omega) (by omega) 3 V V V (.s 0 V) q2 V V V V V nofun V fun w8 σ H => (.Z4N (v:=w8) (ys:=[w8]) (cells':=[w8]) H 9 V V V V (H.slCells (k:=3) V) V V V V nofun fun σ H => (.na H fun H => ?_));obtain rfl:=sj h;exact ⟨w8,V,EI V,((H.erase 2).erase 0)⟩
       refine .skip ?_;obtain rfl:=sj h;exact ⟨w3,V,EI V,(H.erase 1)⟩
      ·rintro x e σ ⟨w9,rfl,he,H⟩;obtain ⟨e,rfl⟩:=he.ex;obtain rfl:=sj h;exact ⟨w9,V,EI V,H⟩
     ·rintro x e σ ⟨w10,rfl,he,H⟩;obtain ⟨e,rfl⟩:=he.ex;refine .ZF 2 V H fun b14 σ H => (.mV V (.sV [(vb x1)] H 6 V fun σ H => (.na H fun H => ?_)));obtain rfl:=sj h;exact ⟨w10,V,U,H⟩
    ·rintro x e σ ⟨w11,rfl,he,H⟩;obtain ⟨e,rfl⟩:=he.ex;obtain rfl:=sj h;exact ⟨w11,V,U,H⟩
   ·rintro x e σ ⟨w12,rfl,he,H⟩;obtain ⟨e,rfl⟩:=he.ex;obtain ⟨rfl,rfl⟩:=Prod.mk.inj (Option.some.inj h);exact ⟨⟨V,(iff_of_true V V)⟩,_,⟨w12,V⟩,H⟩
  ·intro x σ M hx hM H;obtain ⟨w13,rfl⟩:=hM;cases hx;refine .tR 2 V H fun b15 σ H => (.lV H 6 V (.a1 w13 V V (.na H fun H => (.ret ?_))));obtain rfl:=sj h;exact (EndsH.H (xs:=[w13]) (.inr V) H (.tmp (v:=w13) V .nil) (.one (.c (.s 0 V))) 8 V)
theorem ZA1 {a:Bool} {b:Bool} {r:Bool} (h:Z2H a b = r):Fn CX 74 [(vb a),(vb b)] (vb r):=by
 refine Fn.go Try.func74 V fun σ H => ?_;unfold Z2H at h;refine .tR 1 V H fun b1 σ H => (.aV V (.na H fun H => (.tR 5 V H fun b2 σ H => (.mV V (.mV V ?_)))));refine .md H 2 [(8,(vb (a || b)))] [] rfl ?_ fun e σ H => ?_
 ·refine .split V V ?_ ?_ <;> intro hc1
  ·refine .ps 1 V (.kT V (.nil ?_));exact ⟨⟨or_T hc1,U⟩,H.wk (by omega)⟩
  ·refine .mV V (.kF V (.nil ?_));exact ⟨⟨or_F hc1,U⟩,H.wk (by omega)⟩
 refine .aV V (.na H fun H => (.ret ?_));subst h;exact Ends.eR V
theorem ZBY {a:(List Span)} {b:(List Span)} {r:(List Span)} (h:Z46 a b = some r):Fn CX 46 [(vl Span.cs a),(vl Span.cs b)] (vl Span.cs r):=by
 refine Fn.go Try.func46 V fun σ H => ?_;unfold Z46 at h;refine .tR 1 V H fun b1 σ H => (.a1 .nils V V (.na H fun H => (.tR 4 V H fun b2 σ H => (.mV V (.mV V ?_)))));obtain ⟨x1,q1,h⟩:=bs h;refine .Z7h (ys:=[(vl Span.cs a),(vl Span.cs b),(.v (.fn 74))]) (r:=(vl Span.cs x1)) H V (spans_kept_fn (C:=[]) V (fun _ => V) (fun z0 z1 y hz => (CloH.fn (Fn.toH (ZA1 (Option.some.inj hz)) _))) q1) .nil nofun V fun σ H => (.aV V (.na H fun H => (.ret ?_)));obtain rfl:=sj h;exact Ends.eR V
theorem Z7Z {f:Form} {from':Int} {many:Int} {r:(List Span) × Bool} (h:Z05 f from' many = some r):Fn CX 18 [(.agg (vs (Form.cs f))),(vi from'),(vi many)] (.tup [(vl Span.cs r.1),(vb r.2)]):=by
 refine Fn.go Try.func18 V fun σ H => ?_;unfold Z05 at h;refine .tR 3 V H fun b1 σ H => (.bxc (cs:=(vF f)) H V V V fun σ H => (.a1 .nils V V (.aV V (.na H fun H => (.tR 1 V H fun b2 σ H => (.a1 .nils V V (.na H fun H => (.then ?_))))))));refine .tR 2 V H fun b3 σ H => (.mV V (.aV V (.na H fun H => (.inBlock ?_))));obtain ⟨y1,hj1,h⟩:=bs h;obtain ⟨n1,hj1⟩:=ZK.1 hj1;refine .mono (Runs.loopO hj1 (fun s1 e σ => ∃ (w3:PV),RO w3 (s1.1.map Span.cs)∧Z8 e [(1,(vi from')),(2,(vi many)),(3,(.ptr (b1 + 0) 4 0)),(8,w3),(9,(vi s1.2))]∧Hs σ [.blk (b1 + 0) 25 (vF f)]) (fun y1 x e σ => (∃ a1,∃ (w4:PV),RO w4 (a1.map Span.cs)∧y1 = (.go a1)∧x = .exit 0∧Z8 e [(8,w4)]∧Hs σ [])∨(∃ r',y1 = (.ret r')∧x = .ret∧Ends CX Try.f18.results.toList (.tup [(vl Span.cs r'.1),(vb r'.2)]) x e σ)) ⟨.nils,.inl ⟨V,V⟩,EI V,H⟩ ?_) ?_
 ·intro s1 e σ hI z h;obtain ⟨w3,hw3,he,H⟩:=hI;obtain ⟨e,rfl⟩:=he.ex;unfold Z05.s0 at h;refine .then (.tR 5 V H fun b4 σ H => (.mV V (.mV V (.mV V (.iV V (.iV V (.na H fun H => ?_)))))));refine .wh h V ?_ ?_ <;> intro h
  ·refine .skip (.then (.inBlock (.tR 8 V H fun b5 σ H => (.LV (vF f) H 0 V (.mV V ?_)))));obtain ⟨x1,q1,h⟩:=bs h;refine .cV (Z1T q1) V (.m1 (.tup [(vl Span.cs x1.1),(vi x1.2)]) V V (.xV V (.xV V (.aV V (.aV V (.na H fun H => (.then (.tR 2 V H fun b6 σ H => ?_))))))));refine .mV V (.iV V (.na H fun H => ?_));refine .wh h V ?_ ?_ <;> intro h
   ·refine .tR 2 V H fun b7 σ H => (.a1 .nils V V (.aV V (.na H fun H => (.ret ?_))));obtain rfl:=sj h;exact ⟨nofun,(.inr ⟨_,V,V,(Ends.H (xs:=[.nils,(vb false)]) (.inr V) H (.tmp (v:=.nils) V (.tmp (v:=(vb false)) V .nil)) (.two (.cons (.c .n) (.cons (.c (.v _)) .nil))))⟩)⟩
   refine .skip (.ZF 4 V H fun b8 σ H => (.m1 w3 V V (.mV V ?_)));obtain ⟨x2,q2,h⟩:=bs h;refine .Z6W (xs:=[w3,(vl Span.cs x1.1)]) (ys:=[(vl Span.cs s1.1),(vl Span.cs x1.1)]) H V (.cons (.c (.ro hw3)) (.cons (.c (.v _)) .nil)) (ZBY q2) V V nofun V fun σ H => (.aV V (.na H fun H => (.ZF 3 V H fun b9 σ H => (.mV V (.iV V (.aV V (.na H fun H => ?_)))))));obtain rfl:=sj h;exact ⟨V,(vl Span.cs x2),.inr V,EI V,H⟩
  refine .exit ?_;obtain rfl:=sj h;exact ⟨nofun,(.inl ⟨_,w3,hw3,V,V,EI V,(H.erase 0)⟩)⟩
 ·rintro x e σ (⟨a2,w5,hw5,rfl,rfl,he,H⟩ | ⟨r',rfl,rfl,hE⟩)
  ·replace h:=jgo h;obtain ⟨e,rfl⟩:=he.ex;refine .tR 3 V H fun b10 σ H => (.m1 w5 V V (.a1 w5 V V (.aV V (.na H fun H => (.ret ?_)))));obtain rfl:=sj h;exact (Ends.H (xs:=[w5,(vb true)]) (.inr V) H (.tmp (v:=w5) V (.tmp (v:=(vb true)) V .nil)) (.two (.cons (.c (.ro hw5)) (.cons (.c (.v _)) .nil))))
  ·replace h:=jret h;obtain rfl:=sj h;exact hE
theorem Z1m {s1':(List (List Span))} {s2':(List (List Span))} {eq:(List Span)→(List Span)→Option Bool} {C:List Res} {cv0:PV} (hs0:cv0.one = true) (hp0:cv0.pure = true→C = []) (hf0:∀ z0 z1 y,eq z0 z1 = some y→CloH CX cv0 [(vl Span.cs z0),(vl Span.cs z1)] (vb y) C) {r:Bool} (h:Z9 s1' s2' eq = some r):FnH CX 70 [(vl (cL Span.cs) s1'),(vl (cL Span.cs) s2'),cv0] (vb r) C:=by
 refine FnH.of Try.func70 V V V V (Z2q V (Z2q V (Z2q (Z3D hs0) all_nil))) V (fun h => hp0 (Z3T h 2 V)) ?_;intro σ L hC H;unfold Z9 at h;refine .tR 1 V H fun b1 σ H => (.aV V (.na H fun H => (.then (.tR 5 V H fun b2 σ H => (.mV V (.nV V (.mV V (.nV V ?_))))))));refine .iV V (.na H fun H => ?_);refine .wh h V ?_ ?_ <;> intro h
 ·refine .tR 1 V H fun b3 σ H => (.aV V (.na H fun H => (.ret ?_)));obtain rfl:=sj h;exact (EndsH.H (xs:=[(vb false)]) (.inr V) H (.tmp (v:=(vb false)) V .nil) (.one (.c (.v _))) 0 V)
 refine .skip (.then (.tR 3 V H fun b4 σ H => (.mV V (.nV V (.mV V (.na H fun H => (.inBlock ?_)))))));obtain ⟨y1,hj1,h⟩:=bs h;obtain ⟨n1,hj1⟩:=ZK.1 hj1;refine .mono (Runs.loopO hj1 (fun s1 e σ => Z8 e [(1,(vl (cL Span.cs) s2')),(2,cv0),(15,(vl (cL Span.cs) s1')),(16,(vi (s1'.length:Int))),(17,(vi s1))]∧Hs σ (L)) (fun y1 x e σ => (∃ a1,y1 = (.go a1)∧x = .exit 0∧Z8 e []∧Hs σ (L))∨(∃ r',y1 = (.ret r')∧x = .ret∧EndsH CX Try.f70.results.toList (vb r') L x e σ)) ⟨EI V,H⟩ ?_) ?_
 ·intro s1 e σ hI z h;obtain ⟨he,H⟩:=hI;obtain ⟨e,rfl⟩:=he.ex;unfold Z9.s0 at h;refine .tR 1 V H fun b5 σ H => (.iV V (.na H fun H => (.then ?_)));refine .wh h V ?_ ?_ <;> intro h
  ·refine .skip (.then (.inBlock (.tR 5 V H fun b6 σ H => (.mV V ?_))));obtain ⟨x1,q1,h⟩:=bs h;refine .jV q1 V (.pV V (.aV V (.aV V (.na H fun H => (.tR 5 V H fun b7 σ H => (.mV V (.mV V ?_)))))));obtain ⟨x2,q2,h⟩:=bs h;refine .jV q2 V (.pV V (.aV V (.na H fun H => (.tR 5 V H fun b8 σ H => (.m1 cv0 V V (.mV V (.mV V ?_)))))));obtain ⟨x3,q3,h⟩:=bs h;refine .callV (cv:=cv0) (ys:=[(vl Span.cs x1),(vl Span.cs x2)]) (r:=(vb x3)) H V V (hf0 x1 x2 _ q3) hC nofun V fun σ H => (.tV V (.na H fun H => ?_));refine .wh h V ?_ ?_ <;> intro h
   ·refine .tR 1 V H fun b9 σ H => (.aV V (.na H fun H => (.ret ?_)));obtain rfl:=sj h;exact ⟨nofun,(.inr ⟨_,V,V,(EndsH.H (xs:=[(vb false)]) (.inr V) H (.tmp (v:=(vb false)) V .nil) (.one (.c (.v _))) 0 V)⟩)⟩
   refine .skip (.ZF 2 V H fun b10 σ H => (.iV V (.mV V (.na H fun H => ?_))));obtain rfl:=sj h;exact ⟨V,EI V,H⟩
  refine .exit ?_;obtain rfl:=sj h;exact ⟨nofun,(.inl ⟨_,V,V,U,H⟩)⟩
 ·rintro x e σ (⟨a2,rfl,rfl,he,H⟩ | ⟨r',rfl,rfl,hE⟩)
  ·replace h:=jgo h;obtain ⟨e,rfl⟩:=he.ex;refine .tR 1 V H fun b11 σ H => (.aV V (.na H fun H => (.ret ?_)));obtain rfl:=sj h;exact (EndsH.H (xs:=[(vb true)]) (.inr V) H (.tmp (v:=(vb true)) V .nil) (.one (.c (.v _))) 0 V)
  ·replace h:=jret h;obtain rfl:=sj h;exact hE
theorem Z0z {s1':(List Granule)} {s2':(List Granule)} {eq:Granule→Granule→Option Bool} {C:List Res} {cv0:PV} (hs0:cv0.one = true) (hp0:cv0.pure = true→C = []) (hf0:∀ z0 z1 y,eq z0 z1 = some y→CloH CX cv0 [(.agg (vs (Granule.cs z0))),(.agg (vs (Granule.cs z1)))] (vb y) C) {r:Bool} (h:Z2 s1' s2' eq = some r):FnH CX 71 [(vl Granule.cs s1'),(vl Granule.cs s2'),cv0] (vb r) C:=by
 refine FnH.of Try.func71 V V V V (Z2q V (Z2q V (Z2q (Z3D hs0) all_nil))) V (fun h => hp0 (Z3T h 2 V)) ?_;intro σ L hC H;unfold Z2 at h;refine .tR 1 V H fun b1 σ H => (.aV V (.na H fun H => (.then (.tR 5 V H fun b2 σ H => (.mV V (.nV V (.mV V (.nV V ?_))))))));refine .iV V (.na H fun H => ?_);refine .wh h V ?_ ?_ <;> intro h
 ·refine .tR 1 V H fun b3 σ H => (.aV V (.na H fun H => (.ret ?_)));obtain rfl:=sj h;exact (EndsH.H (xs:=[(vb false)]) (.inr V) H (.tmp (v:=(vb false)) V .nil) (.one (.c (.v _))) 0 V)
 refine .skip (.then (.tR 3 V H fun b4 σ H => (.mV V (.nV V (.mV V (.na H fun H => (.inBlock ?_)))))));obtain ⟨y1,hj1,h⟩:=bs h;obtain ⟨n1,hj1⟩:=ZK.1 hj1;refine .mono (Runs.loopO hj1 (fun s1 e σ => Z8 e [(1,(vl Granule.cs s2')),(2,cv0),(15,(vl Granule.cs s1')),(16,(vi (s1'.length:Int))),(17,(vi s1))]∧Hs σ (L)) (fun y1 x e σ => (∃ a1,y1 = (.go a1)∧x = .exit 0∧Z8 e []∧Hs σ (L))∨(∃ r',y1 = (.ret r')∧x = .ret∧EndsH CX Try.f71.results.toList (vb r') L x e σ)) ⟨EI V,H⟩ ?_) ?_
 ·intro s1 e σ hI z h;obtain ⟨he,H⟩:=hI;obtain ⟨e,rfl⟩:=he.ex;unfold Z2.s0 at h;refine .tR 1 V H fun b5 σ H => (.iV V (.na H fun H => (.then ?_)));refine .wh h V ?_ ?_ <;> intro h
  ·refine .skip (.then (.inBlock (.tR 6 V H fun b6 σ H => (.mV V ?_))));obtain ⟨x1,q1,h⟩:=bs h;refine .jV q1 V (.qV [(.int .i64 x1.Index),(.sl (x1.Ticks.map Span.cs))] V (.alc (cs:=[(vi 0),.nils]) H V V fun σ H => (.aV V (.sV [(vi x1.Index),(vl Span.cs x1.Ticks)] H 0 V fun σ H => (.na H fun H => (.tR 6 V H fun b7 σ H => (.mV V (.mV V ?_))))))));obtain ⟨x2,q2,h⟩:=bs h;refine .jV q2 V (.qV [(.int .i64 x2.Index),(.sl (x2.Ticks.map Span.cs))] V (.alc (cs:=[(vi 0),.nils]) H V V fun σ H => (.sV [(vi x2.Index),(vl Span.cs x2.Ticks)] H 0 V fun σ H => (.na H fun H => (.tR 5 V H fun b8 σ H => (.m1 cv0 V V (.LV [(vi x1.Index),(vl Span.cs x1.Ticks)] H 1 V (.LV [(vi x2.Index),(vl Span.cs x2.Ticks)] H 0 V ?_))))))));obtain ⟨x3,q3,h⟩:=bs h;refine .callV (cv:=cv0) (ys:=[(.agg (vs (Granule.cs x1))),(.agg (vs (Granule.cs x2)))]) (r:=(vb x3)) H V V (hf0 x1 x2 _ q3) hC.push.push nofun V fun σ H => (.tV V (.na H fun H => ?_));refine .wh h V ?_ ?_ <;> intro h
   ·refine .tR 1 V H fun b9 σ H => (.aV V (.na H fun H => (.ret ?_)));obtain rfl:=sj h;exact ⟨nofun,(.inr ⟨_,V,V,(EndsH.H (xs:=[(vb false)]) (.inr V) H (.tmp (v:=(vb false)) V .nil) (.one (.c (.v _))) 2 V)⟩)⟩
   refine .skip (.ZF 2 V H fun b10 σ H => (.iV V (.mV V (.na H fun H => ?_))));obtain rfl:=sj h;exact ⟨V,EI V,((H.erase 1).erase 0)⟩
  refine .exit ?_;obtain rfl:=sj h;exact ⟨nofun,(.inl ⟨_,V,V,U,H⟩)⟩
 ·rintro x e σ (⟨a2,rfl,rfl,he,H⟩ | ⟨r',rfl,rfl,hE⟩)
  ·replace h:=jgo h;obtain ⟨e,rfl⟩:=he.ex;refine .tR 1 V H fun b11 σ H => (.aV V (.na H fun H => (.ret ?_)));obtain rfl:=sj h;exact (EndsH.H (xs:=[(vb true)]) (.inr V) H (.tmp (v:=(vb true)) V .nil) (.one (.c (.v _))) 0 V)
  ·replace h:=jret h;obtain rfl:=sj h;exact hE
theorem Z9r {x':Granule} {y:Granule} {r:Bool} (h:Z19 x' y = some r):Fn CX 72 [(.agg (vs (Granule.cs x'))),(.agg (vs (Granule.cs y)))] (vb r):=by
 refine Fn.go Try.func72 V fun σ H => ?_;unfold Z19 at h;refine .tR 3 V H fun b1 σ H => (.bxc (cs:=[(vi x'.Index),(vl Span.cs x'.Ticks)]) H V V V fun σ H => (.bxc (cs:=[(vi y.Index),(vl Span.cs y.Ticks)]) H V V V fun σ H => (.aV V (.na H fun H => (.tR 13 V H fun b2 σ H => (.fV H 1 V (.lV H 1 V (.fV H 0 V ?_))))))));refine .lV H 0 V (.iV V (.mV V ?_));obtain ⟨y1,hj1,h⟩:=bs h;refine .md H 6 [(16,(vb y1))] [] V ?_ fun e σ H => ?_
 ·refine .sp hj1 V ?_ ?_ <;> intro h
  ·refine .fV H 1 V (.lV H 1 V (.fV H 0 V (.lV H 0 V (.wt V V ?_))));obtain ⟨x1,q1,h⟩:=bs h;refine .cV (Z3x q1) V (.kT V (.nil ?_));obtain rfl:=sj h;exact ⟨EI V,((H.erase 1).erase 0).wk (by omega)⟩
  refine .ps 5 V (.kF V (.nil ?_));obtain rfl:=sj h;exact ⟨EI V,((H.erase 1).erase 0).wk (by omega)⟩
 refine .aV V (.na H fun H => (.ret ?_));obtain rfl:=sj h;exact Ends.eR V
theorem ZBb {a:Form} {b:Form} {r:Bool} (h:Z3C a b = some r):Fn CX 45 [(.agg (vs (Form.cs a))),(.agg (vs (Form.cs b)))] (vb r):=by
 refine Fn.go Try.func45 V fun σ H => ?_;unfold Z3C at h;refine .tR 3 V H fun b1 σ H => (.bxc (cs:=(vF a)) H V V V fun σ H => (.bxc (cs:=(vF b)) H V V V fun σ H => (.aV V (.na H fun H => (.tR 27 V H fun b2 σ H => (.fV H 1 V (.lV H 1 V (.fV H 0 V ?_))))))));refine .lV H 0 V (.iV V (.mV V ?_));refine .md H 6 [(16,(vb ((a.Period == b.Period) && (a.Count == b.Count)))),(2,(.ptr (b1 + 0) 4 0)),(3,(.ptr (b1 + 1) 4 0))] [.blk (b1 + 1) 25 (vF b),.blk (b1 + 0) 25 (vF a)] V ?_ fun e σ H => ?_
 ·refine .split V V ?_ ?_ <;> intro hc1
  ·refine .fV H 1 V (.lV H 1 V (.fV H 0 V (.lV H 0 V (.iV V (.kT V (.nil ?_))))));exact ⟨⟨Z10 hc1,V,V,U⟩,H.wk (by omega)⟩
  ·refine .ps 5 V (.kF V (.nil ?_));exact ⟨⟨Z12 hc1,V,V,U⟩,H.wk (by omega)⟩
 refine .mV V ?_;obtain ⟨y1,hj1,h⟩:=bs h;refine .md H 6 [(23,(vb y1)),(2,(.ptr (b1 + 0) 4 0)),(3,(.ptr (b1 + 1) 4 0))] [.blk (b1 + 1) 25 (vF b),.blk (b1 + 0) 25 (vF a)] V ?_ fun e σ H => ?_
 ·refine .sp hj1 V ?_ ?_ <;> intro h
  ·refine .fV H 1 V (.lV H 1 V (.fV H 0 V (.lV H 0 V (.wt V V ?_))));obtain ⟨x1,q1,h⟩:=bs h;refine .Z7h (ys:=[(vl (cL Span.cs) a.Core),(vl (cL Span.cs) b.Core),(.v (.fn 16))]) (r:=(vb x1)) H V (Z1m (C:=[]) V (fun _ => V) (fun z0 z1 y hz => (CloH.fn (Fn.toH (Z3x hz) _))) q1) .nil nofun V fun σ H => (.kT V (.nil ?_));obtain rfl:=sj h;exact ⟨EI V,H.wk (by omega)⟩
  refine .ps 5 V (.kF V (.nil ?_));obtain rfl:=sj h;exact ⟨EI V,H.wk (by omega)⟩
 refine .mV V ?_;obtain ⟨y2,hj2,h⟩:=bs h;refine .md H 6 [(30,(vb y2))] [] V ?_ fun e σ H => ?_
 ·refine .sp hj2 V ?_ ?_ <;> intro h
  ·refine .fV H 1 V (.lV H 1 V (.fV H 0 V (.lV H 0 V (.wt V V ?_))));obtain ⟨x2,q2,h⟩:=bs h;refine .Z7h (ys:=[(vl Granule.cs a.Odd),(vl Granule.cs b.Odd),(.v (.fn 72))]) (r:=(vb x2)) H V (Z0z (C:=[]) V (fun _ => V) (fun z0 z1 y hz => (CloH.fn (Fn.toH (Z9r hz) _))) q2) .nil nofun V fun σ H => (.kT V (.nil ?_));obtain rfl:=sj h;exact ⟨EI V,((H.erase 1).erase 0).wk (by omega)⟩
  refine .ps 5 V (.kF V (.nil ?_));obtain rfl:=sj h;exact ⟨EI V,((H.erase 1).erase 0).wk (by omega)⟩
 refine .aV V (.na H fun H => (.ret ?_));obtain rfl:=sj h;exact Ends.eR V
theorem canon_Is_fn {f:Form} {r:Bool} (h:Z4E f = some r):Fn CX 17 [(.agg (vs (Form.cs f)))] (vb r):=by
 refine Fn.go Try.func17 V fun σ H => ?_;unfold Z4E at h;refine .tR 2 V H fun b1 σ H => (.bxc (cs:=(vF f)) H V V V fun σ H => (.aV V (.na H fun H => (.then (.Z2L 5 V (by kernel_rfl) H fun b2 σ H B2 => (.Z9q (cs:=(vF f)) H 0 V V V V V V V (so (B2 0 _ V _ V)) V (.Z9q (cs:=(vF f)) H 0 V V V V V V V (so (B2 0 _ V _ V)) V ?_)))))));obtain ⟨x1,q1,h⟩:=bs h;refine .cV (Z7l q1) V ?_;obtain ⟨x2,q2,h⟩:=bs h;refine .cV (ZBb q2) V (.aV V (.na H fun H => (.ret ?_)));obtain rfl:=sj h;exact Ends.eR V
theorem Z7X {f:Form} {i:Int} {want:(List Span)} {r:Bool} (h:Z2o f i want = some r):Fn CX 19 [(.agg (vs (Form.cs f))),(vi i),(vl Span.cs want)] (vb r):=by
 refine Fn.go Try.func19 V fun σ H => ?_;unfold Z2o at h;refine .tR 2 V H fun b1 σ H => (.bxc (cs:=(vF f)) H V V V fun σ H => (.aV V (.na H fun H => (.tR 8 V H fun b2 σ H => (.LV (vF f) H 0 V (.mV V ?_))))));obtain ⟨x1,q1,h⟩:=bs h;refine .cV (Z1T q1) V (.m1 (.tup [(vl Span.cs x1.1),(vi x1.2)]) V V (.xV V (.xV V (.aV V (.aV V (.na H fun H => (.tR 17 V H fun b3 σ H => (.mV V ?_))))))));refine .iV V (.mV V ?_);obtain ⟨y1,hj1,h⟩:=bs h;refine .md H 4 [(21,(vb y1)),(3,(.ptr (b1 + 0) 4 0))] [.blk (b1 + 0) 25 (vF f)] V ?_ fun e σ H => ?_
 ·refine .sp hj1 V ?_ ?_ <;> intro h
  ·refine .mV V (.mV V (.wt V V ?_));obtain ⟨x2,q2,h⟩:=bs h;refine .cV (Z3x q2) V (.kT V (.nil ?_));obtain rfl:=sj h;exact ⟨EI V,H.wk (by omega)⟩
  refine .ps 3 V (.kF V (.nil ?_));obtain rfl:=sj h;exact ⟨EI V,H.wk (by omega)⟩
 refine .mV V ?_;obtain ⟨y2,hj2,h⟩:=bs h;refine .md H 4 [(26,(vb y2)),(3,(.ptr (b1 + 0) 4 0))] [.blk (b1 + 0) 25 (vF f)] V ?_ fun e σ H => ?_
 ·refine .sp hj2 V ?_ ?_ <;> intro h
  ·refine .LV (vF f) H 0 V (.wt V V ?_);obtain ⟨x3,q3,h⟩:=bs h;refine .cV (Z5S q3) V (.iV V (.kT V (.nil ?_)));obtain rfl:=sj h;exact ⟨EI V,H.wk (by omega)⟩
  refine .ps 3 V (.kF V (.nil ?_));obtain rfl:=sj h;exact ⟨EI V,H.wk (by omega)⟩
 refine .mV V ?_;obtain ⟨y3,hj3,h⟩:=bs h;refine .md H 3 [(30,(vb y3))] [] V ?_ fun e σ H => ?_
 ·refine .sp hj3 V ?_ ?_ <;> intro h
  ·refine .LV (vF f) H 0 V (.wt V V ?_);obtain ⟨x4,q4,h⟩:=bs h;refine .cV (canon_Is_fn q4) V (.kT V (.nil ?_));obtain rfl:=sj h;exact ⟨EI V,(H.erase 0).wk (by omega)⟩
  refine .ps 2 V (.kF V (.nil ?_));obtain rfl:=sj h;exact ⟨EI V,(H.erase 0).wk (by omega)⟩
 refine .aV V (.na H fun H => (.ret ?_));obtain rfl:=sj h;exact Ends.eR V
theorem Z4n {f:Form} {m:Int} {at':Int} {r:Bool} (h:ZY f m at' = some r):Fn CX 5 [(.agg (vs (Form.cs f))),(.v (.int .u8 m)),(.v (.int .i32 at'))] (vb r):=by
 refine Fn.go Try.func5 V fun σ H => ?_;unfold ZY at h;refine .tR 2 V H fun b1 σ H => (.bxc (cs:=(vF f)) H V V V fun σ H => (.aV V (.na H fun H => (.then (.tR 3 V H fun b2 σ H => (.LV (vF f) H 0 V ?_))))));obtain ⟨x1,q1,h⟩:=bs h;refine .cV (Z7a q1) V (.tV V (.na H fun H => ?_));refine .wh h V ?_ ?_ <;> intro h
 ·refine .tR 2 V H fun b3 σ H => (.cV (Z2s V) V (.aV V (.na H fun H => (.ret ?_))));obtain rfl:=sj h;exact Ends.eR V
 refine .skip (.tR 9 V H fun b4 σ H => (.mV V (.conv (m:=m) V V V V (.rem (m:=(w64 m)) (m':=100) V V (by decide) V (.iV V (.mV V (.conv (m:=at') V V V V (.shr (m:=(w64 at')) (m':=7) V V (by decide) V ?_))))))));refine .aV V (.aV V (.na H fun H => (.tR 9 V H fun b5 σ H => (.LV (vF f) H 0 V (.mV V ?_)))));obtain ⟨x2,q2,h⟩:=bs h;refine .cV (Z2C q2) V (.m1 (.tup [(.agg (vF x2.1)),(vi x2.2)]) V V (.xV V (.xV V (.alc (cs:=[(vi 0),(vi 0),.nils,.nils]) H V V fun σ H => (.sV (vF x2.1) H 0 V fun σ H => (.aV V (.na H fun H => (.then ?_))))))));refine .tR 2 V H fun b6 σ H => (.mV V (.iV V (.na H fun H => ?_)));refine .wh h V ?_ ?_ <;> intro h
 ·refine .tR 15 V H fun b7 σ H => (.mV V (.iV V (.mV V ?_)));refine .md H 3 [(39,(vb ((x2.2 == 20) || (x2.2 == 3)))),(9,(.ptr (b5 + 6) 4 0))] [.blk (b5 + 6) 25 (vF x2.1)] rfl ?_ fun e σ H => ?_
  ·refine .split V V ?_ ?_ <;> intro hc3
   ·refine .ps 2 V (.kT V (.nil ?_));exact ⟨⟨or_T hc3,V,U⟩,(H.erase 1).wk (by omega)⟩
   ·refine .mV V (.iV V (.kF V (.nil ?_)));exact ⟨⟨or_F hc3,V,U⟩,(H.erase 1).wk (by omega)⟩
  refine .mV V ?_;obtain ⟨y1,hj1,h⟩:=bs h;refine .md H 4 [(44,(vb y1))] [] V ?_ fun e σ H => ?_
  ·refine .sp hj1 V ?_ ?_ <;> intro h
   ·refine .LV (vF x2.1) H 0 V (.bV [(vi 0),(vi 0),.nils,.nils] V (.wt V V ?_));obtain ⟨x3,q3,h⟩:=bs h;refine .Z6W (xs:=[(.agg (vF x2.1)),(.agg [(vi 0),(vi 0),.nils,.nils])]) (ys:=[(.agg (vs (Form.cs x2.1))),(.agg (vs (Form.cs (Form.mk 0 0 [] []))))]) H V (.cons (.p V) (.cons (.a (.cons (.v _) (.cons (.v _) (.cons (.n) (.cons (.n) .nil))))) .nil)) (Z6R q3) V V nofun V fun σ H => (.kT V (.nil ?_));obtain rfl:=sj h;exact ⟨EI V,(H.erase 0).wk (by omega)⟩
   refine .ps 3 V (.kF V (.nil ?_));obtain rfl:=sj h;exact ⟨EI V,(H.erase 0).wk (by omega)⟩
  refine .mV V ?_;refine .md H 2 [(47,(vb (y1 && Z0T)))] [] V ?_ fun e σ H => ?_
  ·refine .split V V ?_ ?_ <;> intro hc5
   ·refine .cV (Z2s V) V (.kT V (.nil ?_));exact ⟨⟨Z10 hc5,U⟩,H.wk (by omega)⟩
   ·refine .ps 1 V (.kF V (.nil ?_));exact ⟨⟨Z12 hc5,U⟩,H.wk (by omega)⟩
  refine .aV V (.na H fun H => (.ret ?_));obtain rfl:=sj h;exact Ends.eR V
 refine .skip (.then (.tR 6 V H fun b8 σ H => (.mV V (.mV V (.rem (m:=((w64 at').fdiv (2 ^ 7))) (m':=8) V V (by decide) V (.Z2K (sz:=1) ([((w64 at').fdiv (2 ^ 7)),0,(-1),(((w64 at').fdiv (2 ^ 7)).tmod 8)].map (cI .i64)) H (by omega) (by omega) V V V V V V V V V fun σ H => (.Z7w (c:=(cI .i64)) (xs:=[((w64 at').fdiv (2 ^ 7)),0,(-1),(((w64 at').fdiv (2 ^ 7)).tmod 8)]) H 0 V V V nofun V (.mV V ?_))))))));refine .na H fun H => (.inBlock ?_);obtain ⟨y2,hj2,h⟩:=bs h;obtain ⟨n1,hj2⟩:=ZK.1 hj2;refine .mono (Runs.loopO hj2 (fun s1 e σ => Z8 e [(3,(.ptr (b1 + 0) 4 0)),(7,(vi (w64 (1 + ((w64 m).tmod 100))))),(9,(.ptr (b5 + 6) 4 0)),(51,(.buf (b8 + 3) 4 1)),(52,(vi ([((w64 at').fdiv (2 ^ 7)),0,(-1),(((w64 at').fdiv (2 ^ 7)).tmod 8)].length:Int))),(53,(vi s1))]∧Hs σ [.sl (.buf (b8 + 3) 4 1) 3 1 ([((w64 at').fdiv (2 ^ 7)),0,(-1),(((w64 at').fdiv (2 ^ 7)).tmod 8)].map (cI .i64)) true,.blk (b5 + 6) 25 (vF x2.1),.blk (b1 + 0) 25 (vF f)]) (fun y2 x e σ => (∃ a1,y2 = (.go a1)∧x = .exit 0∧Z8 e []∧Hs σ [])∨(∃ r',y2 = (.ret r')∧x = .ret∧Ends CX Try.f5.results.toList (vb r') x e σ)) ⟨EI V,H⟩ ?_) ?_
 ·intro s1 e σ hI z h;obtain ⟨he,H⟩:=hI;obtain ⟨e,rfl⟩:=he.ex;unfold ZY.s0 at h;refine .tR 1 V H fun b9 σ H => (.iV V (.na H fun H => (.then ?_)));refine .wh h V ?_ ?_ <;> intro h
  ·refine .skip (.then (.inBlock (.tR 3 V H fun b10 σ H => ?_)));obtain ⟨x4,q4,h⟩:=bs h;refine .Z8M H 0 V V V (at?_map q4) V V nofun V ?_;intro id1 hv1;refine .loadS (id:=id1) (j:=0) (w:=(.int .i64 x4)) H 0 V hv1 (by simp) (at?_map q4) V (by simp) V V V nofun V ?_;refine .aV V (.na H fun H => (.tR 11 V H fun b11 σ H => (.LV (vF f) H 2 V (.mV V (.mV V (.iV V (.mV V ?_)))))));obtain ⟨x5,q5,h⟩:=bs h;refine .cV (Z7Z q5) V (.m1 (.tup [(vl Span.cs x5.1),(vb x5.2)]) V V (.xV V (.xV V (.aV V (.aV V (.na H fun H => (.tR 8 V H fun b12 σ H => (.mV V ?_))))))));refine .mV V ?_;obtain ⟨y3,hj3,h⟩:=bs h;refine .md H 6 [(73,(vb y3)),(3,(.ptr (b1 + 0) 4 0)),(7,(vi (w64 (1 + ((w64 m).tmod 100))))),(9,(.ptr (b5 + 6) 4 0)),(51,(.buf (b8 + 3) 4 1)),(52,(vi ([((w64 at').fdiv (2 ^ 7)),0,(-1),(((w64 at').fdiv (2 ^ 7)).tmod 8)].length:Int))),(53,(vi s1))] [.sl (.buf (b8 + 3) 4 1) 3 1 ([((w64 at').fdiv (2 ^ 7)),0,(-1),(((w64 at').fdiv (2 ^ 7)).tmod 8)].map (cI .i64)) true,.blk (b5 + 6) 25 (vF x2.1),.blk (b1 + 0) 25 (vF f)] V ?_ fun e σ H => ?_
   ·refine .sp hj3 V ?_ ?_ <;> intro h
    ·refine .LV (vF x2.1) H 1 V (.mV V (.mV V (.wt V V ?_)));obtain ⟨x6,q6,h⟩:=bs h;refine .cV (Z7X q6) V (.tV V (.kT V (.nil ?_)));obtain rfl:=sj h;exact ⟨EI V,H.wk (by omega)⟩
    refine .ps 5 V (.kF V (.nil ?_));obtain rfl:=sj h;exact ⟨EI V,H.wk (by omega)⟩
   refine .na H fun H => ?_;refine .wh h V ?_ ?_ <;> intro h
   ·refine .tR 1 V H fun b13 σ H => (.aV V (.na H fun H => (.ret ?_)));obtain rfl:=sj h;exact ⟨nofun,(.inr ⟨_,V,V,(Ends.H (xs:=[(vb false)]) (.inr V) H (.tmp (v:=(vb false)) V .nil) (.one (.c (.v _))))⟩)⟩
   refine .skip (.ZF 2 V H fun b14 σ H => (.iV V (.mV V (.na H fun H => ?_))));obtain rfl:=sj h;exact ⟨V,EI V,H⟩
  refine .exit ?_;obtain rfl:=sj h;exact ⟨nofun,(.inl ⟨_,V,V,U,(((H.erase 2).erase 1).erase 0)⟩)⟩
 ·rintro x e σ (⟨a2,rfl,rfl,he,H⟩ | ⟨r',rfl,rfl,hE⟩)
  ·replace h:=jgo h;obtain ⟨e,rfl⟩:=he.ex;refine .tR 2 V H fun b15 σ H => (.cV (Z2s V) V (.aV V (.na H fun H => (.ret ?_))));obtain rfl:=sj h;exact Ends.eR V
  ·replace h:=jret h;obtain rfl:=sj h;exact hE
end Go.Dn

namespace Go.Dn
open Go
theorem Z1F {S R:Type} {step:S→Option (S ⊕ R)} (I:S→Prop) (m:S→Nat) (post:R→Prop)
  (h:∀ s,I s→(∃ s',step s = some (.inl s')∧I s'∧m s' < m s)∨(∃ r,step s = some (.inr r)∧post r)):∀ s,I s→∃ r,loopO step s = some r∧post r:=by
 have key:∀ n s,m s = n→I s→∃ r,loopO step s = some r∧post r:=by
  intro n
  induction n using Nat.strongRecOn with
  | _ n ih =>
   intro s hm hI
   rcases h s hI with ⟨s',h1,h2,h3⟩ | ⟨r,h1,h2⟩
   ·obtain ⟨r,q1,q2⟩:=ih (m s') (by omega) s' rfl h2
    exact ⟨r,by rw [Z8x,h1];exact q1,q2⟩
   ·exact ⟨r,by rw [Z8x,h1],h2⟩
 exact fun s hI => key _ s rfl hI
theorem Z2J {S R:Type} {step:S→Option (S ⊕ R)} (I:S→R→Prop) (m:S→Nat)
  (h:∀ s r,I s r→(∃ s',step s = some (.inl s')∧I s' r∧m s' < m s)∨step s = some (.inr r)) {s:S} {r:R} (hI:I s r):loopO step s = some r:=by
 obtain ⟨r',h1,h2⟩:=Z1F (I:=fun s => I s r) m (fun r' => r' = r) (fun s hs => by
  rcases h s r hs with ⟨s',h1,h2,h3⟩ | h1
  ·exact .inl ⟨s',h1,h2,h3⟩
  ·exact .inr ⟨r,h1,rfl⟩) s hI
 rw [h1,h2]
theorem Z5d (a:Int):IntKind.i64.wrap a = (a + 9223372036854775808) % 18446744073709551616 - 9223372036854775808:=by
 simp [IntKind.wrap,IntKind.bits,IntKind.signed]
 split <;> omega
theorem Z5x (a:Int):IntKind.u64.wrap a = a % 18446744073709551616:=by
 simp [IntKind.wrap,IntKind.bits,IntKind.signed]
theorem ZL {x:Int} (h : -9223372036854775808≤x∧x≤9223372036854775807):w64 x = x:=by
 unfold w64;rw [Z5d];omega
theorem Z9R:maxLen = 9223372036854775807:=rfl
theorem Z57:room = 140737488355328:=rfl
theorem at?_lt {α:Type} {l:List α} {i:Int} (h0:0≤i) (h:i < l.length):at? l i = some (l[i.toNat]'(by omega)):=by
 unfold at?;rw [if_pos h0,Y2]
theorem at?_nat {α:Type} {l:List α} {k:Nat} (h:k < l.length):at? l (k:Int) = some l[k]:=by
 rw [at?_lt (by omega) (by omega)];rfl
theorem app?_ok {α:Type} {b:Nat} {l m:List α} (h:(l.length + m.length) * b≤room):app? b l m = some (l ++ m):=if_pos h
theorem nz?_ok {b:Int} (h:b ≠ 0):nz? b = some ():=if_neg h
theorem Z5M {a b:Int} (h:a = b):(a == b) = true:=by simp [h]
theorem Z3Y {a b:Int} (h:a ≠ b):(a == b) = false:=by simp [h]
theorem bne_t {a b:Int} (h:a ≠ b):(a != b) = true:=by simp [h]
theorem Z5g {a b:Int} (h:a = b):(a != b) = false:=by simp [h]
theorem ibeq (a b:Int):(a == b) = decide (a = b):=by by_cases h:a = b <;> simp [h]
theorem Zf {p:Prop} [Decidable p] (h:p):decide p = true:=by simp [h]
theorem Zu {p:Prop} [Decidable p] (h:¬ p):decide p = false:=by simp [h]
theorem pickB {α:Type} (c:Bool) (a b:α):(bif c then a else b) = if c = true then a else b:=by cases c <;> rfl
theorem Z9f {α:Type} {l:List α} {good:Nat→α→Prop} (h:¬ ∀ k x,l[k]? = some x→good k x):∃ (k:Nat) (x:α),l[k]? = some x∧¬ good k x∧∀ j y,j < k→l[j]? = some y→good j y:=by
 have hex:∃ k:Nat,∃ x,l[k]? = some x∧¬ good k x:=by
  apply Classical.byContradiction;intro hn;exact h fun k x hk => Classical.byContradiction fun hg => hn ⟨k,x,hk,hg⟩
 obtain ⟨k,hk⟩:=hex
 induction k using Nat.strongRecOn with
 | _ k ih =>
  by_cases h:∃ j,j < k∧∃ x,l[j]? = some x∧¬ good j x
  ·obtain ⟨j,hj,hx⟩:=h
   exact ih j hj hx
  ·obtain ⟨x,hx,hb⟩:=hk
   exact ⟨k,x,hx,hb,fun j y hj hy => Classical.byContradiction fun hg => h ⟨j,hj,y,hy,hg⟩⟩
theorem Z45 {α R:Type} {l:List α} {step:Int→Option (Int ⊕ R)} (good:Nat→α→Prop) {no yes:R}
  (hstep:∀ (k:Nat) (x:α),l[k]? = some x→(∀ j y,j < k→l[j]? = some y→good j y)→(step (k:Int) = some (.inl ((k:Int) + 1))∧good k x)∨(step (k:Int) = some (.inr no)∧¬ good k x))
  (hend:step (l.length:Int) = some (.inr yes)):(loopO step 0 = some yes∧∀ k x,l[k]? = some x→good k x)∨(loopO step 0 = some no∧¬ ∀ k x,l[k]? = some x→good k x):=by
 by_cases hall:∀ k x,l[k]? = some x→good k x
 ·refine .inl ⟨?_,hall⟩;refine Z2J (I:=fun (s:Int) r => r = yes∧∃ k:Nat,s = k∧k≤l.length) (fun s => (l.length - s.toNat)) ?_ ⟨rfl,0,rfl,Yb _⟩
  rintro s r ⟨rfl,k,rfl,hk⟩
  by_cases hlt:k < l.length
  ·rcases hstep k l[k] (Y2 hlt) (fun j y _ hy => hall j y hy) with ⟨h1,_⟩ | ⟨_,h2⟩
   ·exact .inl ⟨_,h1,⟨rfl,k + 1,by push_cast;rfl,hlt⟩,by simp;omega⟩
   ·exact absurd (hall k _ (Y2 hlt)) h2
  ·have:k = l.length:=by omega
   subst this;exact .inr hend
 ·refine .inr ⟨?_,hall⟩;obtain ⟨k0,x0,hx0,hb0,hgood⟩:=Z9f hall
  have hlt0:=(List.getElem?_eq_some_iff.1 hx0).1
  refine Z2J (I:=fun (s:Int) r => r = no∧∃ k:Nat,s = k∧k≤k0) (fun s => (l.length - s.toNat)) ?_ ⟨rfl,0,rfl,Yb _⟩
  rintro s r ⟨rfl,k,rfl,hk⟩
  by_cases hlt:k < k0
  ·have hkl:k < l.length:=by omega
   rcases hstep k l[k] (Y2 hkl) (fun j y hj hy => hgood j y (by omega) hy) with ⟨h1,_⟩ | ⟨_,h2⟩
   ·exact .inl ⟨_,h1,⟨rfl,k + 1,by push_cast;rfl,hlt⟩,by simp;omega⟩
   ·exact absurd (hgood k _ hlt (Y2 hkl)) h2
  ·have:k = k0:=by omega
   subst this
   rcases hstep k x0 hx0 hgood with ⟨_,h2⟩ | ⟨h1,_⟩
   ·exact absurd h2 hb0
   ·exact .inr h1
theorem fold_loop {α A R:Type} {l:List α} {step:A × Int→Option ((A × Int) ⊕ R)} (f:A→Nat→α→A) (fin:A→R) (I:Nat→A→Prop) {a0:A} (h0:I 0 a0)
  (hgo:∀ (k:Nat) (x:α) (a:A),l[k]? = some x→I k a→step (a,(k:Int)) = some (.inl (f a k x,(k:Int) + 1))∧I (k + 1) (f a k x))
  (hend:∀ a,I l.length a→step (a,(l.length:Int)) = some (.inr (fin a))):∃ a,loopO step (a0,0) = some (fin a)∧I l.length a:=by
 obtain ⟨r,h1,a,rfl,h2⟩:=Z1F (step:=step) (I:=fun s => ∃ (k:Nat) (a:A),s = (a,(k:Int))∧k≤l.length∧I k a) (fun s => l.length - s.2.toNat) (fun r => ∃ a,r = fin a∧I l.length a) (by
  rintro s ⟨k,a,rfl,hk,hI⟩
  by_cases hlt:k < l.length
  ·obtain ⟨q1,q2⟩:=hgo k l[k] a (Y2 hlt) hI
   exact .inl ⟨_,q1,⟨k + 1,_,by push_cast;rfl,hlt,q2⟩,by simp;omega⟩
  ·have:k = l.length:=by omega
   subst this;exact .inr ⟨_,hend a hI,a,rfl,hI⟩) (a0,0) ⟨0,a0,rfl,Yb _,h0⟩
 exact ⟨a,h1,h2⟩
end Go.Dn

namespace Go.Dn
open Go
def In64 (a:Int):Prop:=-9223372036854775808≤a∧a≤9223372036854775807
def Z6X (a:Int):Prop:=0≤a∧a≤18446744073709551615
def fitS (a:Int):Int × Int:=if -9223372036854775808≤a∧a≤9223372036854775807 then (a,0) else (0,10)
theorem fitS_of {a:Int} (h:In64 a):fitS a = (a,0):=if_pos h
theorem fitS_not {a:Int} (h:¬ In64 a):fitS a = (0,10):=if_neg h
theorem fit_or (x:Int):(In64 x∧fitS x = (x,0))∨(¬ In64 x∧fitS x = (0,10)):=by
 by_cases h:In64 x
 ·exact .inl ⟨h,fitS_of h⟩
 ·exact .inr ⟨h,fitS_not h⟩
theorem and32 (x:Int) (h:Z6X x):(((BitVec.ofInt 64 x &&& BitVec.ofInt 64 4294967295).toNat:Nat):Int) = x % 4294967296:=by
 obtain ⟨n,rfl⟩:=Int.eq_ofNat_of_zero_le h.1
 have hn:n < 2 ^ 64:=by have:=h.2;omega
 have h1:(BitVec.ofInt 64 (n:Int)).toNat = n:=by simp [BitVec.toNat_ofInt];omega
 have h2:(BitVec.ofInt 64 4294967295).toNat = 2 ^ 32 - 1:=by decide
 rw [BitVec.toNat_and,h1,h2,Nat.and_two_pow_sub_one_eq_mod]
 omega
theorem mul64_fact {x y:Int} (hx:Z6X x) (hy:Z6X y) :
  (x / 4294967296 * (y / 4294967296) + (x / 4294967296 * (y % 4294967296) + x % 4294967296 * (y % 4294967296) / 4294967296) / 4294967296 +
   ((x / 4294967296 * (y % 4294967296) + x % 4294967296 * (y % 4294967296) / 4294967296) % 4294967296 + x % 4294967296 * (y / 4294967296)) / 4294967296) = x * y / 18446744073709551616 ∧
  0≤x % 4294967296 * (y % 4294967296)∧x % 4294967296 * (y % 4294967296)≤18446744065119617025 ∧
  0≤x / 4294967296 * (y % 4294967296)∧x / 4294967296 * (y % 4294967296)≤18446744065119617025 ∧
  0≤x % 4294967296 * (y / 4294967296)∧x % 4294967296 * (y / 4294967296)≤18446744065119617025 ∧
  0≤x / 4294967296 * (y / 4294967296)∧x / 4294967296 * (y / 4294967296)≤18446744065119617025:=by
 have b:∀ {u v:Int},0≤u→u≤4294967295→0≤v→v≤4294967295→0≤u * v∧u * v≤18446744065119617025:=by
  intro u v h1 h2 h3 h4;exact ⟨Y0c h1 h3,Int.le_trans (Int.mul_le_mul h2 h4 h3 (by omega)) (by decide)⟩
 obtain ⟨hx1,hx2⟩:=hx
 obtain ⟨hy1,hy2⟩:=hy
 obtain ⟨a1,a2⟩:=b (u:=x % 4294967296) (v:=y % 4294967296) (by omega) (by omega) (by omega) (by omega)
 obtain ⟨b1,b2⟩:=b (u:=x / 4294967296) (v:=y % 4294967296) (by omega) (by omega) (by omega) (by omega)
 obtain ⟨c1,c2⟩:=b (u:=x % 4294967296) (v:=y / 4294967296) (by omega) (by omega) (by omega) (by omega)
 obtain ⟨d1,d2⟩:=b (u:=x / 4294967296) (v:=y / 4294967296) (by omega) (by omega) (by omega) (by omega)
 refine ⟨?_,a1,a2,b1,b2,c1,c2,d1,d2⟩
 have e:x * y = x / 4294967296 * (y / 4294967296) * 18446744073709551616 + (x / 4294967296 * (y % 4294967296) + x % 4294967296 * (y / 4294967296)) * 4294967296 + x % 4294967296 * (y % 4294967296):=by
  have ex:x = x / 4294967296 * 4294967296 + x % 4294967296:=by omega
  have ey:y = y / 4294967296 * 4294967296 + y % 4294967296:=by omega
  clear a1 a2 b1 b2 c1 c2 d1 d2 b hx1 hx2 hy1 hy2
  generalize x / 4294967296 = x1 at *
  generalize x % 4294967296 = x0 at *
  generalize y / 4294967296 = y1 at *
  generalize y % 4294967296 = y0 at *
  subst ex ey;simp only [Y0p,Int.mul_add];have h1:x1 * 4294967296 * (y1 * 4294967296) = x1 * y1 * 18446744073709551616:=by
   rw [Yy,Y0A 4294967296,Yy y1,← Yy]
   rfl
  have h2:x1 * 4294967296 * y0 = x1 * y0 * 4294967296:=by rw [Yy,Y0A 4294967296,← Yy]
  have h3:x0 * (y1 * 4294967296) = x0 * y1 * 4294967296:=by rw [← Yy]
  rw [h1,h2,h3];omega
 rw [e]
 generalize x / 4294967296 * (y / 4294967296) = d at *
 generalize x / 4294967296 * (y % 4294967296) = b' at *
 generalize x % 4294967296 * (y / 4294967296) = c at *
 generalize x % 4294967296 * (y % 4294967296) = a at *
 omega
theorem ZAE {a b:Int} (ha:In64 a) (hb:In64 b):ZP a b = fitS (a + b):=by
 unfold In64 at ha hb
 unfold ZP fitS w64
 rw [Z5d]
 cases h:((decide ((a + b + 9223372036854775808) % 18446744073709551616 - 9223372036854775808 > a) != decide (b > 0)) && b != 0)
 ·rw [cond_false];simp only [Y0U,bne_eq_false_iff_eq,decide_eq_decide] at h
  split <;> simp only [Y3,and_true] <;> omega
 ·rw [cond_true];simp only [Y9,bne_iff_ne,ne_eq,decide_eq_decide] at h
  split <;> simp only [Y3] <;> omega
theorem Z4R {a:Int} (h:In64 a):ZN a = a.natAbs:=by
 unfold In64 at h
 unfold ZN
 rw [pickB]
 simp only [decide_eq_true_eq,Z5x]
 split <;> omega
theorem inU_abs {a:Int} (h:In64 a):Z6X a.natAbs:=by unfold In64 at h;unfold Z6X;omega
theorem natAbs_prod (a b:Int):(a.natAbs:Int) * b.natAbs = (a * b).natAbs:=by rw [Int.natAbs_mul];simp
theorem mul64_eq {x y:Int} (hx:Z6X x) (hy:Z6X y):Zl x y = (x * y / 18446744073709551616,x * y % 18446744073709551616):=by
 unfold Zl
 have hb:∀ z:Int,z.fdiv (2 ^ 32) = z / 4294967296:=fun z => Y0K z (by decide)
 have hm:(IntKind.u64.bits) = 64:=rfl
 obtain ⟨h1,h2,h3,h4,h5,h6,h7,h8,h9⟩:=mul64_fact hx hy
 have hw:∀ z:Int,0≤z→z≤18446744073709551615→IntKind.u64.wrap z = z:=fun z q1 q2 => by rw [Z5x];omega
 simp only [hb,iAnd]
 rw [hm,and32 x hx,and32 y hy]
 have x0:0≤x % 4294967296∧x % 4294967296 < 4294967296:=by omega
 have y0:0≤y % 4294967296∧y % 4294967296 < 4294967296:=by omega
 rw [hw (x % 4294967296) (by omega) (by omega),hw (y % 4294967296) (by omega) (by omega),hw _ h2 (by omega),hw _ h4 (by omega),hw _ h6 (by omega),hw _ h8 (by omega)]
 rw [hw (x / 4294967296 * (y % 4294967296) + x % 4294967296 * (y % 4294967296) / 4294967296) (by omega) (by omega)]
 rw [and32 _ ⟨by omega,by omega⟩]
 have t0:0≤(x / 4294967296 * (y % 4294967296) + x % 4294967296 * (y % 4294967296) / 4294967296) % 4294967296∧(x / 4294967296 * (y % 4294967296) + x % 4294967296 * (y % 4294967296) / 4294967296) % 4294967296 < 4294967296:=by omega
 rw [hw ((x / 4294967296 * (y % 4294967296) + x % 4294967296 * (y % 4294967296) / 4294967296) % 4294967296) (by omega) (by omega)]
 rw [hw ((x / 4294967296 * (y % 4294967296) + x % 4294967296 * (y % 4294967296) / 4294967296) % 4294967296 + x % 4294967296 * (y / 4294967296)) (by omega) (by omega)]
 rw [hw (x / 4294967296 * (y / 4294967296) + (x / 4294967296 * (y % 4294967296) + x % 4294967296 * (y % 4294967296) / 4294967296) / 4294967296) (by omega) (by omega)]
 rw [hw _ (by omega) (by omega),h1,Z5x]
theorem Z6q {n:Int} (m:Bool) (h:Z6X n):Z1A n m = fitS (if m then -n else n):=by
 unfold Z6X at h
 unfold Z1A fitS w64
 rw [pickB,pickB,Z5x,Z5d,Z5d]
 cases m <;> simp only [Bool.true_and,Y0J,Ys,Y0B,decide_eq_true_eq,YA,if_false,if_true]
 ·split
  ·rw [if_pos (by omega)];simp only [Y3,and_true];omega
  ·rw [if_neg (by omega)]
 ·split
  ·rw [if_pos (by omega)];simp only [Y3,and_true];omega
  ·rw [if_neg (by omega)]
theorem Z6o {a b:Int} (ha:In64 a) (hb:In64 b):Za a b = fitS (a * b):=by
 unfold Za
 rw [Z4R ha,Z4R hb,mul64_eq (inU_abs ha) (inU_abs hb),pickB]
 simp only [natAbs_prod]
 rw [Z6q _ (by unfold Z6X;omega)]
 by_cases h:((a * b).natAbs:Int) / 18446744073709551616 = 0
 ·rw [if_neg (by simp [h])]
  have e:((a * b).natAbs:Int) % 18446744073709551616 = (a * b).natAbs:=by omega
  rw [e]
  show fitS _ = _
  refine congrArg fitS ?_
  by_cases h1:a < 0 <;> by_cases h2:b < 0 <;> simp only [h1,h2,decide_true,decide_false]
  ·have:=Int.mul_nonneg_of_nonpos_of_nonpos (Y0g h1) (Y0g h2)
   simp;omega
  ·have:=Int.mul_nonpos_of_nonpos_of_nonneg (Y0g h1) (Int.not_lt.1 h2)
   simp;omega
  ·have:=Y0L (Int.not_lt.1 h1) (Y0g h2)
   simp;omega
  ·have:=Y0c (Int.not_lt.1 h1) (Int.not_lt.1 h2)
   simp;omega
 ·rw [if_pos (by simp [h])]
  unfold fitS;rw [if_neg];omega
def Z8W (a b:Int):Int × Int × Int:=if b = 0 then (0,0,11) else if b = -1∧a = -9223372036854775808 then (0,0,10) else (a.fdiv b,a.fmod b,0)
theorem floor_up {a b:Int} (hb:b ≠ 0) (h1:a.tmod b ≠ 0) (h2:¬(a.tmod b < 0 ↔ b < 0)):a.fdiv b = a.tdiv b - 1∧a.fmod b = a.tmod b + b:=by
 have q1:=Yf a hb
 have q2:=Int.emod_lt a hb
 have hd:b ∣ a ↔ a % b = 0:=Int.dvd_iff_emod_eq_zero
 rw [Int.fdiv_eq_ediv,Int.fmod_eq_emod,Int.tdiv_eq_ediv]
 rw [Int.tmod_eq_emod] at h1 h2 ⊢
 simp only [hd] at h1 h2 ⊢
 rcases Int.lt_or_gt_of_ne hb with h | h
 ·rw [Int.sign_eq_neg_one_of_neg h]
  split at h1 <;> split <;> simp_all <;> omega
 ·rw [Int.sign_eq_one_of_pos h]
  split at h1 <;> split <;> simp_all <;> omega
theorem floor_same {a b:Int} (hb:b ≠ 0) (h:a.tmod b = 0∨(a.tmod b < 0 ↔ b < 0)):a.fdiv b = a.tdiv b∧a.fmod b = a.tmod b:=by
 have q1:=Yf a hb
 have q2:=Int.emod_lt a hb
 have hd:b ∣ a ↔ a % b = 0:=Int.dvd_iff_emod_eq_zero
 rw [Int.fdiv_eq_ediv,Int.fmod_eq_emod,Int.tdiv_eq_ediv]
 rw [Int.tmod_eq_emod] at h ⊢
 simp only [hd] at h ⊢
 rcases Int.lt_or_gt_of_ne hb with hh | hh
 ·rw [Int.sign_eq_neg_one_of_neg hh]
  split at h <;> split <;> simp_all <;> omega
 ·rw [Int.sign_eq_one_of_pos hh]
  split at h <;> split <;> simp_all <;> omega
theorem tdiv_in {a b:Int} (ha:In64 a) (hb:b ≠ 0) (hn:¬(b = -1∧a = -9223372036854775808)):In64 (a.tdiv b):=by
 have h:(a.tdiv b).natAbs = a.natAbs / b.natAbs:=Int.natAbs_tdiv a b
 obtain ⟨h1,h2⟩:=ha
 by_cases hb1:b = 1
 ·subst hb1;rw [Int.tdiv_one];exact ⟨h1,h2⟩
 ·by_cases hb2:b = -1
  ·have ha':a ≠ -9223372036854775808:=fun e => hn ⟨hb2,e⟩
   have:a.natAbs / b.natAbs≤a.natAbs:=Nat.div_le_self _ _
   unfold In64;omega
  ·have h3:a.natAbs / b.natAbs≤a.natAbs / 2:=Nat.div_le_div_left (by omega) (by omega)
   unfold In64;omega
theorem tdiv_in1 {a b:Int} (ha:In64 a) (hb:b ≠ 0) (h1:a.tmod b ≠ 0):In64 (a.tdiv b - 1):=by
 have h:(a.tdiv b).natAbs = a.natAbs / b.natAbs:=Int.natAbs_tdiv a b
 obtain ⟨h2,h3⟩:=ha
 by_cases hb1:b = 1
 ·subst hb1;simp at h1
 ·by_cases hb2:b = -1
  ·subst hb2;simp at h1
  ·have h3:a.natAbs / b.natAbs≤a.natAbs / 2:=Nat.div_le_div_left (by omega) (by omega)
   unfold In64;omega
theorem wrap_in {a:Int} (h:In64 a):IntKind.i64.wrap a = a:=by rw [Z5d];unfold In64 at h;omega
theorem fmod_in {a b:Int} (hb:In64 b) (hb0:b ≠ 0):In64 (a.fmod b):=by
 have q1:=Yf a hb0
 have q2:=Int.emod_lt a hb0
 rw [Int.fmod_eq_emod]
 unfold In64 at *
 split <;> omega
theorem floor_leaf1 {a b:Int} (ha:In64 a) (hb:In64 b) (h0:b ≠ 0) (hn:¬(b = -1∧a = -9223372036854775808)) (h1:a.tmod b ≠ 0) (h2:¬(a.tmod b < 0 ↔ b < 0)) :
  (IntKind.i64.wrap (IntKind.i64.wrap (a.tdiv b) - 1),IntKind.i64.wrap (a.tmod b + b),(0:Int)) = Z8W a b:=by
 obtain ⟨e1,e2⟩:=floor_up h0 h1 h2
 rw [Z8W,if_neg h0,if_neg hn,e1,e2,wrap_in (tdiv_in ha h0 hn),wrap_in (tdiv_in1 ha h0 h1),wrap_in (by rw [← e2];exact fmod_in hb h0)]
theorem floor_leaf2 {a b:Int} (ha:In64 a) (hb:In64 b) (h0:b ≠ 0) (hn:¬(b = -1∧a = -9223372036854775808)) (h:a.tmod b = 0∨(a.tmod b < 0 ↔ b < 0)) :
  (IntKind.i64.wrap (a.tdiv b),a.tmod b,(0:Int)) = Z8W a b:=by
 obtain ⟨e1,e2⟩:=floor_same h0 h
 rw [Z8W,if_neg h0,if_neg hn,e1,e2,wrap_in (tdiv_in ha h0 hn)]
theorem Z3s {a b:Int} (ha:In64 a) (hb:In64 b):Z0X a b = some (Z8W a b):=by
 unfold Z0X
 by_cases h0:b = 0
 ·subst h0;rfl
 rw [Z3Y h0,cond_false]
 by_cases hn:b = -1∧a = -9223372036854775808
 ·obtain ⟨rfl,rfl⟩:=hn
  rfl
 have:(b == -1 && a == -9223372036854775808) = false:=by
  simp only [Y0U,beq_eq_false_iff_ne]
  by_cases h:b = -1
  ·exact .inr fun e => hn ⟨h,e⟩
  ·exact .inl h
 rw [this,cond_false,nz?_ok h0]
 simp only [Y0,pickB,Y9,bne_iff_ne,ne_eq,decide_eq_decide]
 split
 ·rename_i h;simp only [Y0];exact congrArg some (floor_leaf1 ha hb h0 hn h.1 h.2)
 ·rename_i h;simp only [Y0];refine congrArg some (floor_leaf2 ha hb h0 hn ?_)
  by_cases h1:a.tmod b = 0
  ·exact .inl h1
  ·exact .inr (Classical.byContradiction fun h2 => h ⟨h1,h2⟩)
theorem Z74 {a b:Int} (hb:0 < b):a.fdiv b = a / b∧a.fmod b = a % b:=⟨Y0K a (Y0g hb),Int.fmod_eq_emod_of_nonneg a (Y0g hb)⟩
theorem Z6L {a b:Int} (hb:0 < b):Z8W a b = (a / b,a % b,0):=by
 unfold Z8W
 rw [if_neg (by omega),if_neg (by omega),(Z74 hb).1,(Z74 hb).2]
end Go.Dn

namespace Go.Dn
open Go
theorem Z11:reachBytes = 140737488351232:=rfl
def ZB (t:Int):Prop:=-1099511627776≤t∧t≤1099511627776
instance (t:Int):Decidable (ZB t):=by unfold ZB;infer_instance
theorem Z5R (t:Int):Z0S t = decide (ZB t):=by
 rw [Bool.eq_iff_iff,decide_eq_true_iff];simp [Z0S,ZB]
theorem Z6K (t:Int):Z0W t = decide (ZB t):=by
 rw [Bool.eq_iff_iff,decide_eq_true_iff];simp [Z0W,ZB]
theorem Z27 {t:Int} (h:ZB t):In64 t:=by unfold ZB at h;unfold In64;omega
structure RightL (l:List Span):Prop where
 ok:∀ (k:Nat) (s:Span),l[k]? = some s→ZB s.From∧ZB s.To∧s.From≤s.To
 gap:∀ (k:Nat) (s t:Span),l[k]? = some s→l[k + 1]? = some t→s.To + 2≤t.From
abbrev Len (l:List Span):Prop:=l.length * 16≤reachBytes
abbrev Sp64 (l:List Span):Prop:=∀ s ∈ l,In64 s.From∧In64 s.To
theorem Span.ok64 {s:Span} (h:s.ok):In64 s.From∧In64 s.To:=h
theorem okSpans {l:List Span} (h:okL 16 Span.ok l):Len l∧Sp64 l:=⟨h.1,fun s hs => Span.ok64 (h.2 s hs)⟩
theorem RightL.sp64 {l:List Span} (h:RightL l):Sp64 l:=fun s hs => by
 obtain ⟨k,hk⟩:=YC hs
 have:=h.ok k s hk
 exact ⟨Z27 this.1,Z27 this.2.1⟩
def Z43 (l:List Span) (k:Nat) (s:Span):Prop:=ZB s.From∧ZB s.To∧s.From≤s.To∧∀ p,k ≠ 0→l[k - 1]? = some p→p.To + 2≤s.From
theorem Z62 {l:List Span}:RightL l ↔ ∀ k s,l[k]? = some s→Z43 l k s:=by
 constructor
 ·intro h k s hk;obtain ⟨h1,h2,h3⟩:=h.ok k s hk
  refine ⟨h1,h2,h3,fun p h0 hp => ?_⟩
  have:k - 1 + 1 = k:=by omega
  exact h.gap (k - 1) p s hp (by rw [this];exact hk)
 ·intro h;refine ⟨fun k s hk => ⟨(h k s hk).1,(h k s hk).2.1,(h k s hk).2.2.1⟩,fun k s t hs ht => (h (k + 1) t ht).2.2.2 s (by omega) (by simpa using hs)⟩
theorem Z6w {l:List Span} (hl:Len l) (h64:Sp64 l):∃ b,Zy l = some b∧(b = true ↔ RightL l):=by
 have hlen:l.length≤maxLen:=by rw [Z9R];have:=Z11;unfold Len at hl;omega
 have step:∀ (k:Nat) (s:Span),l[k]? = some s→(∀ j y,j < k→l[j]? = some y→Z43 l j y)→∃ b,Zy.s0 l (k:Int) = (if b = true then some (.inl ((k:Int) + 1)) else some (.inr (.ret false)))∧(b = true ↔ Z43 l k s):=by
  intro k s hk hprev;have hlt:=(List.getElem?_eq_some_iff.1 hk).1
  have hat:at? l (k:Int) = some s:=by rw [at?_nat hlt];rw [Y2 hlt] at hk;exact hk
  unfold Zy.s0;rw [Zf (show (k:Int) < l.length by omega),cond_true,hat]
  simp only [Y0,Z5R];have hk1:w64 ((k:Int) + 1) = k + 1:=ZL (by rw [Z9R] at hlen;omega)
  by_cases h1:ZB s.From∧ZB s.To∧s.From≤s.To
  ·have:(!decide (ZB s.From) || !decide (ZB s.To) || decide (s.From > s.To)) = false:=by
    rw [Zf h1.1,Zf h1.2.1,Zu (by omega)];rfl
   rw [this,cond_false]
   by_cases h0:k = 0
   ·subst h0;refine ⟨true,by simp [w64];rw [Z5d];rfl,by simp [Z43,h1]⟩
   ·have hk0:(k:Int) > 0:=by omega
    have hpl:k - 1 < l.length:=by omega
    have hp:at? l (w64 ((k:Int) - 1)) = some l[k - 1]:=by
     rw [ZL (by rw [Z9R] at hlen;omega),show ((k:Int) - 1) = ((k - 1:Nat):Int) by omega,at?_nat hpl]
    have hpg:=hprev (k - 1) _ (by omega) (Y2 hpl)
    have hpt:w64 (l[k - 1].To + 2) = l[k - 1].To + 2:=by
     have:=hpg.2.1;unfold ZB at this;exact ZL (by omega)
    rw [Zf hk0,cond_true,hp];simp only [Y0,hpt];refine ⟨!decide (s.From < l[k - 1].To + 2),?_,?_⟩
    ·cases hd:decide (s.From < l[k - 1].To + 2) <;> simp [hk1]
    ·simp only [YV,decide_eq_false_iff_not,Z43]
     constructor
     ·intro h;refine ⟨h1.1,h1.2.1,h1.2.2,fun p _ hp' => ?_⟩
      rw [Y2 hpl] at hp';cases hp';omega
     ·intro h;have:=h.2.2.2 _ h0 (Y2 hpl);omega
  ·refine ⟨false,?_,by simp only [YA,Z43,false_iff];intro h;exact h1 ⟨h.1,h.2.1,h.2.2.1⟩⟩
   have:(!decide (ZB s.From) || !decide (ZB s.To) || decide (s.From > s.To)) = true:=by
    by_cases a1:ZB s.From
    ·by_cases a2:ZB s.To
     ·have a3:s.From > s.To:=by
       apply Classical.byContradiction;intro h;exact h1 ⟨a1,a2,by omega⟩
      rw [Zf a3];simp
     ·rw [Zu a2];simp
    ·rw [Zu a1];simp
   rw [this];rfl
 unfold Zy
 rcases Z45 (l:=l) (step:=Zy.s0 l) (Z43 l) (no:=.ret false) (yes:=.go ()) (fun k x hk hp => by
   obtain ⟨b,h1,h2⟩:=step k x hk hp
   cases b
   ·exact .inr ⟨h1,fun h => by have:=h2.2 h;cases this⟩
   ·exact .inl ⟨h1,h2.1 rfl⟩) (by
   unfold Zy.s0;rw [Zu (by omega)];rfl) with ⟨h1,h2⟩ | ⟨h1,h2⟩
 ·rw [h1];exact ⟨true,rfl,by simp [Z62.2 h2]⟩
 ·rw [h1];exact ⟨false,rfl,by simp only [YA,false_iff];exact fun h => h2 (Z62.1 h)⟩
def ZW (by_:Int) (s:Span):Span:=⟨s.From + by_,s.To + by_⟩
theorem Z5X {l:List Span} {b:Int} (hl:Len l) (h64:Sp64 l) (hb:In64 b) :
  ((∀ s ∈ l,ZB (s.From + b)∧ZB (s.To + b))∧Z02 l b = some (l.map (ZW b),0))∨((¬ ∀ s ∈ l,ZB (s.From + b)∧ZB (s.To + b))∧Z02 l b = some ([],20)):=by
 have hlen:(l.length:Int) < 9223372036854775807:=by have:=Z11;unfold Len at hl;omega
 have step:∀ (k:Nat) (s:Span) (acc:List Span),l[k]? = some s→acc.length = k→Z02.s0 l b ((k:Int),acc) = if ZB (s.From + b)∧ZB (s.To + b) then some (.inl ((k:Int) + 1,acc ++ [ZW b s])) else some (.inr (.ret ([],20))):=by
  intro k s acc hk hacc;have hlt:=(List.getElem?_eq_some_iff.1 hk).1
  have hat:at? l (k:Int) = some s:=by rw [at?_nat hlt];rw [Y2 hlt] at hk;exact hk
  obtain ⟨f64,t64⟩:=h64 s (Y6 hk)
  unfold Z02.s0;rw [Zf (show (k:Int) < l.length by omega),cond_true,hat]
  simp only [Y0];rw [ZAE f64 hb,ZAE t64 hb,Z5R,Z5R];have hk1:w64 ((k:Int) + 1) = k + 1:=ZL (by omega)
  have happ:∀ x:Span,app? 16 acc [x] = some (acc ++ [x]):=fun x => app?_ok (by
   have:=Z11;have:=Z57;unfold Len at hl;simp;omega)
  rcases fit_or (s.From + b) with ⟨q1,q2⟩ | ⟨q1,q2⟩ <;> rcases fit_or (s.To + b) with ⟨q3,q4⟩ | ⟨q3,q4⟩ <;> rw [q2,q4]
  ·by_cases h:ZB (s.From + b)∧ZB (s.To + b)
   ·rw [if_pos h,Zf h.1,Zf h.2];simp [happ,hk1,ZW]
   ·rw [if_neg h];have:(!decide (ZB (s.From + b)) || !decide (ZB (s.To + b))) = true:=by
     by_cases h1:ZB (s.From + b)
     ·rw [Zu (fun h2 => h ⟨h1,h2⟩)];simp
     ·rw [Zu h1];simp
    simp only [bne_self_eq_false,Y0j,Bool.or_assoc] at this ⊢;rw [this];rfl
  ·rw [if_neg (fun h => q3 (Z27 h.2))];rfl
  ·rw [if_neg (fun h => q1 (Z27 h.1))];rfl
  ·rw [if_neg (fun h => q1 (Z27 h.1))];rfl
 have hend:∀ acc,Z02.s0 l b ((l.length:Int),acc) = some (.inr (.go acc)):=fun acc => by unfold Z02.s0;rw [Zu (by omega)];rfl
 unfold Z02
 by_cases hall:∀ s ∈ l,ZB (s.From + b)∧ZB (s.To + b)
 ·refine .inl ⟨hall,?_⟩;have:loopO (Z02.s0 l b) (0,[]) = some (.go (l.map (ZW b))):=by
   refine Z2J (I:=fun (s:Int × List Span) r => r = .go (l.map (ZW b))∧∃ k:Nat,k≤l.length∧s = ((k:Int),(l.take k).map (ZW b))) (fun s => l.length - s.1.toNat) ?_ ⟨rfl,0,Yb _,by simp⟩
   rintro s r ⟨rfl,k,hk,rfl⟩
   by_cases hlt:k < l.length
   ·refine .inl ⟨_,by rw [step k l[k] _ (Y2 hlt) (by simp;omega),if_pos (hall _ (YZ hlt))],⟨rfl,k + 1,hlt,?_⟩,by simp;omega⟩
    rw [Y0P hlt,Y05];push_cast;rfl
   ·have:k = l.length:=by omega
    subst this;rw [Y0I];exact .inr (hend _)
  rw [this];rfl
 ·refine .inr ⟨hall,?_⟩;obtain ⟨k0,s0,hk0,hb0,hg⟩:=Z9f (l:=l) (good:=fun _ s => ZB (s.From + b)∧ZB (s.To + b)) (fun h => hall fun s hs => by
   obtain ⟨k,hk⟩:=YC hs;exact h k s hk)
  have hlt0:=(List.getElem?_eq_some_iff.1 hk0).1
  have:loopO (Z02.s0 l b) (0,[]) = some (.ret ([],20)):=by
   refine Z2J (I:=fun (s:Int × List Span) r => r = .ret ([],20)∧∃ k:Nat,k≤k0∧s.1 = (k:Int)∧s.2.length = k) (fun s => l.length - s.1.toNat) ?_ ⟨rfl,0,Yb _,rfl,rfl⟩
   rintro ⟨i,acc⟩ r ⟨rfl,k,hk,h1,h2⟩;simp only at h1 h2;subst h1
   by_cases hlt:k < k0
   ·have hkl:k < l.length:=by omega
    exact .inl ⟨_,by rw [step k l[k] _ (Y2 hkl) h2,if_pos (hg k _ hlt (Y2 hkl))],⟨rfl,k + 1,hlt,by push_cast;rfl,by simp;omega⟩,by simp;omega⟩
   ·have:k = k0:=by omega
    subst this;exact .inr (by rw [step k s0 _ hk0 h2,if_neg hb0])
  rw [this];rfl
theorem RightL.shift {l:List Span} {b:Int} (h:RightL l) (ht:∀ s ∈ l,ZB (s.From + b)∧ZB (s.To + b)):RightL (l.map (ZW b)):=by
 constructor
 ·intro k s hk;rw [YL,Y1] at hk;obtain ⟨s,hk,rfl⟩:=hk
  have h1:=h.ok k s hk
  have h2:=ht s (Y6 hk)
  exact ⟨h2.1,h2.2,by simp only [ZW];omega⟩
 ·intro k s t hk hk1;rw [YL,Y1] at hk hk1;obtain ⟨s,hk,rfl⟩:=hk
  obtain ⟨t,hk1,rfl⟩:=hk1
  have:=h.gap k s t hk hk1
  simp only [ZW];omega
def Z36 (a b:List Span):Prop:=∀ x,a.getLast? = some x→∀ y,b.head? = some y→x.To < y.From
theorem Z4o {a b:List Span} (ha:Len a):∃ r,Z0L a b = some r∧(r = true ↔ Z36 a b):=by
 unfold Z0L
 cases a with
 | nil => exact ⟨true,by simp,by simp [Z36]⟩
 | cons x a =>
  cases b with
  | nil => exact ⟨true,by simp,by simp [Z36]⟩
  | cons y b =>
   have hl:((x :: a).length:Int) < 9223372036854775807:=by have:=Z11;unfold Len at ha;omega
   have e1:(((x :: a).length:Int) == 0 || ((y :: b).length:Int) == 0) = false:=by simp;omega
   have hlt:(x :: a).length - 1 < (x :: a).length:=by simp
   have e2:at? (x :: a) (w64 (((x :: a).length:Int) - 1)) = some (x :: a)[(x :: a).length - 1]:=by
    rw [ZL (by simp at hl ⊢;omega),show (((x :: a).length:Int) - 1) = (((x :: a).length - 1:Nat):Int) by simp,at?_nat hlt]
   have e3:at? (y :: b) 0 = some y:=rfl
   rw [e1,cond_false,e2,e3];refine ⟨decide ((x :: a)[(x :: a).length - 1].To < y.From),rfl,?_⟩;have hlast:(x :: a).getLast? = some (x :: a)[(x :: a).length - 1]:=by rw [Y0N,Y2 hlt]
   simp only [decide_eq_true_eq,Z36,hlast,List.head?_cons,Y5];exact ⟨fun h x' hx y' hy => by rw [← hx,← hy];exact h,fun h => h _ rfl _ rfl⟩
theorem span_beq (x y:Span):((x.From == y.From) && ((x.To == y.To) && true)) = decide (x = y):=by
 obtain ⟨x1,x2⟩:=x
 obtain ⟨y1,y2⟩:=y
 by_cases h1:x1 = y1 <;> by_cases h2:x2 = y2 <;> simp [h1,h2]
theorem Z3y {a b:List Span} (ha:Len a):∃ r,Z0B a b = some r∧(r = true ↔ a = b):=by
 have hl:(a.length:Int) < 9223372036854775807:=by have:=Z11;unfold Len at ha;omega
 unfold Z0B ZJ
 by_cases hlen:a.length = b.length
 ·have e1:((a.length:Int) != (b.length:Int)) = false:=Z5g (by omega)
  rw [e1,cond_false]
  rcases Z45 (l:=a) (step:=ZJ.s0 a b) (fun k x => b[k]? = some x) (no:=.ret false) (yes:=.go ()) (fun k x hk hp => by
   have hlt:=(List.getElem?_eq_some_iff.1 hk).1
   have hat:at? a (k:Int) = some x:=by rw [at?_nat hlt];rw [Y2 hlt] at hk;exact hk
   have hbt:at? b (k:Int) = some (b[k]'(by omega)):=at?_nat (by omega)
   unfold ZJ.s0;rw [Zf (show (k:Int) < a.length by omega),cond_true,hat,hbt,ZL (show _ by omega)]
   simp only [Y0,span_beq];rw [Y2 (show k < b.length by omega)]
   by_cases h:x = b[k]'(by omega)
   ·rw [Zf h];exact .inl ⟨rfl,congrArg some h.symm⟩
   ·rw [Zu h];exact .inr ⟨rfl,fun e => h (Option.some.inj e).symm⟩) (by
   unfold ZJ.s0;rw [Zu (by omega)];rfl) with ⟨h1,h2⟩ | ⟨h1,h2⟩
  ·rw [h1];refine ⟨true,rfl,⟨fun _ => Y0X fun k => ?_,fun _ => rfl⟩⟩
   by_cases hk:k < a.length
   ·rw [Y2 hk];exact (h2 k _ (Y2 hk)).symm
   ·rw [YW (by omega),YW (by omega)]
  ·rw [h1];refine ⟨false,rfl,by simp only [YA,false_iff];rintro rfl;exact h2 fun k x hk => hk⟩
 ·have e1:((a.length:Int) != (b.length:Int)) = true:=bne_t (by omega)
  rw [e1,cond_true];exact ⟨false,rfl,by simp only [YA,false_iff];rintro rfl;exact hlen rfl⟩
end Go.Dn

namespace Go.Dn
open Go
theorem ZB6 (x y:Int):Z2E x y = if x < y then -1 else if y < x then 1 else 0:=by
 unfold Z2E Z2I
 simp only [bne_self_eq_false,cond_false,pickB,decide_eq_true_eq,gt_iff_lt,YA,if_false]
def Inc (l:List Granule):Prop:=∀ (j k:Nat) (a b:Granule),j < k→l[j]? = some a→l[k]? = some b→a.Index < b.Index
theorem bsearch_eq {l:List Granule} {t:Int} (hl:l.length * 32≤reachBytes) (hs:Inc l):∃ p:Nat,p≤l.length∧(∀ (k:Nat) (g:Granule),l[k]? = some g→(k < p ↔ g.Index < t)) ∧
  Z1 l t (fun z0 z1 => some (Z35 z0 z1)) = some ((p:Int),decide (∃ g,l[p]? = some g∧g.Index = t)):=by
 have hlen:(l.length:Int) < 4398046511104 * 4:=by have:=Z11;omega
 have hcmp:∀ g i,Z35 g i = if g.Index < i then -1 else if i < g.Index then 1 else 0:=fun g i => ZB6 _ _
 obtain ⟨r,h1,p,rfl,hp,hlow,hhigh⟩:=Z1F (step:=Z1.s0 l t (fun z0 z1 => some (Z35 z0 z1)))
  (I:=fun s => ∃ i j:Nat,s = ((i:Int),(j:Int))∧i≤j∧j≤l.length∧(∀ k g,l[k]? = some g→k < i→g.Index < t)∧(∀ k g,l[k]? = some g→j≤k→t≤g.Index))
  (fun s => (s.2 - s.1).toNat)
  (fun r => ∃ p:Nat,r = (p:Int)∧p≤l.length∧(∀ k g,l[k]? = some g→k < p→g.Index < t)∧(∀ k g,l[k]? = some g→p≤k→t≤g.Index)) (by
  rintro s ⟨i,j,rfl,hij,hj,hlow,hhigh⟩;unfold Z1.s0
  by_cases hlt:i < j
  ·have hm:w64 ((IntKind.u64.wrap (w64 ((i:Int) + j))).fdiv (2 ^ 1)) = ((i + j) / 2:Nat):=by
    rw [ZL (x:=(i:Int) + j) (by omega),Z5x,Y0K _ (by decide),ZL (by omega)]
    omega
   have hml:(i + j) / 2 < l.length:=by omega
   simp only [hm];rw [Zf (show (i:Int) < j by omega),cond_true,at?_nat hml]
   simp only [Y0,hcmp];refine .inl ?_;have hget:=Y2 hml
   by_cases hc:l[(i + j) / 2].Index < t
   ·rw [if_pos hc];refine ⟨((((i + j) / 2 + 1:Nat):Int),(j:Int)),?_,⟨(i + j) / 2 + 1,j,rfl,by omega,hj,fun k g hk hki => ?_,hhigh⟩,by simp;omega⟩
    ·rw [ZL (by omega)];simp
    ·rcases YK k ((i + j) / 2) with h | h
     ·have:=hs k _ g _ h hk hget;omega
     ·have:k = (i + j) / 2:=by omega
      subst this;rw [hget] at hk;cases hk;exact hc
   ·rw [if_neg hc];refine ⟨((i:Int),(((i + j) / 2:Nat):Int)),?_,⟨i,(i + j) / 2,rfl,by omega,by omega,hlow,fun k g hk hki => ?_⟩,by simp;omega⟩
    ·split <;> simp
    ·rcases YK ((i + j) / 2) k with h | h
     ·have:=hs _ k _ g h hget hk;omega
     ·have:k = (i + j) / 2:=by omega
      subst this;rw [hget] at hk;cases hk;omega
  ·refine .inr ⟨(i:Int),by rw [Zu (show ¬ (i:Int) < j by omega)];rfl,i,rfl,by omega,hlow,fun k g hk hki => hhigh k g hk (by omega)⟩) (0,(l.length:Int)) ⟨0,l.length,rfl,Yb _,YB _,fun k g _ h => by omega,fun k g hk h => by
    rw [YW h] at hk;cases hk⟩
 refine ⟨p,hp,fun k g hk => ⟨fun h => hlow k g hk h,fun h => ?_⟩,?_⟩
 ·rcases YK k p with h2 | h2
  ·exact h2
  ·have:=hhigh k g hk h2;omega
 ·unfold Z1;rw [h1];simp only [Y0]
  by_cases hlt:p < l.length
  ·rw [Zf (show (p:Int) < l.length by omega),cond_true,at?_nat hlt]
   simp only [Y0,hcmp,Y5,Y3,true_and];have:=hhigh p _ (Y2 hlt) (YB _)
   rw [Y2 hlt]
   by_cases he:l[p].Index = t
   ·rw [if_neg (by omega),if_neg (by omega)];simp [he]
   ·rw [if_neg (by omega),if_pos (by omega)];simp [he]
  ·rw [Zu (show ¬ (p:Int) < l.length by omega),cond_false]
   simp only [Y0,Y5,Y3,true_and];rw [YW (by omega)]
   simp
structure Shape (f:Form):Prop where
 count:f.Count = f.Core.length
 zero:f.Count = 0 ↔ f.Period = 0
 per:0≤f.Period∧f.Period≤1099511627776
 core:∀ l ∈ f.Core,RightL l
 odd:∀ g ∈ f.Odd,RightL g.Ticks∧ZB g.Index
 inc:Inc f.Odd
structure Lim (f:Form):Prop where
 core:f.Core.length * 24≤reachBytes
 sets:∀ l ∈ f.Core,Len l∧Sp64 l
 odd:f.Odd.length * 32≤reachBytes
 ticks:∀ g ∈ f.Odd,In64 g.Index∧Len g.Ticks∧Sp64 g.Ticks
 count:In64 f.Count
 period:In64 f.Period
theorem Form.lim {f:Form} (h:f.ok):Lim f:=by
 obtain ⟨h1,h2,h3,h4⟩:=h
 exact ⟨h3.1,fun l hl => okSpans (h3.2 l hl),h4.1,fun g hg => ⟨(h4.2 g hg).1,okSpans (h4.2 g hg).2⟩,h2,h1⟩
theorem Z5I {f:Form} (hl:Lim f) (hs:Inc f.Odd) (i:Int):∃ p:Nat,p≤f.Odd.length∧(∀ (k:Nat) (g:Granule),f.Odd[k]? = some g→(k < p ↔ g.Index < i))∧Z48 f i = some ((p:Int),decide (∃ g,f.Odd[p]? = some g∧g.Index = i)):=by
 obtain ⟨p,h1,h2,h3⟩:=bsearch_eq (t:=i) hl.odd hs
 exact ⟨p,h1,h2,by unfold Z48;rw [h3];rfl⟩
def Z2p (f:Form) (i:Int):Prop:=∃ g ∈ f.Odd,g.Index = i
def Z0Z (f:Form) (i:Int):List Span:=f.Core.getD (i % f.Count).toNat []
def Z47 (f:Form) (i:Int):Int:=i / f.Count * f.Period
open Classical in
noncomputable def ZH (f:Form) (i:Int):List Span:=if h:Z2p f i then h.choose.Ticks else if f.Count = 0 then [] else (Z0Z f i).map (ZW (Z47 f i))
theorem Inc.uniq {l:List Granule} (h:Inc l) {a b:Granule} (ha:a ∈ l) (hb:b ∈ l) (he:a.Index = b.Index):a = b:=by
 obtain ⟨j,hj⟩:=YC ha
 obtain ⟨k,hk⟩:=YC hb
 rcases Nat.lt_trichotomy j k with hjk | rfl | hjk
 ·have:=h j k a b hjk hj hk;omega
 ·rw [hj] at hk;cases hk;rfl
 ·have:=h k j b a hjk hk hj;omega
theorem Z0p {f:Form} (hs:Inc f.Odd) {g:Granule} (hg:g ∈ f.Odd):ZH f g.Index = g.Ticks:=by
 have h:Z2p f g.Index:=⟨g,hg,rfl⟩
 unfold ZH
 rw [dif_pos h]
 rw [hs.uniq h.choose_spec.1 hg h.choose_spec.2]
theorem Z2b {f:Form} {i:Int} (h:¬ Z2p f i) (h0:f.Count = 0):ZH f i = []:=by unfold ZH;rw [dif_neg h,if_pos h0]
theorem Z2W {f:Form} {i:Int} (h:¬ Z2p f i) (h0:f.Count ≠ 0):ZH f i = (Z0Z f i).map (ZW (Z47 f i)):=by unfold ZH;rw [dif_neg h,if_neg h0]
theorem Z8v {f:Form} (hs:Shape f) (h0:f.Count ≠ 0):0 < f.Count:=by have:=hs.count;omega
theorem Z1M {f:Form} (hs:Shape f) (h0:f.Count ≠ 0) (i:Int):at? f.Core (i % f.Count) = some (Z0Z f i)∧Z0Z f i ∈ f.Core:=by
 have hp:=Z8v hs h0
 have h1:=Yf i h0
 have h2:=Yq i hp
 have h3:(i % f.Count).toNat < f.Core.length:=by have:=hs.count;omega
 unfold Z0Z
 rw [at?_lt h1 (by have:=hs.count;omega),YM,Y2 h3]
 exact ⟨rfl,YZ h3⟩
theorem Z7u {f:Form} (hl:Lim f) (hs:Shape f) {g:Granule} (hg:g ∈ f.Odd):Z2F f g.Index = some (g.Ticks,0,0):=by
 obtain ⟨p,h1,h2,h3⟩:=Z5I hl hs.inc g.Index
 obtain ⟨k,hk⟩:=YC hg
 have hkl:=(List.getElem?_eq_some_iff.1 hk).1
 have hpk:p≤k:=by
  rcases YK k p with h | h
  ·have:=(h2 k g hk).1 h;omega
  ·exact h
 have hpl:p < f.Odd.length:=by omega
 have hpg:=h2 p _ (Y2 hpl)
 have:p = k:=by
  rcases YK p k with h | h
  ·have:=hs.inc p k _ g h (Y2 hpl) hk
   exact absurd (hpg.2 this) (Nat.lt_irrefl _)
  ·omega
 subst this
 unfold Z2F
 rw [h3]
 simp only [Y0]
 rw [Zf ⟨g,hk,rfl⟩,cond_true,at?_nat hpl]
 rw [Y2 hpl] at hk
 cases hk;rfl
theorem Z78 {f:Form} (hl:Lim f) (hs:Shape f) {i:Int} (hi:In64 i) (ho:¬ Z2p f i):Z2F f i = if f.Count = 0 then some ([],0,0) else some (Z0Z f i,(fitS (Z47 f i)).1,(fitS (Z47 f i)).2):=by
 obtain ⟨p,h1,h2,h3⟩:=Z5I hl hs.inc i
 unfold Z2F
 rw [h3]
 simp only [Y0]
 rw [Zu (by rintro ⟨g,hg,he⟩;exact ho ⟨g,Y6 hg,he⟩),cond_false]
 by_cases h0:f.Count = 0
 ·rw [Z5M h0,cond_true,if_pos h0]
 ·rw [Z3Y h0,cond_false,if_neg h0,Z3s hi hl.count,Z6L (Z8v hs h0)];simp only [Y0];rw [(Z1M hs h0 i).1];simp only [Y0];have hq:In64 (i / f.Count):=by
   have hp:=Z8v hs h0
   unfold In64 at hi ⊢
   constructor
   ·have : -9223372036854775808≤i / f.Count:=by
     rw [Int.le_ediv_iff_mul_le hp];have:(-9223372036854775808) * f.Count≤-9223372036854775808:=by
      have:(-9223372036854775808) * f.Count≤(-9223372036854775808) * 1:=Int.mul_le_mul_of_nonpos_left (by omega) (by omega)
      omega
     omega
    exact this
   ·have:i / f.Count≤9223372036854775807:=by
     rcases Int.lt_or_le i 0 with h | h
     ·have:i / f.Count < 0:=Int.ediv_neg_of_neg_of_pos h hp
      omega
     ·have:=Y0h f.Count h
      omega
    exact this
  rw [Z6o hq hl.period]
  rfl
def fits (f:Form) (i:Int):Prop:=∀ s ∈ ZH f i,ZB s.From∧ZB s.To
theorem Z86 (l:List Span):l.map (ZW 0) = l:=by
 have:ZW 0 = id:=by funext s;simp [ZW]
 rw [this,List.map_id]
theorem Z1r {f:Form} {i:Int} (ho:¬ Z2p f i) (h0:f.Count ≠ 0):ZH f i = [] ↔ Z0Z f i = []:=by rw [Z2W ho h0,List.map_eq_nil_iff]
open Classical in
theorem Z3F {f:Form} (hl:Lim f) (hs:Shape f) {i:Int} (hi:In64 i):Zt f i = some (if ZB i∧fits f i then (ZH f i,0) else ([],20)):=by
 unfold Zt
 rw [Z6K]
 by_cases ht:ZB i
 ·rw [Zf ht,Ys,cond_false]
  by_cases ho:Z2p f i
  ·obtain ⟨g,hg,rfl⟩:=ho
   have hset:=Z0p hs.inc hg
   have hr:=(hs.odd g hg).1
   have hf:fits f g.Index:=by
    intro s hsm;rw [hset] at hsm;obtain ⟨k,hk⟩:=YC hsm
    exact ⟨(hr.ok k s hk).1,(hr.ok k s hk).2.1⟩
   rw [Z7u hl hs hg,if_pos ⟨ht,hf⟩,hset];simp only [Y0]
   by_cases hn:g.Ticks = []
   ·rw [hn];rfl
   ·have:((g.Ticks.length:Int) == 0) = false:=Z3Y (by have:=List.length_pos_iff.2 hn;omega)
    rw [this,cond_false];simp only [bne_self_eq_false,cond_false]
    rcases Z5X (b:=0) (hl.ticks g hg).2.1 hr.sp64 ⟨by decide,by decide⟩ with ⟨_,h2⟩ | ⟨h1,_⟩
    ·rw [h2,Z86];rfl
    ·refine absurd (fun s hsm => ?_) h1
     rw [← hset] at hsm
     simpa using hf s hsm
  ·rw [Z78 hl hs hi ho]
   by_cases h0:f.Count = 0
   ·rw [if_pos h0,if_pos ⟨ht,by intro s hsm;rw [Z2b ho h0] at hsm;cases hsm⟩,Z2b ho h0];rfl
   ·rw [if_neg h0];simp only [Y0]
    by_cases hn:Z0Z f i = []
    ·rw [if_pos ⟨ht,by intro s hsm;rw [(Z1r ho h0).2 hn] at hsm;cases hsm⟩,(Z1r ho h0).2 hn,hn];rfl
    ·have:(((Z0Z f i).length:Int) == 0) = false:=Z3Y (by have:=List.length_pos_iff.2 hn;omega)
     rw [this,cond_false];have hmem:=(Z1M hs h0 i).2
     have hr:=hs.core _ hmem
     have hfe:fits f i ↔ ∀ s ∈ Z0Z f i,ZB (s.From + Z47 f i)∧ZB (s.To + Z47 f i):=by
      unfold fits;rw [Z2W ho h0]
      constructor
      ·intro h s hsm;exact h (ZW (Z47 f i) s) (List.mem_map.2 ⟨s,hsm,rfl⟩)
      ·intro h s hsm;obtain ⟨s,hsm',rfl⟩:=List.mem_map.1 hsm
       exact h s hsm'
     rcases fit_or (Z47 f i) with ⟨q1,q2⟩ | ⟨q1,q2⟩ <;> rw [q2]
     ·simp only [bne_self_eq_false,cond_false]
      rcases Z5X (b:=Z47 f i) (hl.sets _ hmem).1 hr.sp64 q1 with ⟨h1,h2⟩ | ⟨h1,h2⟩
      ·rw [h2,if_pos ⟨ht,hfe.2 h1⟩,Z2W ho h0];rfl
      ·rw [h2,if_neg (fun h => h1 (hfe.1 h.2))];rfl
     ·rw [if_neg]
      ·rfl
      ·rintro ⟨_,h⟩;have h:=hfe.1 h
       obtain ⟨s,hsm⟩:=List.exists_mem_of_ne_nil _ hn
       have h1:=(h s hsm).1
       obtain ⟨k,hk⟩:=YC hsm
       have h2:=(hr.ok k s hk).1
       unfold ZB at h1 h2;exact q1 (by unfold In64;omega)
 ·rw [Zu ht,if_neg (fun h => ht h.1)];rfl
open Classical in
theorem Z9E {f:Form} (hl:Lim f) (hs:Shape f) {i:Int} (hi:In64 i):Z3g f i = some (decide (ZH f i ≠ [])):=by
 unfold Z3g
 by_cases ho:Z2p f i
 ·obtain ⟨g,hg,rfl⟩:=ho
  rw [Z7u hl hs hg,Z0p hs.inc hg];simp only [Y0];cases g.Ticks <;> simp
 ·rw [Z78 hl hs hi ho]
  by_cases h0:f.Count = 0
  ·rw [if_pos h0,Z2b ho h0];rfl
  ·rw [if_neg h0];simp only [Y0,Ne,Z1r ho h0];cases Z0Z f i <;> simp
end Go.Dn

namespace Go.Dn
open Go
theorem Z1w {α:Type} {l:List α} {b:Nat} (h:l.length * (b + 1)≤reachBytes):(l.length:Int) < 4611686018427387904:=by
 have:=Z11
 have:l.length≤l.length * (b + 1):=Nat.le_mul_of_pos_right _ (by omega)
 omega
theorem Z9z {α:Type} {l:List α} {k:Nat} {x:α} (h:l[k]? = some x):at? l (k:Int) = some x∧(k:Int) < l.length:=by
 have hlt:=(List.getElem?_eq_some_iff.1 h).1
 rw [Y2 hlt] at h
 exact ⟨by rw [at?_nat hlt];exact h,by omega⟩
theorem shape_core {f:Form} (hl:Lim f):(loopO (ZZ.s0 f) 0 = some (.go ())∧∀ l ∈ f.Core,RightL l)∨(loopO (ZZ.s0 f) 0 = some (.ret false)∧¬ ∀ l ∈ f.Core,RightL l):=by
 have hlen:=Z1w (b:=23) hl.core
 rcases Z45 (l:=f.Core) (step:=ZZ.s0 f) (fun _ x => RightL x) (no:=.ret false) (yes:=.go ()) (fun k x hk _ => by
   obtain ⟨h1,h2⟩:=Z9z hk
   obtain ⟨b,hb,hr⟩:=Z6w (hl.sets x (Y6 hk)).1 (hl.sets x (Y6 hk)).2
   unfold ZZ.s0;rw [Zf h2,cond_true,h1];simp only [Y0,hb,ZL (show -9223372036854775808≤(k:Int) + 1∧(k:Int) + 1≤9223372036854775807 by omega)]
   cases b
   ·exact .inr ⟨rfl,fun h => by have:=hr.2 h;cases this⟩
   ·exact .inl ⟨rfl,hr.1 rfl⟩) (by unfold ZZ.s0;rw [Zu (by omega)];rfl) with ⟨h1,h2⟩ | ⟨h1,h2⟩
 ·exact .inl ⟨h1,fun l hm => by obtain ⟨k,hk⟩:=YC hm;exact h2 k l hk⟩
 ·exact .inr ⟨h1,fun h => h2 fun k x hk => h x (Y6 hk)⟩
def goodOdd (f:Form) (k:Nat) (g:Granule):Prop:=RightL g.Ticks∧ZB g.Index∧∀ p,k ≠ 0→f.Odd[k - 1]? = some p→p.Index < g.Index
theorem shape_odd {f:Form} (hl:Lim f):(loopO (ZZ.s1 f) 0 = some (.go ())∧∀ k g,f.Odd[k]? = some g→goodOdd f k g)∨(loopO (ZZ.s1 f) 0 = some (.ret false)∧¬ ∀ k g,f.Odd[k]? = some g→goodOdd f k g):=by
 have hlen:=Z1w (b:=31) hl.odd
 refine Z45 (l:=f.Odd) (step:=ZZ.s1 f) (goodOdd f) (no:=.ret false) (yes:=.go ()) (fun k x hk _ => ?_) (by unfold ZZ.s1;rw [Zu (by omega)];rfl)
 obtain ⟨h1,h2⟩:=Z9z hk
 have hx:=hl.ticks x (Y6 hk)
 obtain ⟨b,hb,hr⟩:=Z6w hx.2.1 hx.2.2
 unfold ZZ.s1
 rw [Zf h2,cond_true,h1]
 simp only [Y0,hb,Z6K,ZL (show -9223372036854775808≤(k:Int) + 1∧(k:Int) + 1≤9223372036854775807 by omega)]
 by_cases hbt:b = true∧ZB x.Index
 ·rw [hbt.1,Zf hbt.2];simp only [Ys,Y0i,cond_false]
  by_cases h0:k = 0
  ·subst h0;exact .inl ⟨by simp,hr.1 hbt.1,hbt.2,fun p h => absurd rfl h⟩
  ·have hpl:k - 1 < f.Odd.length:=by omega
   rw [Zf (show (k:Int) > 0 by omega),cond_true,ZL (by omega),show (k:Int) - 1 = ((k - 1:Nat):Int) by omega,at?_nat hpl]
   simp only [Y0]
   by_cases hc:x.Index≤f.Odd[k - 1].Index
   ·rw [Zf hc];refine .inr ⟨rfl,fun h => ?_⟩
    have:=h.2.2 _ h0 (Y2 hpl);omega
   ·rw [Zu hc];refine .inl ⟨rfl,hr.1 hbt.1,hbt.2,fun p _ hp => ?_⟩
    rw [Y2 hpl] at hp;cases hp;omega
 ·have:(!b || !decide (ZB x.Index)) = true:=by
   cases b
   ·rfl
   ·rw [Zu (fun h => hbt ⟨rfl,h⟩)];rfl
  rw [this,cond_true];exact .inr ⟨rfl,fun h => hbt ⟨hr.2 h.1,h.2.1⟩⟩
theorem inc_of {f:Form} (h:∀ k g,f.Odd[k]? = some g→goodOdd f k g):Inc f.Odd:=by
 intro j k a b hjk ha hb
 induction k generalizing b with
 | zero => omega
 | succ k ih =>
  have hkl:=(List.getElem?_eq_some_iff.1 hb).1
  have h1:=(h (k + 1) b hb).2.2 f.Odd[k] (by omega) (by simp [Y2 (show k < f.Odd.length by omega)])
  rcases YK j k with h2 | h2
  ·have:=ih _ h2 (Y2 (show k < f.Odd.length by omega));omega
  ·have:j = k:=by omega
   subst this;rw [Y2 (show j < f.Odd.length by omega)] at ha;cases ha;exact h1
theorem gran_shape_eq {f:Form} (hl:Lim f):∃ b,ZZ f = some b∧(b = true ↔ Shape f):=by
 unfold ZZ
 by_cases h1:f.Count = f.Core.length∧(f.Count = 0 ↔ f.Period = 0)∧0≤f.Period∧f.Period≤1099511627776
 ·have e:(f.Count != (f.Core.length:Int) || (f.Count == 0) != (f.Period == 0) || decide (f.Period < 0) || decide (f.Period > 1099511627776)) = false:=by
   rw [Z5g h1.1,Zu (show ¬ f.Period < 0 by omega),Zu (show ¬ f.Period > 1099511627776 by omega)]
   simp only [Y0j,Y0k,bne_eq_false_iff_eq,ibeq,decide_eq_decide];exact h1.2.1
  rw [e,cond_false]
  rcases shape_core hl with ⟨h2,h3⟩ | ⟨h2,h3⟩
  ·rw [h2];simp only [Y0,Jx.elim]
   rcases shape_odd hl with ⟨h4,h5⟩ | ⟨h4,h5⟩
   ·rw [h4];exact ⟨true,rfl,fun _ => ⟨h1.1,h1.2.1,h1.2.2,h3,fun g hg => by obtain ⟨k,hk⟩:=YC hg;exact ⟨(h5 k g hk).1,(h5 k g hk).2.1⟩,inc_of h5⟩,fun _ => rfl⟩
   ·rw [h4];refine ⟨false,rfl,fun h => (by cases h),fun h => absurd (fun k g hk => ⟨(h.odd g (Y6 hk)).1,(h.odd g (Y6 hk)).2,fun p h0 hp => h.inc (k - 1) k p g (by omega) hp hk⟩) h5⟩
  ·rw [h2];exact ⟨false,rfl,fun h => (by cases h),fun h => absurd h.core h3⟩
 ·have e:(f.Count != (f.Core.length:Int) || (f.Count == 0) != (f.Period == 0) || decide (f.Period < 0) || decide (f.Period > 1099511627776)) = true:=by
   apply Classical.byContradiction;intro hn;simp only [Y0H,Bool.or_eq_false_iff,bne_eq_false_iff_eq,decide_eq_false_iff_not,ibeq,decide_eq_decide] at hn;exact h1 ⟨hn.1.1.1,hn.1.1.2,by omega,by omega⟩
  rw [e,cond_true];exact ⟨false,rfl,fun h => (by cases h),fun h => absurd ⟨h.count,h.zero,h.per⟩ h1⟩
def fstT (l:List Span):Int:=(l.head?.map Span.From).getD 0
def lstT (l:List Span):Int:=(l.getLast?.map Span.To).getD 0
theorem ZBA {a b:List Span} (ha:a ≠ []) (hb:b ≠ []):Z36 a b ↔ lstT a < fstT b:=by
 unfold Z36 lstT fstT
 rw [Y0C ha,Y0E hb]
 simp
theorem RightL.tail {s:Span} {l:List Span} (h:RightL (s :: l)):RightL l :=
 ⟨fun k x hk => h.ok (k + 1) x hk,fun k x y hx hy => h.gap (k + 1) x y hx hy⟩
theorem Z6B {l:List Span} (h:RightL l) (hn:l ≠ []):fstT l≤lstT l:=by
 induction l with
 | nil => exact absurd rfl hn
 | cons s l ih =>
  have h0:=h.ok 0 s rfl
  cases l with
  | nil => simp [fstT,lstT];exact h0.2.2
  | cons t l =>
   have h1:=h.gap 0 s t rfl rfl
   have h2:=ih h.tail (by simp)
   have e1:lstT (s :: t :: l) = lstT (t :: l):=by simp [lstT]
   have e2:fstT (t :: l) = t.From:=rfl
   have e3:fstT (s :: t :: l) = s.From:=rfl
   rw [e1,e3];rw [e2] at h2;omega
theorem lst_tick {l:List Span} (h:RightL l) (hn:l ≠ []):ZB (lstT l)∧ZB (fstT l):=by
 have h1:l.getLast? = some (l.getLast hn):=Y0C hn
 have h2:l.head? = some (l.head hn):=Y0E hn
 obtain ⟨j,hj⟩:=YC (List.getLast_mem hn)
 obtain ⟨k,hk⟩:=YC (List.head_mem hn)
 unfold lstT fstT
 rw [h1,h2]
 exact ⟨(h.ok j _ hj).2.1,(h.ok k _ hk).1⟩
def full (f:Form):List (List Span):=f.Core.filter (fun l => decide (l.length > 0))
def Turns (f:Form):Prop:=(∀ (k:Nat) (a b:List Span),(full f)[k]? = some a→(full f)[k + 1]? = some b→lstT a < fstT b)∧∀ a b,(full f).getLast? = some a→(full f).head? = some b→lstT a < fstT b + f.Period
theorem full_loop {f:Form} (hl:Lim f):loopO (Z03.s0 f) (0,[]) = some (full f):=by
 have hlen:=Z1w (b:=23) hl.core
 refine Z2J (I:=fun s r => r = full f∧∃ k:Nat,k≤f.Core.length∧s = ((k:Int),(f.Core.take k).filter (fun l => decide (l.length > 0)))) (fun s => f.Core.length - s.1.toNat) ?_ ⟨rfl,0,Yb _,by simp⟩
 rintro s r ⟨rfl,k,hk,rfl⟩
 unfold Z03.s0
 by_cases hlt:k < f.Core.length
 ·have htake:f.Core.take (k + 1) = f.Core.take k ++ [f.Core[k]]:=Y0P hlt
  simp only;rw [Zf (show (k:Int) < f.Core.length by omega),cond_true,at?_nat hlt,ZL (by omega)]
  simp only [Y0];refine .inl ?_;have hfl:((f.Core.take k).filter (fun l => decide (l.length > 0))).length≤k:=YT (Y0M _ _) (by rw [YR];exact Nat.min_le_left _ _)
  by_cases hc:f.Core[k].length > 0
  ·rw [Zf (show ((f.Core[k].length:Int) > 0) by omega),cond_true,app?_ok (by have h1:=hl.core;rw [Z11] at h1;rw [Z57];simp only [Yw];omega)]
   exact ⟨_,rfl,⟨trivial,k + 1,hlt,by rw [htake,List.filter_append];simp [hc]⟩,by simp;omega⟩
  ·rw [Zu (show ¬ ((f.Core[k].length:Int) > 0) by omega),cond_false]
   exact ⟨_,rfl,⟨trivial,k + 1,hlt,by rw [htake,List.filter_append];simp [hc]⟩,by simp;omega⟩
 ·have:k = f.Core.length:=by omega
  subst this;simp only;rw [Zu (show ¬ ((f.Core.length:Int) < f.Core.length) by omega),cond_false,Y0I]
  exact .inr rfl
theorem gran_turns_eq {f:Form} (hl:Lim f) (hs:Shape f):∃ b,Z03 f = some b∧(b = true ↔ Turns f):=by
 have hlen:=Z1w (b:=23) hl.core
 have hfl:(full f).length≤f.Core.length:=Y0M _ _
 have hmem:∀ x ∈ full f,x ∈ f.Core∧x ≠ []:=fun x hx => by
  have:=List.mem_filter.1 hx
  exact ⟨this.1,by rintro rfl;simp at this⟩
 unfold Z03
 rw [full_loop hl]
 simp only [Y0]
 rcases Z45 (l:=full f) (step:=Z03.s1 f (full f)) (fun k a => ∀ b,(full f)[(k + 1) % (full f).length]? = some b→lstT a < fstT b + (if k + 1 = (full f).length then f.Period else 0)) (no:=.ret false) (yes:=.go ()) (fun k a hk _ => by
   obtain ⟨h1,h2⟩:=Z9z hk
   have hkl:k < (full f).length:=by omega
   have hmod:(k + 1) % (full f).length < (full f).length:=Nat.mod_lt _ (by omega)
   have hnext:at? (full f) ((((k + 1) % (full f).length:Nat):Int)) = some (full f)[(k + 1) % (full f).length]:=at?_nat hmod
   obtain ⟨ha1,ha2⟩:=hmem a (Y6 hk)
   obtain ⟨hb1,hb2⟩:=hmem _ (YZ hmod)
   have hra:=hs.core a ha1
   have hrb:=hs.core _ hb1
   have hal:a.length - 1 < a.length:=by have:=List.length_pos_iff.2 ha2;omega
   have hlast:at? a (w64 ((a.length:Int) - 1)) = some a[a.length - 1]:=by
    have:=Z1w (b:=15) (hl.sets a ha1).1
    rw [ZL (by omega),show (a.length:Int) - 1 = ((a.length - 1:Nat):Int) by omega,at?_nat hal]
   have hlt:lstT a = a[a.length - 1].To:=by unfold lstT;rw [Y0N,Y2 hal];rfl
   unfold Z03.s1;rw [Zf h2,cond_true,h1,nz?_ok (by omega),ZL (x:=(k:Int) + 1) (by omega)]
   have htm:((k:Int) + 1).tmod ((full f).length:Int) = (((k + 1) % (full f).length:Nat):Int):=by
    rw [Int.tmod_eq_emod_of_nonneg (by omega)];push_cast;rfl
   simp only [Y0,htm,hnext,hlast];rw [Y2 hmod];generalize (full f)[(k + 1) % (full f).length] = b at *
   have hb0:at? b 0 = some (b.head hb2):=by
    cases b with
    | nil => exact absurd rfl hb2
    | cons y b => rfl
   have hbf:fstT b = (b.head hb2).From:=by unfold fstT;rw [Y0E hb2];rfl
   have htick:=(lst_tick hrb hb2).2
   unfold ZB at htick;have hper:=hs.per
   by_cases hl1:k + 1 = (full f).length
   ·have e:((k:Int) + 1 == ((full f).length:Int)) = true:=Z5M (by omega)
    rw [e,cond_true];simp only [Y0,hb0,← hbf,ZL (show -9223372036854775808≤fstT b + f.Period∧fstT b + f.Period≤9223372036854775807 by omega),← hlt,if_pos hl1]
    by_cases hc:lstT a ≥ fstT b + f.Period
    ·rw [Zf hc];exact .inr ⟨rfl,fun h => by have:=h b rfl;omega⟩
    ·rw [Zu hc];exact .inl ⟨rfl,fun b' hb' => by cases hb';omega⟩
   ·have e:((k:Int) + 1 == ((full f).length:Int)) = false:=Z3Y (by omega)
    rw [e,cond_false];simp only [Y0,hb0,← hbf,ZL (show -9223372036854775808≤fstT b + 0∧fstT b + 0≤9223372036854775807 by omega),← hlt,if_neg hl1]
    by_cases hc:lstT a ≥ fstT b + 0
    ·rw [Zf hc];exact .inr ⟨rfl,fun h => by have:=h b rfl;omega⟩
    ·rw [Zu hc];exact .inl ⟨rfl,fun b' hb' => by cases hb';omega⟩) (by unfold Z03.s1;rw [Zu (by omega)];rfl) with ⟨h1,h2⟩ | ⟨h1,h2⟩
 ·rw [h1];refine ⟨true,rfl,fun _ => ⟨fun k a b ha hb => ?_,fun a b ha hb => ?_⟩,fun _ => rfl⟩
  ·have hkl:=(List.getElem?_eq_some_iff.1 hb).1
   have:=h2 k a ha b (by rw [Nat.mod_eq_of_lt hkl];exact hb)
   rw [if_neg (by omega)] at this;omega
  ·have hn:full f ≠ []:=by rintro e;rw [e] at ha;simp at ha
   have hpos:=List.length_pos_iff.2 hn
   rw [Y0N] at ha;have e1:(full f).length - 1 + 1 = (full f).length:=by omega
   have:=h2 _ a ha b (by rw [e1,Nat.mod_self,← List.head?_eq_getElem?];exact hb)
   rw [if_pos e1] at this;exact this
 ·rw [h1];refine ⟨false,rfl,fun h => (by cases h),fun h => absurd (fun k a hk b hb => ?_) h2⟩
  have hkl:=(List.getElem?_eq_some_iff.1 hk).1
  by_cases hl1:k + 1 = (full f).length
  ·rw [if_pos hl1];rw [hl1,Nat.mod_self,← List.head?_eq_getElem?] at hb;exact h.2 a b (by rw [Y0N,← hl1];exact hk) hb
  ·rw [if_neg hl1];rw [Nat.mod_eq_of_lt (by omega)] at hb
   have:=h.1 k a b hk hb;omega
end Go.Dn

namespace Go.Dn
open Go
theorem ZAW {l:List (List Span)} {p:List Span→Bool} (hl:l.length * 24≤reachBytes):ZM l (fun z => some (p z)) = some (decide (∃ x ∈ l,p x = true)):=by
 have hlen:=Z1w (b:=23) hl
 unfold ZM Z7
 by_cases hall:∀ (k:Nat) (x:List Span),l[k]? = some x→¬ p x = true
 ·have:loopO (Z7.s0 l (fun z => some (p z))) 0 = some (.go ()):=by
   refine Z2J (I:=fun (s:Int) r => r = .go ()∧∃ k:Nat,s = k∧k≤l.length) (fun s => l.length - s.toNat) ?_ ⟨rfl,0,rfl,Yb _⟩
   rintro s r ⟨rfl,k,rfl,hk⟩;unfold Z7.s0
   by_cases hlt:k < l.length
   ·rw [Zf (show (k:Int) < l.length by omega),cond_true,at?_nat hlt,ZL (by omega)]
    have:=hall k _ (Y2 hlt)
    simp only [Y0,Y0H] at this ⊢;rw [this];exact .inl ⟨_,rfl,⟨trivial,k + 1,by push_cast;rfl,hlt⟩,by simp;omega⟩
   ·rw [Zu (show ¬ (k:Int) < l.length by omega)];exact .inr rfl
  rw [this,Zu (by rintro ⟨x,hx,hp⟩;obtain ⟨k,hk⟩:=YC hx;exact hall k x hk hp)]
  rfl
 ·obtain ⟨k0,x0,hx0,hb0,hg⟩:=Z9f (good:=fun _ x => ¬ p x = true) hall
  have hb0:p x0 = true:=Classical.byContradiction hb0
  have hlt0:=(List.getElem?_eq_some_iff.1 hx0).1
  have:loopO (Z7.s0 l (fun z => some (p z))) 0 = some (.ret (k0:Int)):=by
   refine Z2J (I:=fun (s:Int) r => r = .ret (k0:Int)∧∃ k:Nat,s = k∧k≤k0) (fun s => l.length - s.toNat) ?_ ⟨rfl,0,rfl,Yb _⟩
   rintro s r ⟨rfl,k,rfl,hk⟩;unfold Z7.s0;have hkl:k < l.length:=by omega
   rw [Zf (show (k:Int) < l.length by omega),cond_true,at?_nat hkl,ZL (by omega)]
   by_cases hlt:k < k0
   ·have:=hg k _ hlt (Y2 hkl)
    simp only [Y0,Y0H] at this ⊢;rw [this];exact .inl ⟨_,rfl,⟨trivial,k + 1,by push_cast;rfl,hlt⟩,by simp;omega⟩
   ·have:k = k0:=by omega
    subst this;rw [Y2 hkl] at hx0;cases hx0;simp only [Y0,hb0];exact .inr rfl
  rw [this,Zf ⟨x0,Y6 hx0,hb0⟩];simp only [Y0,Jx.elim];rw [Zf (by omega)]
def Bare (f:Form):Prop:=∀ l ∈ f.Core,l = []
theorem Z6C {f:Form} (hl:Lim f):∃ b,Z2i f = some b∧(b = true ↔ Bare f):=by
 unfold Z2i
 rw [ZAW hl.core]
 refine ⟨_,rfl,?_⟩
 simp only [Z4B,YV,decide_eq_false_iff_not,decide_eq_true_eq]
 constructor
 ·intro h l hm;apply Classical.byContradiction;intro hn;exact h ⟨l,hm,by have:=List.length_pos_iff.2 hn;omega⟩
 ·rintro h ⟨l,hm,hp⟩;rw [h l hm] at hp;simp at hp
theorem Z6N {f:Form} (hs:Shape f) (hb:Bare f) {i:Int} (ho:¬ Z2p f i):ZH f i = []:=by
 by_cases h0:f.Count = 0
 ·exact Z2b ho h0
 ·exact (Z1r ho h0).2 (hb _ (Z1M hs h0 i).2)
def UpTo (f:Form) (i:Int) (r:Int × Bool):Prop:=(r.2 = true∧i≤r.1∧ZB r.1∧ZH f r.1 ≠ []∧∀ k,i≤k→k < r.1→ZH f k = [])∨(r.2 = false∧r.1 = 0∧∀ k,i≤k→ZB k→ZH f k = [])
def DownTo (f:Form) (i:Int) (r:Int × Bool):Prop:=(r.2 = true∧r.1≤i∧ZB r.1∧ZH f r.1 ≠ []∧∀ k,k≤i→r.1 < k→ZH f k = [])∨(r.2 = false∧r.1 = 0∧∀ k,k≤i→ZB k→ZH f k = [])
theorem odd_split {f:Form} (hs:Shape f) {p:Nat} {i:Int} (hp:∀ (k:Nat) (g:Granule),f.Odd[k]? = some g→(k < p ↔ g.Index < i)) {j:Int} (hj:Z2p f j):∃ (k:Nat) (g:Granule),f.Odd[k]? = some g∧g.Index = j∧(k < p ↔ j < i):=by
 obtain ⟨g,hg,rfl⟩:=hj
 obtain ⟨k,hk⟩:=YC hg
 exact ⟨k,g,hk,rfl,hp k g hk⟩
theorem gran_step_up {f:Form} (hl:Lim f) (hs:Shape f) {i:Int} (hi : -1099511627776≤i∧i≤1099511627776):∃ r,Zj f i 1 = some r∧UpTo f i r:=by
 have hi64:In64 i:=by unfold In64;omega
 obtain ⟨b,hb,hbb⟩:=Z6C hl
 have holen:=Z1w (b:=31) hl.odd
 unfold Zj
 rw [hb]
 simp only [Y0]
 cases b with
 | true =>
  have hbare:=hbb.1 rfl
  rw [cond_true];obtain ⟨p,h1,h2,h3⟩:=Z5I hl hs.inc i
  rw [h3];simp only [Y0,Zu (show ¬ (1:Int) < 0 by omega),Y0J,cond_false]
  obtain ⟨r,hr,hpost⟩:=Z1F (step:=Zj.s0 f 1) (I:=fun (s:Int) => ∃ k:Nat,s = k∧p≤k∧k≤f.Odd.length∧∀ (j:Nat) (g:Granule),f.Odd[j]? = some g→p≤j→j < k→g.Ticks = []) (fun s => f.Odd.length - s.toNat)
   (fun r => (∃ (k:Nat) (g:Granule),r = .ret (g.Index,true)∧f.Odd[k]? = some g∧p≤k∧g.Ticks ≠ []∧∀ (j:Nat) (g':Granule),f.Odd[j]? = some g'→p≤j→j < k→g'.Ticks = [])∨(r = .go ()∧∀ (j:Nat) (g':Granule),f.Odd[j]? = some g'→p≤j→g'.Ticks = [])) (by
   rintro s ⟨k,rfl,hpk,hk,hn⟩;unfold Zj.s0
   by_cases hlt:k < f.Odd.length
   ·rw [Zf (show (k:Int) ≥ 0 by omega),Zf (show (k:Int) < f.Odd.length by omega),Yh,cond_true,at?_nat hlt,ZL (by omega)]
    simp only [Y0];have hget:=Y2 hlt
    by_cases hc:f.Odd[k].Ticks = []
    ·rw [hc];refine .inl ⟨(k:Int) + 1,rfl,⟨k + 1,by push_cast;rfl,by omega,hlt,fun j g hj hpj hjk => ?_⟩,by simp;omega⟩
     rcases YK j k with h | h
     ·exact hn j g hj hpj h
     ·have:j = k:=by omega
      subst this;rw [hget] at hj;cases hj;exact hc
    ·rw [Zf (show ((f.Odd[k].Ticks.length:Int) > 0) by have:=List.length_pos_iff.2 hc;omega),cond_true]
     exact .inr ⟨_,rfl,.inl ⟨k,_,rfl,hget,hpk,hc,hn⟩⟩
   ·rw [Zu (show ¬ (k:Int) < f.Odd.length by omega),Y0b,cond_false]
    refine .inr ⟨_,rfl,.inr ⟨rfl,fun j g hj hpj => hn j g hj hpj ?_⟩⟩
    have:=(List.getElem?_eq_some_iff.1 hj).1;omega) (p:Int) ⟨p,rfl,YB _,h1,fun j g _ h h' => by omega⟩
  rw [hr];simp only [Y0]
  rcases hpost with ⟨k,g,rfl,hk,hpk,hne,hn⟩ | ⟨rfl,hn⟩
  ·have hset:=Z0p hs.inc (Y6 hk)
   have hgi:¬ g.Index < i:=fun h => by have:=(h2 k g hk).2 h;omega
   refine ⟨_,rfl,.inl ⟨rfl,by simp only;omega,(hs.odd g (Y6 hk)).2,by simp only;rw [hset];exact hne,fun j hij hjg => ?_⟩⟩
   simp only at hjg
   by_cases ho:Z2p f j
   ·obtain ⟨k',g',hk',rfl,hiff⟩:=odd_split hs h2 ho
    rw [Z0p hs.inc (Y6 hk')];refine hn k' g' hk' ?_ ?_
    ·rcases YK k' p with h | h
     ·have:=hiff.1 h;omega
     ·exact h
    ·rcases YK k' k with h | h
     ·exact h
     ·rcases YK k k' with h' | h'
      ·have:=hs.inc k k' g g' h' hk hk';omega
      ·have:k = k':=by omega
       subst this;rw [hk] at hk';cases hk';omega
   ·exact Z6N hs hbare ho
  ·refine ⟨_,rfl,.inr ⟨rfl,rfl,fun j hij _ => ?_⟩⟩
   by_cases ho:Z2p f j
   ·obtain ⟨k',g',hk',rfl,hiff⟩:=odd_split hs h2 ho
    rw [Z0p hs.inc (Y6 hk')];refine hn k' g' hk' ?_
    rcases YK k' p with h | h
    ·have:=hiff.1 h;omega
    ·exact h
   ·exact Z6N hs hbare ho
 | false =>
  rw [cond_false];obtain ⟨r,hr,hpost⟩:=Z1F (step:=Zj.s1 f 1) (I:=fun (s:Int) => i≤s∧s≤1099511627777∧∀ k,i≤k→k < s→ZH f k = []) (fun s => (1099511627777 - s).toNat)
   (fun r => (∃ j,r = .ret (j,true)∧i≤j∧ZB j∧ZH f j ≠ []∧∀ k,i≤k→k < j→ZH f k = [])∨(r = .go ()∧∀ k,i≤k→ZB k→ZH f k = [])) (by
   rintro s ⟨hs1,hs2,hn⟩;unfold Zj.s1;rw [Z6K]
   by_cases ht:ZB s
   ·rw [Zf ht,cond_true,Z9E hl hs (Z27 ht),ZL (by unfold ZB at ht;omega)]
    simp only [Y0]
    by_cases hc:ZH f s = []
    ·rw [hc];refine .inl ⟨s + 1,by simp,⟨by omega,by unfold ZB at ht;omega,fun k hk hks => ?_⟩,by unfold ZB at ht;omega⟩
     by_cases h:k = s
     ·rw [h];exact hc
     ·exact hn k hk (by omega)
    ·rw [Zf hc,cond_true];exact .inr ⟨_,rfl,.inl ⟨s,rfl,hs1,ht,hc,hn⟩⟩
   ·rw [Zu ht,cond_false];exact .inr ⟨_,rfl,.inr ⟨rfl,fun k hk htk => hn k hk (by unfold ZB at ht htk;omega)⟩⟩) i ⟨Y0a _,by omega,fun k h h' => by omega⟩
  rw [hr];simp only [Y0]
  rcases hpost with ⟨j,rfl,h1,h2,h3,h4⟩ | ⟨rfl,hn⟩
  ·exact ⟨_,rfl,.inl ⟨rfl,h1,h2,h3,h4⟩⟩
  ·exact ⟨_,rfl,.inr ⟨rfl,rfl,hn⟩⟩
theorem ZAk {f:Form} (hl:Lim f) (hs:Shape f) {i:Int} (hi : -1099511627776≤i∧i≤1099511627776):∃ r,Zj f i (-1) = some r∧DownTo f i r:=by
 have hi64:In64 i:=by unfold In64;omega
 obtain ⟨b,hb,hbb⟩:=Z6C hl
 have holen:=Z1w (b:=31) hl.odd
 unfold Zj
 rw [hb]
 simp only [Y0]
 cases b with
 | true =>
  have hbare:=hbb.1 rfl
  rw [cond_true];obtain ⟨p,h1,h2,h3⟩:=Z5I hl hs.inc i
  rw [h3]
  -- the number of exceptions up to the index
  obtain ⟨q,hq1,hq2,hq3⟩ : ∃ q:Nat,q≤f.Odd.length∧(∀ (k:Nat) (g:Granule),f.Odd[k]? = some g→(k < q ↔ g.Index≤i))∧((bif (decide ((-1:Int) < 0) && !decide (∃ g,f.Odd[p]? = some g∧g.Index = i)) then some (w64 ((p:Int) - 1)) else some (p:Int)):Option Int) = some ((q:Int) - 1):=by
   by_cases he:∃ g,f.Odd[p]? = some g∧g.Index = i
   ·obtain ⟨g,hg,hgi⟩:=he
    have hpl:=(List.getElem?_eq_some_iff.1 hg).1
    refine ⟨p + 1,by omega,fun k g' hk => ?_,by rw [Zf (p:=∃ g,f.Odd[p]? = some g∧g.Index = i) ⟨g,hg,hgi⟩];simp⟩
    have:=h2 k g' hk
    constructor
    ·intro h
     rcases YK k p with h' | h'
     ·have:=this.1 h';omega
     ·have:k = p:=by omega
      subst this;rw [hg] at hk;cases hk;omega
    ·intro h
     rcases YK p k with h' | h'
     ·have:=hs.inc p k g g' h' hg hk;omega
     ·omega
   ·refine ⟨p,h1,fun k g' hk => ?_,by rw [Zu (p:=∃ g,f.Odd[p]? = some g∧g.Index = i) he,ZL (by omega)];simp⟩
    have:=h2 k g' hk
    constructor
    ·intro h;have:=this.1 h;omega
    ·intro h
     by_cases hgi:g'.Index = i
     ·exfalso
      have hkp:¬ k < p:=fun h' => by have:=this.1 h';omega
      rcases YK p k with h' | h'
      ·have hpl:p < f.Odd.length:=by have:=(List.getElem?_eq_some_iff.1 hk).1;omega
       have h5:=hs.inc p k _ g' h' (Y2 hpl) hk
       have h6:=(h2 p _ (Y2 hpl)).2 (by omega)
       omega
      ·have:k = p:=by omega
       subst this;exact he ⟨g',hk,hgi⟩
     ·exact this.2 (by omega)
  simp only [Y0];rw [hq3];simp only [Y0];obtain ⟨r,hr,hpost⟩:=Z1F (step:=Zj.s0 f (-1)) (I:=fun (s:Int) => ∃ k:Nat,s = (k:Int) - 1∧k≤q∧∀ (j:Nat) (g:Granule),f.Odd[j]? = some g→k≤j→j < q→g.Ticks = []) (fun s => (s + 1).toNat)
   (fun r => (∃ (k:Nat) (g:Granule),r = .ret (g.Index,true)∧f.Odd[k]? = some g∧k < q∧g.Ticks ≠ []∧∀ (j:Nat) (g':Granule),f.Odd[j]? = some g'→k < j→j < q→g'.Ticks = [])∨(r = .go ()∧∀ (j:Nat) (g':Granule),f.Odd[j]? = some g'→j < q→g'.Ticks = [])) (by
   rintro s ⟨k,rfl,hk,hn⟩;unfold Zj.s0
   by_cases h0:0 < k
   ·have hlt:k - 1 < f.Odd.length:=by omega
    rw [Zf (show (k:Int) - 1 ≥ 0 by omega),Zf (show (k:Int) - 1 < f.Odd.length by omega),Yh,cond_true,show (k:Int) - 1 = ((k - 1:Nat):Int) by omega,at?_nat hlt,ZL (by omega)]
    simp only [Y0];have hget:=Y2 hlt
    by_cases hc:f.Odd[k - 1].Ticks = []
    ·rw [hc];refine .inl ⟨((k - 1:Nat):Int) + -1,rfl,⟨k - 1,by omega,by omega,fun j g hj hpj hjk => ?_⟩,by simp;omega⟩
     rcases YK j k with h | h
     ·have:j = k - 1:=by omega
      subst this;rw [hget] at hj;cases hj;exact hc
     ·exact hn j g hj h hjk
    ·rw [Zf (show ((f.Odd[k - 1].Ticks.length:Int) > 0) by have:=List.length_pos_iff.2 hc;omega),cond_true]
     exact .inr ⟨_,rfl,.inl ⟨k - 1,_,rfl,hget,by omega,hc,fun j g hj h1 h2 => hn j g hj (by omega) h2⟩⟩
   ·rw [Zu (show ¬ (k:Int) - 1 ≥ 0 by omega),Y0J,cond_false]
    exact .inr ⟨_,rfl,.inr ⟨rfl,fun j g hj hjq => hn j g hj (by omega) hjq⟩⟩) ((q:Int) - 1) ⟨q,rfl,YB _,fun j g _ h h' => by omega⟩
  rw [hr];simp only [Y0]
  rcases hpost with ⟨k,g,rfl,hk,hkq,hne,hn⟩ | ⟨rfl,hn⟩
  ·have hset:=Z0p hs.inc (Y6 hk)
   have hgi:=(hq2 k g hk).1 hkq
   refine ⟨_,rfl,.inl ⟨rfl,hgi,(hs.odd g (Y6 hk)).2,by simp only;rw [hset];exact hne,fun j hij hjg => ?_⟩⟩
   simp only at hjg
   by_cases ho:Z2p f j
   ·obtain ⟨g',hg',rfl⟩:=ho
    obtain ⟨k',hk'⟩:=YC hg'
    rw [Z0p hs.inc hg'];refine hn k' g' hk' ?_ ((hq2 k' g' hk').2 hij)
    rcases YK k k' with h | h
    ·exact h
    ·rcases YK k' k with h' | h'
     ·have:=hs.inc k' k g' g h' hk' hk;omega
     ·have:k = k':=by omega
      subst this;rw [hk] at hk';cases hk';omega
   ·exact Z6N hs hbare ho
  ·refine ⟨_,rfl,.inr ⟨rfl,rfl,fun j hij _ => ?_⟩⟩
   by_cases ho:Z2p f j
   ·obtain ⟨g',hg',rfl⟩:=ho
    obtain ⟨k',hk'⟩:=YC hg'
    rw [Z0p hs.inc hg'];exact hn k' g' hk' ((hq2 k' g' hk').2 hij)
   ·exact Z6N hs hbare ho
 | false =>
  rw [cond_false];obtain ⟨r,hr,hpost⟩:=Z1F (step:=Zj.s1 f (-1)) (I:=fun (s:Int) => s≤i∧-1099511627777≤s∧∀ k,k≤i→s < k→ZH f k = []) (fun s => (s + 1099511627777).toNat)
   (fun r => (∃ j,r = .ret (j,true)∧j≤i∧ZB j∧ZH f j ≠ []∧∀ k,k≤i→j < k→ZH f k = [])∨(r = .go ()∧∀ k,k≤i→ZB k→ZH f k = [])) (by
   rintro s ⟨hs1,hs2,hn⟩;unfold Zj.s1;rw [Z6K]
   by_cases ht:ZB s
   ·rw [Zf ht,cond_true,Z9E hl hs (Z27 ht),ZL (by unfold ZB at ht;omega)]
    simp only [Y0]
    by_cases hc:ZH f s = []
    ·rw [hc];refine .inl ⟨s + -1,by simp,⟨by omega,by unfold ZB at ht;omega,fun k hk hks => ?_⟩,by unfold ZB at ht;omega⟩
     by_cases h:k = s
     ·rw [h];exact hc
     ·exact hn k hk (by omega)
    ·rw [Zf hc,cond_true];exact .inr ⟨_,rfl,.inl ⟨s,rfl,hs1,ht,hc,hn⟩⟩
   ·rw [Zu ht,cond_false];exact .inr ⟨_,rfl,.inr ⟨rfl,fun k hk htk => hn k hk (by unfold ZB at ht htk;omega)⟩⟩) i ⟨Y0a _,by omega,fun k h h' => by omega⟩
  rw [hr];simp only [Y0]
  rcases hpost with ⟨j,rfl,h1,h2,h3,h4⟩ | ⟨rfl,hn⟩
  ·exact ⟨_,rfl,.inl ⟨rfl,h1,h2,h3,h4⟩⟩
  ·exact ⟨_,rfl,.inr ⟨rfl,rfl,hn⟩⟩
def Above (f:Form) (i:Int) (r:Int × Bool):Prop:=(r.2 = true∧i < r.1∧ZB r.1∧ZH f r.1 ≠ []∧∀ k,i < k→k < r.1→ZB k→ZH f k = [])∨(r.2 = false∧r.1 = 0∧∀ k,i < k→ZB k→ZH f k = [])
def Under (f:Form) (i:Int) (r:Int × Bool):Prop:=(r.2 = true∧r.1 < i∧ZB r.1∧ZH f r.1 ≠ []∧∀ k,k < i→r.1 < k→ZB k→ZH f k = [])∨(r.2 = false∧r.1 = 0∧∀ k,k < i→ZB k→ZH f k = [])
theorem Z4k {f:Form} (hl:Lim f) (hs:Shape f) {i:Int} (hi:In64 i):∃ r,Z0n f i = some r∧Above f i r:=by
 unfold Z0n
 by_cases h:i ≥ 1099511627776
 ·rw [Zf h,cond_true];exact ⟨_,rfl,.inr ⟨rfl,rfl,fun k hk ht => by unfold ZB at ht;omega⟩⟩
 ·rw [Zu h,cond_false,ZL (by unfold In64 at hi;omega)]
  have hm:iMax (i + 1) (-1099511627776) = max (i + 1) (-1099511627776):=by unfold iMax;omega
  rw [hm];obtain ⟨r,h1,h2⟩:=gran_step_up hl hs (i:=max (i + 1) (-1099511627776)) (by omega)
  rw [h1];refine ⟨r,rfl,?_⟩
  rcases h2 with ⟨a,b,c,d,e⟩ | ⟨a,b,e⟩
  ·exact .inl ⟨a,by omega,c,d,fun k hk hkr ht => e k (by unfold ZB at ht;omega) hkr⟩
  ·exact .inr ⟨a,b,fun k hk ht => e k (by have:=ht;unfold ZB at this;omega) ht⟩
theorem Z4l {f:Form} (hl:Lim f) (hs:Shape f) {i:Int} (hi:In64 i):∃ r,Z18 f i = some r∧Under f i r:=by
 unfold Z18
 by_cases h:i≤-1099511627776
 ·rw [Zf h,cond_true];exact ⟨_,rfl,.inr ⟨rfl,rfl,fun k hk ht => by unfold ZB at ht;omega⟩⟩
 ·rw [Zu h,cond_false,ZL (by unfold In64 at hi;omega)]
  have hm:iMin (i - 1) 1099511627776 = min (i - 1) 1099511627776:=by unfold iMin;omega
  rw [hm];obtain ⟨r,h1,h2⟩:=ZAk hl hs (i:=min (i - 1) 1099511627776) (by omega)
  rw [h1];refine ⟨r,rfl,?_⟩
  rcases h2 with ⟨a,b,c,d,e⟩ | ⟨a,b,e⟩
  ·exact .inl ⟨a,by omega,c,d,fun k hk hkr ht => e k (by unfold ZB at ht;omega) hkr⟩
  ·exact .inr ⟨a,b,fun k hk ht => e k (by have:=ht;unfold ZB at this;omega) ht⟩
end Go.Dn

namespace Go.Dn
open Go
def BesideR (f:Form) (i:Int) (lo hi:Int × Bool):Prop :=
 fits f i∧(lo.2 = true→fits f lo.1∧Z36 (ZH f lo.1) (ZH f i))∧(hi.2 = true→fits f hi.1∧Z36 (ZH f i) (ZH f hi.1))∧(lo.2 = true→hi.2 = true→Z36 (ZH f lo.1) (ZH f hi.1))
theorem aheadL_nil_l (b:List Span):Z36 [] b:=by intro x hx;cases hx
theorem aheadL_nil_r (a:List Span):Z36 a []:=by intro x _ y hy;cases hy
theorem Z7H {f:Form} (hl:Lim f) (hs:Shape f) (i:Int):Len (ZH f i):=by
 by_cases ho:Z2p f i
 ·obtain ⟨g,hg,rfl⟩:=ho
  rw [Z0p hs.inc hg];exact (hl.ticks g hg).2.1
 ·by_cases h0:f.Count = 0
  ·rw [Z2b ho h0];unfold Len;simp
  ·rw [Z2W ho h0];unfold Len;rw [Yk];exact (hl.sets _ (Z1M hs h0 i).2).1
theorem Z56 {f:Form} (hs:Shape f) {i:Int} (hf:fits f i):RightL (ZH f i):=by
 by_cases ho:Z2p f i
 ·obtain ⟨g,hg,rfl⟩:=ho
  rw [Z0p hs.inc hg];exact (hs.odd g hg).1
 ·by_cases h0:f.Count = 0
  ·rw [Z2b ho h0];exact ⟨by simp,by simp⟩
  ·unfold fits at hf;rw [Z2W ho h0] at hf ⊢;exact (hs.core _ (Z1M hs h0 i).2).shift fun s hs' => hf (ZW (Z47 f i) s) (List.mem_map.2 ⟨s,hs',rfl⟩)
theorem near_l {c:Bool} {X S:List Span}:Z36 (if c = true then X else []) S ↔ (c = true→Z36 X S):=by
 cases c
 ·simp [aheadL_nil_l]
 ·simp
theorem near_r {c:Bool} {X S:List Span}:Z36 S (if c = true then X else []) ↔ (c = true→Z36 S X):=by
 cases c
 ·simp [aheadL_nil_r]
 ·simp
noncomputable def sideG (f:Form) (r:Int × Bool):Option (Jx (List Span) Bool) :=
 (bif r.2 then (Zt f r.1).bind fun x => (bif (x.2 != 0) then some (.ret false) else some (.go x.1)) else some (.go []))
open Classical in
theorem sideG_eq {f:Form} (hl:Lim f) (hs:Shape f) {r:Int × Bool} (ht:r.2 = true→ZB r.1):(r.2 = true∧¬ fits f r.1∧sideG f r = some (.ret false))∨((r.2 = true→fits f r.1)∧sideG f r = some (.go (if r.2 = true then ZH f r.1 else []))):=by
 obtain ⟨j,c⟩:=r
 unfold sideG
 cases c with
 | false => exact .inr ⟨by simp,by simp⟩
 | true =>
  simp only [cond_true];rw [Z3F hl hs (Z27 (ht rfl))]
  by_cases hfl:fits f j
  ·rw [if_pos ⟨ht rfl,hfl⟩];exact .inr ⟨fun _ => hfl,by simp⟩
  ·rw [if_neg (fun h => hfl h.2)];exact .inl ⟨trivial,hfl,rfl⟩
open Classical in
theorem ZAx {f:Form} (hl:Lim f) (hs:Shape f) {i:Int} (hi:ZB i) {lo hi':Int × Bool} (hlo:Z18 f i = some lo) (hhi:Z0n f i = some hi') (tlo:lo.2 = true→ZB lo.1) (thi:hi'.2 = true→ZB hi'.1) :
  ∃ b,Z1U f i = some b∧(b = true ↔ BesideR f i lo hi'):=by
 have e:Z1U f i = (Zt f i).bind fun x1 => (bif (x1.2 != 0) then some false else (sideG f lo).bind fun y1 => y1.elim (fun r' => some r') fun a2 => (sideG f hi').bind fun y2 => y2.elim (fun r' => some r') fun a4 =>
   (Z0L a2 x1.1).bind fun x6 => ((bif x6 then (Z0L x1.1 a4).bind fun x7 => some x7 else some false)).bind fun y3 => ((bif y3 then (Z0L a2 a4).bind fun x8 => some x8 else some false)).bind fun y4 => some y4):=by
  unfold Z1U sideG;rw [hlo,hhi];simp only [Y0]
 rw [e,Z3F hl hs (Z27 hi)]
 clear e
 by_cases hf:fits f i
 ·rw [if_pos ⟨hi,hf⟩];simp only [Y0,bne_self_eq_false,cond_false]
  rcases sideG_eq hl hs tlo with ⟨h1,h2,h0⟩ | ⟨h1,h0⟩
  ·rw [h0];exact ⟨false,rfl,fun h => (by cases h),fun h => absurd (h.2.1 h1).1 h2⟩
  ·rw [h0];simp only [Y0,Jx.elim]
   rcases sideG_eq hl hs thi with ⟨h3,h4,h0'⟩ | ⟨h3,h0'⟩
   ·rw [h0'];exact ⟨false,rfl,fun h => (by cases h),fun h => absurd (h.2.2.1 h3).1 h4⟩
   ·rw [h0'];simp only [Y0];have lenA:Len (if lo.2 = true then ZH f lo.1 else []):=by
     by_cases hc:lo.2 = true
     ·rw [if_pos hc];exact Z7H hl hs _
     ·rw [if_neg hc];unfold Len;simp
    generalize hA:(if lo.2 = true then ZH f lo.1 else []) = A at lenA
    generalize hB:(if hi'.2 = true then ZH f hi'.1 else []) = B
    obtain ⟨r1,q1,p1⟩:=Z4o (b:=ZH f i) lenA
    obtain ⟨r2,q2,p2⟩:=Z4o (a:=ZH f i) (b:=B) (Z7H hl hs i)
    obtain ⟨r3,q3,p3⟩:=Z4o (b:=B) lenA
    rw [q1,q2,q3];subst hA hB;rw [near_l] at p1;rw [near_r] at p2;rw [near_l,near_r] at p3;refine ⟨r1 && r2 && r3,by cases r1 <;> cases r2 <;> rfl,?_⟩
    rw [Y9,Y9,p1,p2,p3]
    constructor
    ·rintro ⟨⟨a,b⟩,c⟩;exact ⟨hf,fun h => ⟨h1 h,a h⟩,fun h => ⟨h3 h,b h⟩,c⟩
    ·rintro ⟨_,a,b,c⟩;exact ⟨⟨fun h => (a h).2,fun h => (b h).2⟩,c⟩
 ·rw [if_neg (fun h => hf h.2)]
  exact ⟨false,rfl,fun h => (by cases h),fun h => absurd h.1 hf⟩
def Beside (f:Form) (i:Int):Prop:=∀ lo hi,Under f i lo→Above f i hi→BesideR f i lo hi
theorem Under.uniq {f:Form} {i:Int} {r r':Int × Bool} (h:Under f i r) (h':Under f i r'):r = r':=by
 obtain ⟨a,b⟩:=r
 obtain ⟨a',b'⟩:=r'
 rcases h with ⟨rfl,h1,h2,h3,h4⟩ | ⟨rfl,rfl,h4⟩ <;> rcases h' with ⟨rfl,k1,k2,k3,k4⟩ | ⟨rfl,rfl,k4⟩
 ·simp only at *
  rcases Int.lt_trichotomy a a' with h | h | h
  ·exact absurd (h4 a' k1 h k2) k3
  ·rw [h]
  ·exact absurd (k4 a h1 h h2) h3
 ·exact absurd (k4 a h1 h2) h3
 ·exact absurd (h4 a' k1 k2) k3
 ·rfl
theorem Above.uniq {f:Form} {i:Int} {r r':Int × Bool} (h:Above f i r) (h':Above f i r'):r = r':=by
 obtain ⟨a,b⟩:=r
 obtain ⟨a',b'⟩:=r'
 rcases h with ⟨rfl,h1,h2,h3,h4⟩ | ⟨rfl,rfl,h4⟩ <;> rcases h' with ⟨rfl,k1,k2,k3,k4⟩ | ⟨rfl,rfl,k4⟩
 ·simp only at *
  rcases Int.lt_trichotomy a a' with h | h | h
  ·exact absurd (k4 a h1 h h2) h3
  ·rw [h]
  ·exact absurd (h4 a' k1 h k2) k3
 ·exact absurd (k4 a h1 h2) h3
 ·exact absurd (h4 a' k1 k2) k3
 ·rfl
theorem ZAY {f:Form} (hl:Lim f) (hs:Shape f) {i:Int} (hi:ZB i):∃ b,Z1U f i = some b∧(b = true ↔ Beside f i):=by
 obtain ⟨lo,h1,h2⟩:=Z4l hl hs (Z27 hi)
 obtain ⟨hi',h3,h4⟩:=Z4k hl hs (Z27 hi)
 obtain ⟨b,h5,h6⟩:=ZAx hl hs hi h1 h3 (fun h => by rcases h2 with ⟨_,_,h,_⟩ | ⟨h',_⟩ <;> simp_all) (fun h => by rcases h4 with ⟨_,_,h,_⟩ | ⟨h',_⟩ <;> simp_all)
 refine ⟨b,h5,h6.trans ⟨fun h lo' hi'' q1 q2 => ?_,fun h => h lo hi' h2 h4⟩⟩
 rw [q1.uniq h2,q2.uniq h4];exact h
def Z59 (f:Form):Nat:=(f.Core.map List.length).sum + (f.Odd.map (·.Ticks.length)).sum
theorem sum_take {α:Type} (g:α→Nat) {l:List α} {k:Nat} (h:k < l.length):((l.take (k + 1)).map g).sum = ((l.take k).map g).sum + g l[k]:=by
 rw [Y0P h,Y05,List.sum_append];simp
theorem Z8m {f:Form} (hl:Lim f) (hc:f.Core.length≤6000) (ho:f.Odd.length≤6000):Zw f = some (Z59 f:Int):=by
 have hr:=Z11
 have lenC:∀ l ∈ f.Core,l.length≤8796093022207:=fun l hm => by have:=(hl.sets l hm).1;unfold Len at this;omega
 have lenO:∀ g ∈ f.Odd,g.Ticks.length≤8796093022207:=fun l hm => by have:=(hl.ticks l hm).2.1;unfold Len at this;omega
 obtain ⟨a,h1,h2,h3⟩:=fold_loop (l:=f.Core) (step:=Zw.s0 f) (f:=fun a _ x => a + (x.length:Int)) (fin:=id) (a0:=(0:Int)) (fun k a => a = ((((f.Core.take k).map List.length).sum:Nat):Int)∧a≤k * 8796093022207) ⟨by simp,by simp⟩ (fun k x a hk ⟨ha,hb⟩ => by
   obtain ⟨q1,q2⟩:=Z9z hk
   have hx:=lenC x (Y6 hk)
   have hkl:k < f.Core.length:=by omega
   have h0:0≤a:=by rw [ha];omega
   unfold Zw.s0;simp only;rw [Zf q2,cond_true,q1,ZL (x:=(k:Int) + 1) (by omega)]
   simp only [Y0];rw [ZL (x:=a + (x.length:Int)) (by omega)]
   refine ⟨rfl,?_,by push_cast;omega⟩
   rw [sum_take _ hkl];rw [Y2 hkl] at hk;cases hk;rw [ha];push_cast;rfl) (fun a _ => by unfold Zw.s0;simp only;rw [Zu (by omega)];rfl)
 rw [Y0I] at h2
 obtain ⟨b,h4,h5,h6⟩:=fold_loop (l:=f.Odd) (step:=Zw.s1 f) (f:=fun a _ x => a + (x.Ticks.length:Int)) (fin:=id) (a0:=a) (fun k b => b = a + ((((f.Odd.take k).map (·.Ticks.length)).sum:Nat):Int)∧b≤a + k * 8796093022207) ⟨by simp,by simp⟩ (fun k x b hk ⟨ha,hb⟩ => by
   obtain ⟨q1,q2⟩:=Z9z hk
   have hx:=lenO x (Y6 hk)
   have hkl:k < f.Odd.length:=by omega
   have h0:0≤b:=by rw [ha,h2];omega
   unfold Zw.s1;simp only;rw [Zf q2,cond_true,q1,ZL (x:=(k:Int) + 1) (by omega)]
   simp only [Y0];rw [ZL (x:=b + (x.Ticks.length:Int)) (by omega)]
   refine ⟨rfl,?_,by push_cast;omega⟩
   rw [sum_take _ hkl];rw [Y2 hkl] at hk;cases hk;rw [ha];push_cast;omega) (fun a _ => by unfold Zw.s1;simp only;rw [Zu (by omega)];rfl)
 rw [Y0I] at h5
 unfold Zw
 rw [h1]
 simp only [Y0,id]
 rw [h4]
 simp only [Y0,id,h5,h2,Z59]
 push_cast;rfl
structure RightF (f:Form):Prop where
 shape:Shape f
 turns:Turns f
 beside:∀ g ∈ f.Odd,Beside f g.Index
def Z6Z (f:Form):Prop:=6000 < f.Core.length∨6000 < f.Odd.length∨60000 < Z59 f
theorem Z5Y {f:Form} (hl:Lim f):(Z6Z f∧Zn f = some 3)∨(¬ Z6Z f∧RightF f∧Zn f = some 0)∨(¬ Z6Z f∧¬ RightF f∧Zn f = some 50):=by
 have holen:=Z1w (b:=31) hl.odd
 unfold Zn
 by_cases h1:6000 < f.Core.length∨6000 < f.Odd.length
 ·have e:(decide ((f.Core.length:Int) > 6000) || decide ((f.Odd.length:Int) > 6000)) = true:=by
   rcases h1 with h | h
   ·rw [Zf (show (f.Core.length:Int) > 6000 by omega)];rfl
   ·rw [Zf (show (f.Odd.length:Int) > 6000 by omega)];simp
  rw [e];exact .inl ⟨h1.elim .inl (fun h => .inr (.inl h)),rfl⟩
 ·have e:(decide ((f.Core.length:Int) > 6000) || decide ((f.Odd.length:Int) > 6000)) = false:=by
   rw [Zu (show ¬ (f.Core.length:Int) > 6000 by omega),Zu (show ¬ (f.Odd.length:Int) > 6000 by omega)];rfl
  rw [e,cond_false,Z8m hl (by omega) (by omega)]
  simp only [Y0]
  by_cases h2:60000 < Z59 f
  ·rw [Zf (show (Z59 f:Int) > 60000 by omega)]
   exact .inl ⟨.inr (.inr h2),rfl⟩
  ·have hnl:¬ Z6Z f:=by unfold Z6Z;omega
   rw [Zu (show ¬ (Z59 f:Int) > 60000 by omega),cond_false]
   obtain ⟨b,hb,hbs⟩:=gran_shape_eq hl
   rw [hb];simp only [Y0];refine .inr ?_;cases b with
   | false => exact .inr ⟨hnl,fun h => (by have:=hbs.2 h.shape;cases this),rfl⟩
   | true =>
    have hs:=hbs.1 rfl
    obtain ⟨c,hc,hct⟩:=gran_turns_eq hl hs
    rw [hc];simp only [Y0,Ys,cond_false];cases c with
    | false => exact .inr ⟨hnl,fun h => (by have:=hct.2 h.turns;cases this),rfl⟩
    | true =>
     simp only [Ys,cond_false]
     rcases Z45 (l:=f.Odd) (step:=Zn.s0 f) (fun _ g => Beside f g.Index) (no:=.ret 50) (yes:=.go ()) (fun k g hk _ => by
       obtain ⟨q1,q2⟩:=Z9z hk
       obtain ⟨b,hb,hbb⟩:=ZAY hl hs (hs.odd g (Y6 hk)).2
       unfold Zn.s0;rw [Zf q2,cond_true,q1,ZL (by omega)]
       simp only [Y0,hb];cases b
       ·exact .inr ⟨rfl,fun h => by have:=hbb.2 h;cases this⟩
       ·exact .inl ⟨rfl,hbb.1 rfl⟩) (by unfold Zn.s0;rw [Zu (by omega)];rfl) with ⟨q1,q2⟩ | ⟨q1,q2⟩
     ·rw [q1];exact .inl ⟨hnl,⟨hs,hct.1 rfl,fun g hg => by obtain ⟨k,hk⟩:=YC hg;exact q2 k g hk⟩,rfl⟩
     ·rw [q1];exact .inr ⟨hnl,fun h => q2 fun k g hk => h.beside g (Y6 hk),rfl⟩
def Z9u (f:Form):Prop:=f.Core.length≤12∧f.Odd.length≤8∧Z59 f≤60
theorem Z7Y {f:Form} (hl:Lim f):∃ b,Z0h f = some b∧(b = true ↔ Z9u f):=by
 unfold Z0h
 by_cases h:f.Core.length≤12∧f.Odd.length≤8
 ·rw [Zf (show (f.Core.length:Int)≤12 by omega),Zf (show (f.Odd.length:Int)≤8 by omega),Z8m hl (by omega) (by omega)]
  refine ⟨decide ((Z59 f:Int)≤60),rfl,?_⟩;rw [decide_eq_true_iff];exact ⟨fun h' => ⟨h.1,h.2,by omega⟩,fun h' => by have:=h'.2.2;omega⟩
 ·have e:(decide ((f.Core.length:Int)≤12) && decide ((f.Odd.length:Int)≤8)) = false:=by
   by_cases h1:f.Core.length≤12
   ·rw [Zu (show ¬ (f.Odd.length:Int)≤8 by omega)];simp
   ·rw [Zu (show ¬ (f.Core.length:Int)≤12 by omega)];rfl
  rw [e];exact ⟨false,rfl,fun h => (by cases h),fun h' => absurd ⟨h'.1,h'.2.1⟩ h⟩
end Go.Dn

namespace Go.Dn
open Go
theorem Z2v {f:Form} {l:List Span}:l ∈ full f ↔ l ∈ f.Core∧l ≠ []:=by
 unfold full
 rw [List.mem_filter,decide_eq_true_iff,gt_iff_lt,List.length_pos_iff]
theorem full_pair {f:Form} (hs:Shape f) (ht:Turns f):(full f).Pairwise (fun a b => lstT a < fstT b):=by
 have hm:∀ x ∈ full f,fstT x≤lstT x:=fun x hx => Z6B (hs.core x (Z2v.1 hx).1) (Z2v.1 hx).2
 have h1:=ht.1
 generalize full f = l at hm h1
 induction l with
 | nil => exact .nil
 | cons x l ih =>
  have ih:=ih (fun y hy => hm y (YH _ hy)) (fun k a b ha hb => h1 (k + 1) a b ha hb)
  refine List.pairwise_cons.2 ⟨fun y hy => ?_,ih⟩
  cases l with
  | nil => cases hy
  | cons z l =>
   have hxz:=h1 0 x z rfl rfl
   rcases List.mem_cons.1 hy with rfl | hy
   ·exact hxz
   ·have:=(List.pairwise_cons.1 ih).1 y hy
    have:=hm z (by simp)
    omega
theorem core_pair {f:Form} (hs:Shape f) (ht:Turns f) {j k:Nat} {a b:List Span} (hjk:j < k) (ha:f.Core[j]? = some a) (hb:f.Core[k]? = some b) (na:a ≠ []) (nb:b ≠ []):lstT a < fstT b:=by
 have h:=full_pair hs ht
 unfold full at h
 rw [List.pairwise_filter] at h
 have hj:=(List.getElem?_eq_some_iff.1 ha)
 have hk:=(List.getElem?_eq_some_iff.1 hb)
 obtain ⟨hj,rfl⟩:=hj
 obtain ⟨hk,rfl⟩:=hk
 exact List.pairwise_iff_getElem.1 h j k hj hk hjk (by rw [decide_eq_true_iff];exact List.length_pos_iff.2 na) (by rw [decide_eq_true_iff];exact List.length_pos_iff.2 nb)
theorem core_turn {f:Form} (hs:Shape f) (ht:Turns f) {a b:List Span} (ha:a ∈ f.Core) (hb:b ∈ f.Core) (na:a ≠ []) (nb:b ≠ []):lstT a < fstT b + f.Period:=by
 have hA:=Z2v.2 ⟨ha,na⟩
 have hB:=Z2v.2 ⟨hb,nb⟩
 have hm:∀ x ∈ full f,fstT x≤lstT x:=fun x hx => Z6B (hs.core x (Z2v.1 hx).1) (Z2v.1 hx).2
 have hn:full f ≠ []:=List.ne_nil_of_mem hA
 have hlast:=Y0C hn
 have hhead:=Y0E hn
 have h2:=ht.2 _ _ hlast hhead
 have hp:=full_pair hs ht
 have e1:lstT a≤lstT ((full f).getLast hn):=by
  obtain ⟨j,hj⟩:=YC hA
  obtain ⟨hjl,hj⟩:=List.getElem?_eq_some_iff.1 hj
  by_cases hc:j = (full f).length - 1
  ·subst hc;rw [List.getLast_eq_getElem,hj];exact Y0a _
  ·have:=List.pairwise_iff_getElem.1 hp j ((full f).length - 1) hjl (by omega) (by omega)
   rw [hj] at this;have h5:=hm _ (List.getLast_mem hn)
   rw [List.getLast_eq_getElem] at h5 ⊢;omega
 have e2:fstT ((full f).head hn)≤fstT b:=by
  obtain ⟨j,hj⟩:=YC hB
  obtain ⟨hjl,hj⟩:=List.getElem?_eq_some_iff.1 hj
  have hh:(full f).head hn = (full f)[0]'(by omega):=List.head_eq_getElem hn
  by_cases hc:j = 0
  ·subst hc;rw [hh,hj];exact Y0a _
  ·have:=List.pairwise_iff_getElem.1 hp 0 j (by omega) hjl (by omega)
   rw [hj,← hh] at this;have h5:=hm _ (List.head_mem hn)
   omega
 omega
theorem ZBR {f:Form} (hs:Shape f) (h0:f.Count ≠ 0) (i:Int):f.Core[(i % f.Count).toNat]? = some (Z0Z f i):=by
 have:=(Z1M hs h0 i).1
 unfold at? at this
 rwa [if_pos (Yf i h0)] at this
theorem ZAt {f:Form} (hs:Shape f) (ht:Turns f) (h0:f.Count ≠ 0) {i k:Int} (hik:i < k) (ni:Z0Z f i ≠ []) (nk:Z0Z f k ≠ []):lstT (Z0Z f i) + Z47 f i < fstT (Z0Z f k) + Z47 f k:=by
 have hp:=Z8v hs h0
 have di:=Yx i f.Count
 have dk:=Yx k f.Count
 have mi:=Yf i h0
 have mk:=Yf k h0
 have li:=Yq i hp
 have lk:=Yq k hp
 have hq:i / f.Count≤k / f.Count:=Int.ediv_le_ediv hp (by omega)
 unfold Z47
 rcases Int.lt_or_eq_of_le hq with h | h
 ·have h1:=core_turn hs ht (Z1M hs h0 i).2 (Z1M hs h0 k).2 ni nk
  have h2:(i / f.Count + 1) * f.Period≤k / f.Count * f.Period:=Yt (by omega) hs.per.1
  rw [Y0p,Int.one_mul] at h2;omega
 ·rw [h] at di ⊢;have:i % f.Count < k % f.Count:=by omega
  have h1:=core_pair hs ht (j:=(i % f.Count).toNat) (k:=(k % f.Count).toNat) (by omega) (ZBR hs h0 i) (ZBR hs h0 k) ni nk
  omega
theorem Z5s {l:List Span} (d:Int) (hn:l ≠ []):lstT (l.map (ZW d)) = lstT l + d∧fstT (l.map (ZW d)) = fstT l + d:=by
 unfold lstT fstT
 rw [List.getLast?_map,List.head?_map,Y0C hn,Y0E hn]
 exact ⟨rfl,rfl⟩
theorem under_some {f:Form} (hl:Lim f) (hs:Shape f) {i k:Int} (hk:In64 k) (hik:i < k) (ti:ZB i) (ni:ZH f i ≠ []):∃ j,Under f k (j,true)∧i≤j:=by
 obtain ⟨r,_,h⟩:=Z4l hl hs hk
 obtain ⟨j,b⟩:=r
 have h':=h
 rcases h with ⟨rfl,h1,h2,h3,h4⟩ | ⟨rfl,_,h4⟩
 ·refine ⟨j,h',?_⟩;apply Classical.byContradiction;intro hc;exact ni (h4 i hik (by simp only;omega) ti)
 ·exact absurd (h4 i hik ti) ni
theorem above_some {f:Form} (hl:Lim f) (hs:Shape f) {i k:Int} (hk:In64 k) (hik:k < i) (ti:ZB i) (ni:ZH f i ≠ []):∃ j,Above f k (j,true)∧j≤i:=by
 obtain ⟨r,_,h⟩:=Z4k hl hs hk
 obtain ⟨j,b⟩:=r
 have h':=h
 rcases h with ⟨rfl,h1,h2,h3,h4⟩ | ⟨rfl,_,h4⟩
 ·refine ⟨j,h',?_⟩;apply Classical.byContradiction;intro hc;exact ni (h4 i hik (by simp only;omega) ti)
 ·exact absurd (h4 i hik ti) ni
theorem RightF.order {f:Form} (hl:Lim f) (hr:RightF f):∀ (n:Nat) (i k:Int),(k - i).toNat = n→i < k→ZB i→ZB k→fits f i→fits f k→ZH f i ≠ []→ZH f k ≠ []→lstT (ZH f i) < fstT (ZH f k):=by
 have hs:=hr.shape
 intro n
 induction n using Nat.strongRecOn with
 | _ n ih =>
  intro i k hn hik ti tk fi fk ni nk
  by_cases ok:Z2p f k
  ·obtain ⟨g,hg,rfl⟩:=ok
   obtain ⟨j,hj,hij⟩:=under_some hl hs (Z27 tk) hik ti ni
   obtain ⟨hi',_,hab⟩:=Z4k hl hs (Z27 tk)
   obtain ⟨_,hlo,_,_⟩:=hr.beside g hg _ _ hj hab
   obtain ⟨fj,aj⟩:=hlo rfl
   have hj2:=hj
   rcases hj2 with ⟨_,j1,j2,j3,j4⟩ | ⟨h,_⟩
   ·simp only at fj aj j1 j2 j3;have hjk:=(ZBA j3 nk).1 aj
    by_cases hji:i = j
    ·rw [hji];exact hjk
    ·have h1:=ih (j - i).toNat (by omega) i j rfl (by omega) ti j2 fi fj ni j3
     have h2:=Z6B (Z56 hs fj) j3
     omega
   ·cases h
  ·by_cases oi:Z2p f i
   ·obtain ⟨g,hg,rfl⟩:=oi
    obtain ⟨j,hj,hij⟩:=above_some hl hs (Z27 ti) hik tk nk
    obtain ⟨lo',_,hun⟩:=Z4l hl hs (Z27 ti)
    obtain ⟨_,_,hhi,_⟩:=hr.beside g hg _ _ hun hj
    obtain ⟨fj,aj⟩:=hhi rfl
    have hj2:=hj
    rcases hj2 with ⟨_,j1,j2,j3,j4⟩ | ⟨h,_⟩
    ·simp only at fj aj j1 j2 j3;have hjk:=(ZBA ni j3).1 aj
     by_cases hji:j = k
     ·rw [← hji];exact hjk
     ·have h1:=ih (k - j).toNat (by omega) j k rfl (by omega) j2 tk fj fk j3 nk
      have h2:=Z6B (Z56 hs fj) j3
      omega
    ·cases h
   ·have h0:f.Count ≠ 0:=fun h => ni (Z2b oi h)
    have ni':=fun h => ni ((Z1r oi h0).2 h)
    have nk':=fun h => nk ((Z1r ok h0).2 h)
    rw [Z2W oi h0,Z2W ok h0,(Z5s _ ni').1,(Z5s _ nk').2];exact ZAt hs hr.turns h0 hik ni' nk'
theorem iMin_eq (a b:Int):iMin a b = min a b:=by unfold iMin;omega
end Go.Dn

namespace Go.Dn
open Go
theorem Above.tick {f:Form} {i:Int} {r:Int × Bool} (h:Above f i r) (hr:r.2 = true):i < r.1∧ZB r.1∧ZH f r.1 ≠ []∧∀ k,i < k→k < r.1→ZB k→ZH f k = []:=by
 rcases h with ⟨_,h1,h2,h3,h4⟩ | ⟨h,_⟩
 ·exact ⟨h1,h2,h3,h4⟩
 ·rw [hr] at h;cases h
theorem Under.tick {f:Form} {i:Int} {r:Int × Bool} (h:Under f i r) (hr:r.2 = true):r.1 < i∧ZB r.1∧ZH f r.1 ≠ []∧∀ k,k < i→r.1 < k→ZB k→ZH f k = []:=by
 rcases h with ⟨_,h1,h2,h3,h4⟩ | ⟨h,_⟩
 ·exact ⟨h1,h2,h3,h4⟩
 ·rw [hr] at h;cases h
end Go.Dn

namespace Go.Dn
open Go
theorem Z5v {α β:Type} {a:List α} {b:List β} {step:Int→Option (Int ⊕ Jx Unit Bool)} {eq:α→β→Option Bool} (P:α→β→Prop)
  (hl:(a.length:Int) < 9223372036854775807) (hab:a.length = b.length)
  (heq:∀ (k:Nat) x y,a[k]? = some x→b[k]? = some y→∃ r,eq x y = some r∧(r = true ↔ P x y))
  (hstep:∀ s,step s = bif decide (s < (a.length:Int)) then (at? a s).bind fun x1 => (at? b s).bind fun x2 => (eq x1 x2).bind fun x3 => bif (!x3) then some (.inr (.ret false)) else some (.inl (w64 (s + 1))) else some (.inr (.go ()))) :
  (loopO step 0 = some (.go ())∧∀ (k:Nat) x y,a[k]? = some x→b[k]? = some y→P x y)∨(loopO step 0 = some (.ret false)∧¬ ∀ (k:Nat) x y,a[k]? = some x→b[k]? = some y→P x y):=by
 rcases Z45 (l:=a) (step:=step) (fun k x => ∀ y,b[k]? = some y→P x y) (no:=.ret false) (yes:=.go ()) (fun k x hk hp => by
  have hlt:=(List.getElem?_eq_some_iff.1 hk).1
  have hat:at? a (k:Int) = some x:=by rw [at?_nat hlt];rw [Y2 hlt] at hk;exact hk
  have hbt:at? b (k:Int) = some (b[k]'(by omega)):=at?_nat (by omega)
  have hbk:b[k]? = some (b[k]'(by omega)):=Y2 (by omega)
  obtain ⟨r,h1,h2⟩:=heq k x _ hk hbk
  rw [hstep,Zf (show (k:Int) < a.length by omega),cond_true,hat,hbt,ZL (show _ by omega)]
  simp only [Y0,h1];cases r with
  | true => exact .inl ⟨rfl,fun y hy => by rw [hbk] at hy;cases hy;exact h2.1 rfl⟩
  | false => exact .inr ⟨rfl,fun h => by have:=h2.2 (h _ hbk);cases this⟩) (by
  rw [hstep,Zu (by omega)];rfl) with ⟨h1,h2⟩ | ⟨h1,h2⟩
 ·exact .inl ⟨h1,fun k x y hx hy => h2 k x hx y hy⟩
 ·exact .inr ⟨h1,fun h => h2 fun k x hx y hy => h k x y hx hy⟩
theorem ZAC {a b:List Span} {d:Int} (hl:a.length = b.length):(∀ (k:Nat) x y,a[k]? = some x→b[k]? = some y→y.From - x.From = d∧y.To - x.To = d) ↔ b = a.map (ZW d):=by
 constructor
 ·intro h;apply Y0X;intro k
  by_cases hk:k < a.length
  ·have h1:a[k]? = some a[k]:=Y2 hk
   have h2:b[k]? = some (b[k]'(by omega)):=Y2 (by omega)
   rw [h2,YL,h1];obtain ⟨q1,q2⟩:=h k _ _ h1 h2
   simp only [Y8,ZW,Y5];generalize b[k]'(by omega) = y at q1 q2 ⊢
   obtain ⟨y1,y2⟩:=y
   simp only at q1 q2;simp only [Span.mk.injEq];omega
  ·rw [YW (by omega),YW (by simp;omega)]
 ·rintro rfl k x y hx hy;rw [YL,hx] at hy;simp only [Y8,Y5] at hy;subst hy;simp only [ZW];omega
theorem Z9d {a b:List Span} {d:Int} (ha:RightL a) (hb:RightL b) (hl:Len a):∃ r,Z1k a b d = some r∧(r = true ↔ b = a.map (ZW d)):=by
 have hl':(a.length:Int) < 9223372036854775807:=by have:=Z11;unfold Len at hl;omega
 unfold Z1k Z5
 by_cases hlen:a.length = b.length
 ·rw [Z5g (by omega),cond_false]
  have tk:∀ {l:List Span},RightL l→∀ (k:Nat) s,l[k]? = some s→ZB s.From∧ZB s.To:=fun {l} h k s hs => by
   have:=Z62.1 h k s hs
   unfold Z43 at this;exact ⟨this.1,this.2.1⟩
  rcases Z5v (a:=a) (b:=b) (step:=Z5.s0 a b (fun z0 z1 => some (Z0s z0 z1 d))) (eq:=fun z0 z1 => some (Z0s z0 z1 d)) (fun x y => y.From - x.From = d∧y.To - x.To = d) hl' hlen (fun k x y hx hy => by
   refine ⟨_,rfl,?_⟩;obtain ⟨x1,x2⟩:=tk ha k x hx
   obtain ⟨y1,y2⟩:=tk hb k y hy
   unfold ZB at x1 x2 y1 y2;unfold Z0s;rw [ZL (by omega),ZL (by omega)]
   simp) (fun s => rfl) with ⟨h1,h2⟩ | ⟨h1,h2⟩
  ·rw [h1];exact ⟨true,rfl,⟨fun _ => (ZAC hlen).1 h2,fun _ => rfl⟩⟩
  ·rw [h1];refine ⟨false,rfl,by simp only [YA,false_iff];exact fun h => h2 ((ZAC hlen).2 h)⟩
 ·rw [bne_t (by omega),cond_true]
  refine ⟨false,rfl,by simp only [YA,false_iff];rintro rfl;exact hlen (by simp)⟩
end Go.Dn

namespace Go.Dn
open Go
noncomputable def cs (f:Form) (i:Int):List Span:=(Z0Z f i).map (ZW (Z47 f i))
theorem Z17 (l:List Span) (a b:Int):(l.map (ZW a)).map (ZW b) = l.map (ZW (a + b)):=by
 rw [List.map_map]
 congr 1
 funext s
 simp only [Function.comp,ZW,Span.mk.injEq]
 omega
theorem shift_inj {a b:List Span} {d:Int} (h:a.map (ZW d) = b.map (ZW d)):a = b:=by
 have:=congrArg (List.map (ZW (-d))) h
 rw [Z17,Z17,Int.add_right_neg,Z86,Z86] at this
 exact this
theorem Z7M {f:Form} (h0:f.Count ≠ 0) (i:Int):cs f (i + f.Count) = (cs f i).map (ZW f.Period):=by
 unfold cs Z0Z Z47
 rw [Z17,Int.add_emod_right,Int.add_ediv_of_dvd_right (Int.dvd_refl _),Int.ediv_self h0,Y0p,Int.one_mul]
theorem Z80 {f:Form} (h0:f.Count ≠ 0) (i k:Int):cs f (i + f.Count * k) = (cs f i).map (ZW (k * f.Period)):=by
 unfold cs Z0Z Z47
 rw [Z17,Int.add_mul_emod_self_left,Int.add_mul_ediv_left _ _ h0,Y0p]
theorem Z4p {f:Form} {i:Int} (h0:0≤i) (h1:i < f.Count):cs f i = f.Core.getD i.toNat []:=by
 unfold cs Z0Z Z47
 rw [Int.emod_eq_of_lt h0 h1,Int.ediv_eq_zero_of_lt h0 h1,Int.zero_mul,Z86]
def TurnZ (f:Form) (d q:Int):Prop:=∀ i,cs f (i + d) = (cs f i).map (ZW q)
theorem turn_of {f:Form} (h0:0 < f.Count) {d q:Int} (h:∀ i,0≤i→i < f.Count→cs f (i + d) = (cs f i).map (ZW q)):TurnZ f d q:=by
 intro i
 have e:i = i % f.Count + f.Count * (i / f.Count):=(Yx i f.Count).symm
 have h1:=h (i % f.Count) (Yf i (by omega)) (Yq i h0)
 have e2:i + d = (i % f.Count + d) + f.Count * (i / f.Count):=by omega
 rw [e2,Z80 (by omega),h1]
 conv => rhs;rw [e,Z80 (by omega)]
 rw [Z17,Z17,Int.add_comm]
def Z5w (f:Form) (d k:Int):Int:=if k + d ≥ f.Count then k + d - f.Count else k + d
def Z7D (f:Form) (d k:Int):Int:=if k + d ≥ f.Count then f.Period else 0
theorem wrap_cs {f:Form} {d k:Int} (hd:1≤d) (hdn:d≤f.Count) (h0:0≤k) (h1:k < f.Count):0≤Z5w f d k∧Z5w f d k < f.Count∧cs f (k + d) = (cs f (Z5w f d k)).map (ZW (Z7D f d k)):=by
 unfold Z5w Z7D
 by_cases h:k + d ≥ f.Count
 ·rw [if_pos h,if_pos h];refine ⟨by omega,by omega,?_⟩
  rw [← Z7M (by omega)]
  congr 1;omega
 ·rw [if_neg h,if_neg h,Z86];exact ⟨by omega,by omega,rfl⟩
theorem canon_turn_eq {f:Form} (hl:Lim f) (hs:Shape f) {d q:Int} (hd:1≤d) (hdn:d≤f.Count) (hq:0≤q∧q≤1099511627776):∃ r,Z0R f d q = some r∧(r = true ↔ TurnZ f d q):=by
 have hcl:(f.Core.length:Int) < 4611686018427387904:=Z1w (b:=23) hl.core
 have hcnt:=hs.count
 have key:∀ k:Int,0≤k→k < f.Count→(cs f (Z5w f d k) = (cs f k).map (ZW (q - Z7D f d k)) ↔ cs f (k + d) = (cs f k).map (ZW q)):=fun k k0 k1 => by
  obtain ⟨_,_,h⟩:=wrap_cs hd hdn k0 k1
  rw [h]
  constructor
  ·intro e;rw [e,Z17]
   congr 2;omega
  ·intro e;apply shift_inj (d:=Z7D f d k)
   rw [e,Z17]
   congr 2;omega
 unfold Z0R
 rcases Z45 (l:=f.Core) (step:=Z0R.s0 f d q) (fun k x => cs f (Z5w f d k) = x.map (ZW (q - Z7D f d k))) (no:=.ret false) (yes:=.go ()) (fun k x hk hp => by
  have hlt:=(List.getElem?_eq_some_iff.1 hk).1
  have hat:at? f.Core (k:Int) = some x:=by rw [at?_nat hlt];rw [Y2 hlt] at hk;exact hk
  obtain ⟨w0,w1,_⟩:=wrap_cs (f:=f) (k:=(k:Int)) hd hdn (by omega) (by omega)
  have hx:=hs.core x (Y6 hk)
  have hlx:=(hl.sets x (Y6 hk)).1
  have hwl:(Z5w f d k).toNat < f.Core.length:=by omega
  have hgw:cs f (Z5w f d k) = f.Core[(Z5w f d k).toNat]:=by rw [Z4p w0 w1,YM,Y2 hwl];rfl
  have hy:=hs.core _ (YZ hwl)
  have hat2:at? f.Core (Z5w f d k) = some f.Core[(Z5w f d k).toNat]:=at?_lt w0 (by omega)
  have hpk:(bif decide (w64 ((k:Int) + d) ≥ f.Count) then some (w64 (w64 ((k:Int) + d) - f.Count),f.Period) else some (w64 ((k:Int) + d),0)) = some (Z5w f d k,Z7D f d k):=by
   rw [ZL (show _ by omega)]
   unfold Z5w Z7D
   by_cases h:(k:Int) + d ≥ f.Count
   ·rw [Zf h,cond_true,if_pos h,if_pos h,ZL (show _ by omega)]
   ·rw [Zu h,cond_false,if_neg h,if_neg h]
  obtain ⟨r,h1,h2⟩:=Z9d (d:=q - Z7D f d k) hx hy hlx
  have hwp:0≤Z7D f d k∧Z7D f d k≤1099511627776:=by have:=hs.per;unfold Z7D;split <;> omega
  unfold Z0R.s0;rw [Zf (show (k:Int) < f.Core.length by omega),cond_true,hat]
  simp only [Y0,hpk,hat2];rw [ZL (show _ by omega),h1]
  simp only [Y0];rw [hgw];cases r with
  | true => exact .inl ⟨by simp only [Ys,cond_false,Y0,Jx.elim];rw [ZL (show _ by omega)],h2.1 rfl⟩
  | false => exact .inr ⟨rfl,fun h => by have:=h2.2 h;cases this⟩) (by
  unfold Z0R.s0;rw [Zu (by omega)];rfl) with ⟨h1,h2⟩ | ⟨h1,h2⟩
 ·rw [h1];refine ⟨true,rfl,⟨fun _ => turn_of (by omega) fun i i0 i1 => ?_,fun _ => rfl⟩⟩
  have hlt:i.toNat < f.Core.length:=by omega
  have:=h2 i.toNat _ (Y2 hlt)
  rw [Y0G i0] at this;refine (key i i0 i1).1 ?_;rw [this,Z4p i0 i1,YM,Y2 hlt];rfl
 ·rw [h1];refine ⟨false,rfl,⟨(fun h => nomatch h),fun ht => absurd (fun k x hk => ?_) h2⟩⟩
  have hlt:=(List.getElem?_eq_some_iff.1 hk).1
  have:=(key k (by omega) (by omega)).2 (ht k)
  rw [this,Z4p (by omega) (by omega),YM,Int.toNat_natCast,hk];rfl
end Go.Dn

namespace Go.Dn
open Go
structure Good (f:Form) (d:Int):Prop where
 pos:1≤d
 dvd:d ∣ f.Count
 rest:f.Period % (f.Count / d) = 0
 turn:TurnZ f d (f.Period / (f.Count / d))
theorem good_self {f:Form} (h0:0 < f.Count):Good f f.Count:=by
 have e:f.Count / f.Count = 1:=Int.ediv_self (by omega)
 exact ⟨by omega,Int.dvd_refl _,by rw [e];omega,by rw [e,Int.ediv_one];exact Z7M (by omega)⟩
theorem copy_loop {x4:List (List Span)} (hc:x4.length * 24≤reachBytes) (hs:∀ l ∈ x4,Len l):loopO (Zh.s1 x4) (0,[]) = some x4:=by
 have hcl:(x4.length:Int) < 4611686018427387904:=Z1w (b:=23) hc
 have hr:=Z11
 have hro:=Z57
 refine Z2J (I:=fun s r => r = x4∧∃ k:Nat,k≤x4.length∧s = ((k:Int),x4.take k)) (fun s => x4.length - s.1.toNat) ?_ ⟨rfl,0,Yb _,rfl⟩
 rintro s r ⟨rfl,k,hk,rfl⟩
 unfold Zh.s1
 by_cases hlt:k < r.length
 ·left
  have hl:=hs _ (YZ hlt)
  unfold Len at hl;have hcp:clone? 16 r[k] = some r[k]:=by unfold clone?;rw [if_pos (by omega)]
  have hap:app? 24 (r.take k) [r[k]] = some (r.take (k + 1)):=by
   rw [app?_ok (by simp only [YR,YD,Yc];have:min k r.length + 1≤r.length:=(by omega);have:=YG 24 this;omega)]
   rw [List.take_append_getElem hlt]
  refine ⟨((k:Int) + 1,r.take (k + 1)),?_,⟨rfl,k + 1,hlt,by push_cast;rfl⟩,by simp;omega⟩
  rw [Zf (show (k:Int) < r.length by omega),cond_true,at?_nat hlt]
  simp only [Y0,hcp,hap];rw [ZL (show _ by omega)]
 ·right
  have:k = r.length:=by omega
  subst this;rw [Zu (show ¬ ((r.length:Int) < r.length) by omega),cond_false,Y0I]
theorem core_b0_eq {f:Form} (hl:Lim f) (hs:Shape f) {d:Int} (hd:1≤d) (hdn:d ∣ f.Count) (h0:0 < f.Count) :
  (Good f d∧Zh.b0 f ([],0,0) d = some ((f.Core.take d.toNat,f.Period / (f.Count / d),d),1))∨(¬ Good f d∧Zh.b0 f ([],0,0) d = some (([],0,0),0)):=by
 have hle:d≤f.Count:=Y0l h0 hdn
 have hcl:(f.Core.length:Int) < 4611686018427387904:=Z1w (b:=23) hl.core
 have hcnt:=hs.count
 have hm:0 < f.Count / d:=Y0d h0 (by omega) hdn
 have hmle:f.Count / d≤f.Count:=Y0h _ (by omega)
 have htd:f.Count.tdiv d = f.Count / d:=Int.tdiv_eq_ediv_of_nonneg (by omega)
 have hq:0≤f.Period / (f.Count / d)∧f.Period / (f.Count / d)≤1099511627776:=by
  have h1:=hs.per
  have h2:f.Period / (f.Count / d)≤f.Period:=Y0h _ h1.1
  have h3:0≤f.Period / (f.Count / d):=Int.ediv_nonneg h1.1 (by omega)
  omega
 have hfl:Z0X f.Period (w64 (f.Count.tdiv d)) = some (f.Period / (f.Count / d),f.Period % (f.Count / d),0):=by
  rw [htd,ZL (show _ by omega),Z3s hl.period (by unfold In64;omega),Z6L hm]
 unfold Zh.b0
 rw [nz?_ok (by omega),hfl]
 simp only [Y0]
 by_cases hr:f.Period % (f.Count / d) = 0
 ·rw [Z5g hr,cond_false];obtain ⟨r,h1,h2⟩:=canon_turn_eq hl hs hd hle hq
  rw [h1];cases r with
  | true =>
   left
   refine ⟨⟨hd,hdn,hr,h2.1 rfl⟩,?_⟩;have hcut:cut? f.Core 0 d = some (f.Core.take d.toNat):=by
    unfold cut?;rw [if_pos ⟨by omega,by omega,by omega⟩]
    rfl
   simp only [Y0,Ys,cond_false,hcut];have:=copy_loop (x4:=f.Core.take d.toNat) (by have:=hl.core;simp only [YR];have h:=YG 24 (Nat.min_le_right d.toNat f.Core.length);omega) (fun l hl' => (hl.sets l (Yo hl')).1)
   rw [this]
   rfl
  | false =>
   right
   exact ⟨fun g => (by have:=h2.2 g.turn;cases this),rfl⟩
 ·right
  refine ⟨fun g => hr g.rest,?_⟩
  rw [bne_t hr]
  rfl
theorem least_good {f:Form} (h0:0 < f.Count):∃ d,Good f d∧∀ d',Good f d'→d≤d':=by
 have:∃ n:Nat,Good f n:=⟨f.Count.toNat,by rw [Y0G (by omega)];exact good_self h0⟩
 obtain ⟨n,hn⟩:=this
 induction n using Nat.strongRecOn with
 | _ n ih =>
  by_cases h:∃ m:Nat,m < n∧Good f m
  ·obtain ⟨m,h1,h2⟩:=h
   exact ih m h1 h2
  ·refine ⟨n,hn,fun d' hd' => ?_⟩
   apply Classical.byContradiction;intro hlt;have:=hd'.pos
   exact h ⟨d'.toNat,by omega,by rw [Y0G (by omega)];exact hd'⟩
theorem canon_bare_eq {f:Form} (hl:Lim f):Z39 f = Z2i f:=by
 unfold Z39 Z2i
 rfl
theorem canon_core_eq {f:Form} (hl:Lim f) (hs:Shape f):(Bare f∧Zh f = some (Form.mk 0 0 [] [])) ∨
  (¬ Bare f∧0 < f.Count∧∃ d,Good f d∧(∀ d',Good f d'→d≤d')∧Zh f = some (Form.mk (f.Period / (f.Count / d)) d (f.Core.take d.toNat) [])):=by
 have hcl:(f.Core.length:Int) < 4611686018427387904:=Z1w (b:=23) hl.core
 have hcnt:=hs.count
 obtain ⟨b,h1,h2⟩:=Z6C hl
 unfold Zh
 rw [canon_bare_eq hl,h1]
 cases b with
 | true => exact .inl ⟨h2.1 rfl,rfl⟩
 | false =>
  right
  have hnb:¬ Bare f:=fun h => by have:=h2.2 h;cases this
  have h0:0 < f.Count:=by
   rcases Nat.eq_zero_or_pos f.Core.length with h | h
   ·exact absurd (fun l hl' => by rw [List.length_eq_zero_iff.1 h] at hl';cases hl') hnb
   ·omega
  obtain ⟨d,hg,hmin⟩:=least_good h0
  refine ⟨hnb,h0,d,hg,hmin,?_⟩;have hdn:d≤f.Count:=Y0l h0 hg.dvd
  have hd1:=hg.pos
  have hloop:loopO (Zk.s0 f.Count (Z1Q (Zh.b0 f))) (1,(([],0,0),0)) = some (.ret ((f.Core.take d.toNat,f.Period / (f.Count / d),d),1)):=by
   refine Z2J (I:=fun s r => r = .ret ((f.Core.take d.toNat,f.Period / (f.Count / d),d),1)∧∃ k:Int,1≤k∧k≤d∧s = (k,(([],0,0),0))) (fun s => (d - s.1).toNat) ?_ ⟨rfl,1,by omega,hd1,rfl⟩
   rintro s r ⟨rfl,k,k1,k2,rfl⟩;unfold Zk.s0;rw [Zf (show k≤f.Count by omega),cond_true,nz?_ok (by omega)]
   simp only [Y0]
   by_cases hkd:k ∣ f.Count
   ·rw [Z5M (show f.Count.tmod k = 0 from Int.tmod_eq_zero_of_dvd hkd),cond_true]
    rcases core_b0_eq hl hs k1 hkd h0 with ⟨g,e⟩ | ⟨g,e⟩
    ·have:k = d:=by have:=hmin k g;omega
     subst this
     right
     simp only [Z1Q,if_true,e,Y8,Y0]
     rfl
    ·left
     have hne:k ≠ d:=fun h => g (h ▸ hg)
     refine ⟨(k + 1,(([],0,0),0)),?_,⟨trivial,k + 1,by omega,by omega,rfl⟩,by simp;omega⟩
     simp only [Z1Q,if_true,e,Y8,Y0];rw [ZL (show _ by omega)]
     rfl
   ·left
    have hne:k ≠ d:=fun h => hkd (h ▸ hg.dvd)
    refine ⟨(k + 1,(([],0,0),0)),?_,⟨trivial,k + 1,by omega,by omega,rfl⟩,by simp;omega⟩
    rw [Z3Y (fun h => hkd (Int.dvd_of_tmod_eq_zero h)),cond_false]
    simp only [Y0,cond_false];rw [ZL (show _ by omega)]
  unfold Zk;rw [hloop]
  rfl
end Go.Dn

namespace Go.Dn
open Go
def Turn (h:Int→List Span) (d q:Int):Prop:=∀ i,h (i + d) = (h i).map (ZW q)
theorem Turn.neg {h:Int→List Span} {d q:Int} (t:Turn h d q):Turn h (-d) (-q):=fun i => by
 have:=t (i + -d)
 rw [show i + -d + d = i by omega] at this
 rw [this,Z17,Int.add_right_neg,Z86]
theorem Turn.add {h:Int→List Span} {d q d' q':Int} (t:Turn h d q) (t':Turn h d' q'):Turn h (d + d') (q + q'):=fun i => by
 rw [show i + (d + d') = (i + d) + d' by omega,t',t,Z17]
theorem Turn.zero (h:Int→List Span):Turn h 0 0:=fun i => by rw [Int.add_zero,Z86]
theorem Turn.nat {h:Int→List Span} {d q:Int} (t:Turn h d q):∀ k:Nat,Turn h (k * d) (k * q)
 | 0 => by simpa using Turn.zero h
 | k + 1 => by
  have:=(Turn.nat t k).add t
  push_cast
  rw [Y0p,Int.one_mul,Y0p,Int.one_mul];exact this
theorem Turn.mul {h:Int→List Span} {d q:Int} (t:Turn h d q) (k:Int):Turn h (k * d) (k * q):=by
 rcases Int.natAbs_eq k with e | e
 ·rw [e];exact t.nat _
 ·rw [e,Int.neg_mul,Int.neg_mul];exact (t.nat _).neg
theorem Turn.agree {h h':Int→List Span} {d q a:Int} (t:Turn h d q) (t':Turn h' d q) (hd:0 < d) (he:∀ i,a≤i→i < a + d→h i = h' i):h = h':=by
 funext i
 have e:i = ((i - a) % d + a) + (i - a) / d * d:=by
  have:=Yx (i - a) d
  rw [Y0A] at this;omega
 have h1:=Yf (i - a) (show d ≠ 0 by omega)
 have h2:=Yq (i - a) hd
 rw [e,t.mul,t'.mul,he _ (by omega) (by omega)]
noncomputable def csz (f:Form) (i:Int):List Span:=if f.Count = 0 then [] else cs f i
theorem Z5H {f:Form} (h0:0 < f.Count):csz f = cs f:=by funext i;exact if_neg (by omega)
theorem Z3l {f:Form} {i:Int} (h:¬ Z2p f i):ZH f i = csz f i:=by
 unfold csz
 by_cases h0:f.Count = 0
 ·rw [if_pos h0,Z2b h h0]
 ·rw [if_neg h0,Z2W h h0];rfl
theorem csz_bare {f:Form} (hs:Shape f) (hb:Bare f) (i:Int):csz f i = []:=by
 unfold csz
 by_cases h0:f.Count = 0
 ·rw [if_pos h0]
 ·rw [if_neg h0];unfold cs;rw [hb _ (Z1M hs h0 i).2];rfl
def Z1d (f c:Form):Prop:=(Bare f∧c = Form.mk 0 0 [] [])∨(¬ Bare f∧0 < f.Count∧∃ d,Good f d∧(∀ d',Good f d'→d≤d')∧c = Form.mk (f.Period / (f.Count / d)) d (f.Core.take d.toNat) [])
theorem canon_core_ok {f:Form} (hl:Lim f) (hs:Shape f):∃ c,Zh f = some c∧Z1d f c:=by
 rcases canon_core_eq hl hs with ⟨h1,h2⟩ | ⟨h1,h2,d,h3,h4,h5⟩
 ·exact ⟨_,h2,.inl ⟨h1,rfl⟩⟩
 ·exact ⟨_,h5,.inr ⟨h1,h2,d,h3,h4,rfl⟩⟩
theorem Z1d.odd {f c:Form} (h:Z1d f c):c.Odd = []:=by
 rcases h with ⟨_,rfl⟩ | ⟨_,_,d,_,_,rfl⟩ <;> rfl
theorem Z1d.csz {f c:Form} (hs:Shape f) (h:Z1d f c):csz c = csz f:=by
 rcases h with ⟨hb,rfl⟩ | ⟨hb,h0,d,hg,_,rfl⟩
 ·funext i;rw [csz_bare hs hb];rfl
 ·have hd:=hg.pos
  have hdn:d≤f.Count:=Y0l h0 hg.dvd
  have hcnt:=hs.count
  rw [Z5H h0,Z5H (show 0 < (Form.mk (f.Period / (f.Count / d)) d (f.Core.take d.toNat) []).Count by show 0 < d;omega)]
  refine Turn.agree (a:=0) (d:=d) (q:=f.Period / (f.Count / d)) (Z7M (f:=Form.mk (f.Period / (f.Count / d)) d (f.Core.take d.toNat) []) (show d ≠ 0 by omega)) hg.turn (by omega) (fun i i0 i1 => ?_)
  rw [Z4p i0 (show i < d by omega),Z4p i0 (by omega)]
  show (f.Core.take d.toNat).getD i.toNat [] = _
  rw [YM,YM,List.getElem?_take_of_lt (by omega)]
theorem Z1d.shape {f c:Form} (hs:Shape f) (h:Z1d f c):Shape c:=by
 rcases h with ⟨hb,rfl⟩ | ⟨hb,h0,d,hg,_,rfl⟩
 ·exact ⟨rfl,by simp,by simp,by simp,by simp,fun j k a b _ h => by simp at h⟩
 ·have hd:=hg.pos
  have hdn:d≤f.Count:=Y0l h0 hg.dvd
  have hcnt:=hs.count
  have hm:0 < f.Count / d:=Y0d h0 (by omega) hg.dvd
  have hp:0 < f.Period:=by
   have:=hs.per;have:=hs.zero
   rcases Int.lt_or_le 0 f.Period with h | h
   ·exact h
   ·have:f.Period = 0:=by omega
    have:=hs.zero.2 this
    omega
  have hq:0 < f.Period / (f.Count / d):=Y0d hp (by omega) (Int.dvd_of_emod_eq_zero hg.rest)
  have hq2:f.Period / (f.Count / d)≤f.Period:=Y0h _ (by omega)
  refine ⟨?_,?_,?_,?_,by simp,fun j k a b _ h => by simp at h⟩
  ·simp only [YR];omega
  ·simp only;omega
  ·simp only;have:=hs.per;omega
  ·intro l hl';exact hs.core l (Yo hl')
theorem Z1d.lim {f c:Form} (hl:Lim f) (hs:Shape f) (h:Z1d f c):Lim c:=by
 have hsc:=h.shape hs
 have hn:c.Core.length≤f.Core.length∧∀ l ∈ c.Core,l ∈ f.Core:=by
  rcases h with ⟨hb,rfl⟩ | ⟨hb,h0,d,hg,_,rfl⟩
  ·exact ⟨Yb _,fun l hl' => by cases hl'⟩
  ·exact ⟨by simp only [YR];omega,fun l hl' => Yo hl'⟩
 have hc:=hl.core
 have h24:=YG 24 hn.1
 have hp:=hsc.per
 have hcnt:=hsc.count
 have hcl:(f.Core.length:Int) < 4611686018427387904:=Z1w (b:=23) hl.core
 exact ⟨by omega,fun l hl' => hl.sets l (hn.2 l hl'),by rw [h.odd];simp [Z11],by rw [h.odd];simp,by unfold In64;omega,by unfold In64;omega⟩
theorem Z1d.ZH {f c:Form} (hs:Shape f) (h:Z1d f c) (i:Int):ZH c i = Go.Dn.csz f i:=by
 rw [Z3l (by rintro ⟨g,hg,_⟩;rw [h.odd] at hg;cases hg),h.csz hs]
theorem ZAp {f c:Form} (hl:Lim f) (hs:Shape f) (h:Z1d f c) {g:Granule} (hg:g ∈ f.Odd):∃ r,Z2e c g = some r∧(r = true ↔ csz f g.Index = g.Ticks):=by
 obtain ⟨hr,ht⟩:=hs.odd g hg
 have hlc:=h.lim hl hs
 have hsc:=h.shape hs
 unfold Z2e
 rw [Z3F hlc hsc (Z27 ht)]
 by_cases hf:fits c g.Index
 ·rw [if_pos ⟨ht,hf⟩];obtain ⟨r,h1,h2⟩:=Z3y (a:=Go.Dn.ZH c g.Index) (b:=g.Ticks) (Z7H hlc hsc _)
  refine ⟨r,?_,?_⟩
  ·simp only [Y0];rw [Z5M rfl,cond_true,h1];rfl
  ·rw [h2,h.ZH hs]
 ·rw [if_neg (fun h' => hf h'.2)]
  refine ⟨false,rfl,⟨(fun h' => nomatch h'),fun e => absurd (fun s hs' => ?_) hf⟩⟩
  rw [h.ZH hs,e] at hs';obtain ⟨k,hk⟩:=YC hs'
  have:=Z62.1 hr k s hk
  exact ⟨this.1,this.2.1⟩
open Classical in
noncomputable def oddly (f:Form) (g:Granule):Bool:=decide (¬ csz f g.Index = g.Ticks)
noncomputable def Z1z (f c:Form):Form:=Form.mk c.Period c.Count c.Core (f.Odd.filter (oddly f))
theorem Z5Q {f:Form} (hl:Lim f) (hs:Shape f):∃ c,Z1d f c∧Zc f = some (Z1z f c):=by
 obtain ⟨c,h1,hc⟩:=canon_core_ok hl hs
 refine ⟨c,hc,?_⟩
 unfold Zc
 rw [h1]
 simp only [Y0]
 have hol:(f.Odd.length:Int) < 4611686018427387904:=Z1w (b:=31) hl.odd
 have hr:=Z11
 have hro:=Z57
 have:loopO (Zc.s0 f c) (0,[]) = some (f.Odd.filter (oddly f)):=by
  refine Z2J (I:=fun s r => r = f.Odd.filter (oddly f)∧∃ k:Nat,k≤f.Odd.length∧s = ((k:Int),(f.Odd.take k).filter (oddly f))) (fun s => f.Odd.length - s.1.toNat) ?_ ⟨rfl,0,Yb _,rfl⟩
  rintro s r ⟨rfl,k,hk,rfl⟩;unfold Zc.s0
  by_cases hlt:k < f.Odd.length
  ·left
   have hmem:=YZ hlt
   obtain ⟨r,p1,p2⟩:=ZAp hl hs hc hmem
   have htk:f.Odd.take (k + 1) = f.Odd.take k ++ [f.Odd[k]]:=(List.take_append_getElem hlt).symm
   have hlen:=(hl.ticks _ hmem).2.1
   unfold Len at hlen;refine ⟨((k:Int) + 1,(f.Odd.take (k + 1)).filter (oddly f)),?_,⟨rfl,k + 1,hlt,by push_cast;rfl⟩,by simp;omega⟩
   rw [Zf (show (k:Int) < f.Odd.length by omega),cond_true,at?_nat hlt]
   simp only [Y0,p1];rw [ZL (show _ by omega),htk,List.filter_append]
   cases r with
   | true =>
    have:oddly f f.Odd[k] = false:=by unfold oddly;rw [decide_eq_false_iff_not];exact fun h => h (p2.1 rfl)
    simp only [Ys,cond_false,Y0,List.filter_cons,this,YA,if_false,List.filter_nil,YN]
   | false =>
    have:oddly f f.Odd[k] = true:=by unfold oddly;rw [decide_eq_true_iff];exact fun h => by have:=p2.2 h;cases this
    have hcp:clone? 16 f.Odd[k].Ticks = some f.Odd[k].Ticks:=by unfold clone?;rw [if_pos (by omega)]
    have hfl:((f.Odd.take k).filter (oddly f)).length≤k:=by
     have:=Y0M (oddly f) (f.Odd.take k)
     simp only [YR] at this;omega
    have hap:app? 32 ((f.Odd.take k).filter (oddly f)) [Granule.mk f.Odd[k].Index f.Odd[k].Ticks] = some ((f.Odd.take k).filter (oddly f) ++ [f.Odd[k]]):=by
     rw [app?_ok (by simp only [YD,Yc];have h3:=hl.odd;have:=YG 32 (show ((f.Odd.take k).filter (oddly f)).length + 1≤f.Odd.length by omega);omega)]
    simp only [Y0B,cond_true,Y0,hcp,hap,List.filter_cons,this,if_true,List.filter_nil]
  ·right
   have:k = f.Odd.length:=by omega
   subst this;rw [Zu (show ¬ ((f.Odd.length:Int) < f.Odd.length) by omega),cond_false,Y0I]
 rw [this]
 rfl
end Go.Dn
