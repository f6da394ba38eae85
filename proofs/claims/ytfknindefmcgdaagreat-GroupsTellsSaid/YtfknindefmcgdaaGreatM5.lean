/- Part 5 of what the row stands on. -/
import Derived.Test.YtfknindefmcgdaaGreatM4
set_option linter.unusedVariables false
set_option linter.unusedSimpArgs false
namespace Go.Dn
open Go Go.Proofs
set_option maxRecDepth 100000
set_option maxHeartbeats 4000000
theorem Z8P {f:Form} {m:Int} {r:Form × Int} (h:Zq f m = some r):Fn CX 11 [(.agg (vs (Form.cs f))),(vi m)] (.tup [(.agg (vs (Form.cs r.1))),(vi r.2)]):=by
 refine Fn.go Tryz.func11 V fun σ H => ?_;unfold Zq at h;refine .tR 3 V H fun b1 σ H => (.bxc (cs:=(vF f)) H V V V fun σ H => (.alc (cs:=[(vi 0),(vi 0),.nils,.nils]) H V V fun σ H => (.aV V (.na H fun H => (.then (.tR 6 V H fun b2 σ H => (.mV V (.iV V ?_))))))));refine .mV V ?_;refine .md H 3 [(17,(vb ((decide (m < (-1099511627776))) || (decide (m > 1099511627776))))),(1,(vi m)),(2,(.ptr (b1 + 0) 4 0)),(4,(.ptr (b1 + 1) 4 0))] [.blk (b1 + 1) 25 [(vi 0),(vi 0),.nils,.nils],.blk (b1 + 0) 25 (vF f)] rfl ?_ fun e σ H => ?_
 ·refine .split V V ?_ ?_ <;> intro hc1
  ·refine .ps 2 V (.kT V (.nil ?_));exact ⟨⟨or_T hc1,V,V,V,U⟩,H.wk (by omega)⟩
  ·refine .mV V (.iV V (.kF V (.nil ?_)));exact ⟨⟨or_F hc1,V,V,V,U⟩,H.wk (by omega)⟩
 refine .na H fun H => ?_;refine .wh h V ?_ ?_ <;> intro h
 ·refine .tR 3 V H fun b3 σ H => (.bV [(vi 0),(vi 0),.nils,.nils] V (.sV [(vi 0),(vi 0),.nils,.nils] H 0 V fun σ H => (.aV V (.na H fun H => (.ret ?_)))));obtain rfl:=sj h;exact (Ends.H (xs:=[(.agg [(vi 0),(vi 0),.nils,.nils]),(vi 2)]) (.inr V) H (.agg (cs:=[(vi 0),(vi 0),.nils,.nils]) 0 V V V V V V V (.tmp (v:=(vi 2)) V .nil)) (.two (.cons (.a (.cons (.v _) (.cons (.v _) (.cons .n (.cons .n .nil))))) (.cons (.c (.v _)) .nil))))
 refine .skip (.tR 7 V H fun b4 σ H => (.fV H 1 V (.lV H 1 V (.fV H 1 V (.lV H 1 V (.bV [(vi f.Period),(vi f.Count),.nils,.nils] V (.alc (cs:=[(vi 0),(vi 0),.nils,.nils]) H V V fun σ H => (.sV [(vi f.Period),(vi f.Count),.nils,.nils] H 0 V fun σ H => ?_))))))));refine .na H fun H => (.then (.tR 1 V H fun b5 σ H => (.aV V (.na H fun H => (.inBlock ?_)))));replace H:=H.pushNil 34 1 true;obtain ⟨y1,hj1,h⟩:=bs h;obtain ⟨n1,hj1⟩:=ZD.1 hj1;refine .mono (Runs.loopO hj1 (fun s2 e σ => ∃ (w3:PV),Z2 e [(1,(vi m)),(2,(.ptr (b1 + 0) 4 0)),(4,(.ptr (b1 + 1) 4 0)),(6,(.ptr (b4 + 5) 4 0)),(7,(vi s2.1))]∧Hs σ [.sl w3 34 1 (s2.2.map (cL Span.cs)) true,.blk (b4 + 5) 25 [(vi f.Period),(vi f.Count),w3,.nils],.blk (b1 + 1) 25 [(vi 0),(vi 0),.nils,.nils],.blk (b1 + 0) 25 (vF f)]) (fun y1 x e σ => (∃ a1,∃ (w4:PV),y1 = (.go a1)∧x = .exit 0∧Z2 e [(1,(vi m)),(2,(.ptr (b1 + 0) 4 0)),(4,(.ptr (b1 + 1) 4 0)),(6,(.ptr (b4 + 5) 4 0))]∧Hs σ [.sl w4 34 1 (a1.map (cL Span.cs)) true,.blk (b4 + 5) 25 [(vi f.Period),(vi f.Count),w4,.nils],.blk (b1 + 1) 25 [(vi 0),(vi 0),.nils,.nils],.blk (b1 + 0) 25 (vF f)])∨(∃ r',y1 = (.ret r')∧x = .ret∧Ends CX Tryz.f11.results.toList (.tup [(.agg (vs (Form.cs r'.1))),(vi r'.2)]) x e σ)) ⟨.nils,EI V,H⟩ ?_) ?_
 ·intro s2 e σ hI z h;obtain ⟨w3,he,H⟩:=hI;obtain ⟨e,rfl⟩:=he.ex;unfold Zq.s0 at h;refine .then (.tR 4 V H fun b6 σ H => (.mV V (.fV H 3 V (.lV H 3 V (.iV V (.na H fun H => ?_))))));refine .wh h V ?_ ?_ <;> intro h
  ·refine .skip (.then (.inBlock (.tR 10 V H fun b7 σ H => (.LV (vF f) H 3 V (.mV V (.mV V (.iV V ?_)))))));obtain ⟨x1,q1,h⟩:=bs h;refine .cV (Z3p q1) V (.m1 (.tup [(vl Span.cs x1.1),(vi x1.2)]) V V (.xV V (.xV V (.aV V (.aV V (.na H fun H => (.then (.tR 2 V H fun b8 σ H => ?_))))))));refine .mV V (.iV V (.na H fun H => ?_));refine .wh h V ?_ ?_ <;> intro h
   ·refine .tR 4 V H fun b9 σ H => (.bV [(vi 0),(vi 0),.nils,.nils] V (.mV V (.sV [(vi 0),(vi 0),.nils,.nils] H 2 V fun σ H => (.aV V (.na H fun H => (.ret ?_))))));obtain rfl:=sj h;exact ⟨nofun,(.inr ⟨_,V,V,(Ends.H (xs:=[(.agg [(vi 0),(vi 0),.nils,.nils]),(vi x1.2)]) (.inr V) H (.agg (cs:=[(vi 0),(vi 0),.nils,.nils]) 2 V V V V V V V (.tmp (v:=(vi x1.2)) V .nil)) (.two (.cons (.a (.cons (.v _) (.cons (.v _) (.cons .n (.cons .n .nil))))) (.cons (.c (.v _)) .nil))))⟩)⟩
   refine .skip (.Z5 7 V H fun b10 σ H => (.fV H 1 V (.lV H 1 V (.mV V (.Z0m (sz:=1) ([x1.1].map (cL Span.cs)) H (by omega) (by omega) V V V V V V V V V fun σ H => ?_)))));obtain ⟨x2,q2,h⟩:=bs h;refine .Z0L (c:=(cL Span.cs)) (v:=w3) (w:=(.buf (b10 + 3) 1 1)) (xs:=s2.2) (ys:=[x1.1]) H (by omega) (by omega) 1 V V V (.s 0 V) q2 V V V V V nofun V fun w5 σ H => (.fV H 2 V (.Z2W (v:=w5) (ys:=[w5]) (cells':=[(vi f.Period),(vi f.Count),w5,.nils]) H 2 V V V V (H.slCells (k:=1) V) V V V V nofun fun σ H => (.na H fun H => (.Z5 3 V H fun b11 σ H => (.mV V (.iV V (.aV V (.na H fun H => ?_))))))));obtain rfl:=sj h;exact ⟨V,w5,EI V,(H.erase 0)⟩
  refine .exit ?_;obtain rfl:=sj h;exact ⟨nofun,(.inl ⟨_,w3,V,V,EI V,H⟩)⟩
 ·rintro x e σ (⟨a2,w6,rfl,rfl,he,H⟩ | ⟨r',rfl,rfl,hE⟩)
  ·replace h:=jgo h;obtain ⟨e,rfl⟩:=he.ex;refine .then (.tR 1 V H fun b12 σ H => (.aV V (.na H fun H => (.inBlock ?_))));replace H:=H.pushNil 44 2 true;obtain ⟨y2,hj2,h⟩:=bs h;obtain ⟨n2,hj2⟩:=ZD.1 hj2;refine .mono (Runs.loopO hj2 (fun s4 e σ => ∃ (w9:PV),Z2 e [(1,(vi m)),(2,(.ptr (b1 + 0) 4 0)),(4,(.ptr (b1 + 1) 4 0)),(6,(.ptr (b4 + 5) 4 0)),(10,(vi s4.1))]∧Hs σ [.sl w9 44 2 (s4.2.map Granule.cs) true,.sl w6 34 1 (a2.map (cL Span.cs)) true,.blk (b4 + 5) 25 [(vi f.Period),(vi f.Count),w6,w9],.blk (b1 + 1) 25 [(vi 0),(vi 0),.nils,.nils],.blk (b1 + 0) 25 (vF f)]) (fun y2 x e σ => (∃ a3,∃ (w10:PV),y2 = (.go a3)∧x = .exit 2∧Z2 e [(4,(.ptr (b1 + 1) 4 0)),(6,(.ptr (b4 + 5) 4 0))]∧Hs σ [.sl w10 44 2 (a3.map Granule.cs) true,.sl w6 34 1 (a2.map (cL Span.cs)) true,.blk (b4 + 5) 25 [(vi f.Period),(vi f.Count),w6,w10],.blk (b1 + 1) 25 [(vi 0),(vi 0),.nils,.nils]])∨(∃ r',y2 = (.ret r')∧x = .ret∧Ends CX Tryz.f11.results.toList (.tup [(.agg (vs (Form.cs r'.1))),(vi r'.2)]) x e σ)) ⟨.nils,EI V,H⟩ ?_) ?_
   ·intro s4 e σ hI z h;obtain ⟨w9,he,H⟩:=hI;obtain ⟨e,rfl⟩:=he.ex;unfold Zq.s1 at h;refine .then (.tR 5 V H fun b13 σ H => (.mV V (.fV H 4 V (.lV H 4 V (.nV V (.iV V (.na H fun H => ?_)))))));refine .wh h V ?_ ?_ <;> intro h
    ·refine .skip (.then (.inBlock (.tR 9 V H fun b14 σ H => (.fV H 4 V (.lV H 4 V (.mV V ?_))))));obtain ⟨x3,q3,h⟩:=bs h;refine .jV q3 V (.ZE V V V V (.pV V (.mV V (.iV V (.aV V (.na H fun H => (.then (.tR 6 V H fun b15 σ H => ?_))))))));refine .mV V (.iV V (.mV V ?_));refine .md H 3 [(68,(vb ((decide ((w64 (x3.Index + m)) < (-1099511627776))) || (decide ((w64 (x3.Index + m)) > 1099511627776))))),(1,(vi m)),(2,(.ptr (b1 + 0) 4 0)),(4,(.ptr (b1 + 1) 4 0)),(6,(.ptr (b4 + 5) 4 0)),(10,(vi s4.1)),(11,(vi (w64 (x3.Index + m))))] [.sl w9 44 2 (s4.2.map Granule.cs) true,.sl w6 34 1 (a2.map (cL Span.cs)) true,.blk (b4 + 5) 25 [(vi f.Period),(vi f.Count),w6,w9],.blk (b1 + 1) 25 [(vi 0),(vi 0),.nils,.nils],.blk (b1 + 0) 25 (vF f)] rfl ?_ fun e σ H => ?_
     ·refine .split V V ?_ ?_ <;> intro hc6
      ·refine .ps 2 V (.kT V (.nil ?_));exact ⟨⟨or_T hc6,V,V,V,V,V,V,U⟩,H.wk (by omega)⟩
      ·refine .mV V (.iV V (.kF V (.nil ?_)));exact ⟨⟨or_F hc6,V,V,V,V,V,V,U⟩,H.wk (by omega)⟩
     refine .na H fun H => ?_;refine .wh h V ?_ ?_ <;> intro h
     ·refine .tR 3 V H fun b16 σ H => (.bV [(vi 0),(vi 0),.nils,.nils] V (.sV [(vi 0),(vi 0),.nils,.nils] H 3 V fun σ H => (.aV V (.na H fun H => (.ret ?_)))));obtain rfl:=sj h;exact ⟨nofun,(.inr ⟨_,V,V,(Ends.H (xs:=[(.agg [(vi 0),(vi 0),.nils,.nils]),(vi 20)]) (.inr V) H (.agg (cs:=[(vi 0),(vi 0),.nils,.nils]) 3 V V V V V V V (.tmp (v:=(vi 20)) V .nil)) (.two (.cons (.a (.cons (.v _) (.cons (.v _) (.cons .n (.cons .n .nil))))) (.cons (.c (.v _)) .nil))))⟩)⟩
     refine .skip (.Z0I 14 V (by kernel_rfl) H fun b17 σ H B17 => (.Z6 H 2 V V V V V (so (B17 2 _ V _ V)) V (.ld w9 H 2 V V V V V (so (B17 2 _ V _ V)) V (.mV V (.Z6 H 4 V V V V V (so (B17 4 _ V _ V)) V (.ld (vl Granule.cs f.Odd) H 4 V V V V V (so (B17 4 _ V _ V)) V (.mV V ?_)))))));obtain ⟨x4,q4,h⟩:=bs h;refine .jV q4 V (.ZE V V V V (.pV V (.bV [(vi (w64 (x3.Index + m))),(vl Span.cs x4.Ticks)] V (.Z0m (sz:=2) ([(Granule.mk (w64 (x3.Index + m)) x4.Ticks)].map Granule.cs) H (by omega) (by omega) V V V V V V V V V fun σ H => ?_))));obtain ⟨x5,q5,h⟩:=bs h;refine .Z0L (c:=Granule.cs) (v:=w9) (w:=(.buf (b17 + 10) 1 2)) (xs:=s4.2) (ys:=[(Granule.mk (w64 (x3.Index + m)) x4.Ticks)]) H (by omega) (by omega) 1 V V V (.s 0 V) q5 V V V V V (fun h => ⟨(fun id ho => .inl ⟨B17 0 _ V id ho,(fun _ => by kernel_rfl),nofun⟩),(fun id ho => .inr ⟨10,(by cases ho;rfl),(fun h => nomatch h),by kernel_rfl,by decide⟩)⟩) V fun w11 σ H => (.Z6 H 3 V V V V V (so (B17 2 _ V _ V)) V (.Z2W (v:=w11) (ys:=[w11]) (cells':=[(vi f.Period),(vi f.Count),w6,w11]) H 3 V V V V (H.slCells (k:=1) V) V V V V (fun _ => .inl ⟨B17 2 _ V _ V,(Z2E (by kernel_rfl))⟩) fun σ H => (.na H fun H => (.Z5 3 V H fun b18 σ H => (.mV V (.iV V (.aV V (.na H fun H => ?_))))))))
     obtain rfl:=sj h;exact ⟨V,w11,EI V,(H.erase 0)⟩
    refine .exit ?_;obtain rfl:=sj h;exact ⟨nofun,(.inl ⟨_,w9,V,V,EI V,(H.erase 4)⟩)⟩
   ·rintro x e σ (⟨a4,w12,rfl,rfl,he,H⟩ | ⟨r',rfl,rfl,hE⟩)
    ·replace h:=jgo h;obtain ⟨e,rfl⟩:=he.ex;refine .tR 6 V H fun b19 σ H => (.LV [(vi f.Period),(vi f.Count),w6,w12] H 2 V ?_);obtain ⟨x6,q6,h⟩:=bs h;refine .Z3v (xs:=[(.agg [(vi f.Period),(vi f.Count),w6,w12])]) (ys:=[(.agg (vs (Form.cs (Form.mk f.Period f.Count a2 a4))))]) H V (.cons (.a (.cons (.v _) (.cons (.v _) (.cons (.s 1 V) (.cons (.s 0 V) .nil))))) .nil) (Z3c q6) V V nofun V fun σ H => (.xV V (.xV V (.sV (vF x6.1) H 3 V fun σ H => (.aV V (.na H fun H => (.ret ?_))))));obtain rfl:=sj h;exact (Ends.H (xs:=[(.agg (vF x6.1)),(vi x6.2)]) (.inr V) H (.agg (cs:=(vF x6.1)) 3 V V V V V V V (.tmp (v:=(vi x6.2)) V .nil)) (.two (.cons (.p V) (.cons (.c (.v _)) .nil))))
    ·replace h:=jret h;obtain rfl:=sj h;exact hE
  ·replace h:=jret h;obtain rfl:=sj h;exact hE
theorem Z7i {f:Form} {m:Int} {n:Int} {r:Form × Int} (h:Ze f m n = some r):Fn CX 13 [(.agg (vs (Form.cs f))),(vi m),(vi n)] (.tup [(.agg (vs (Form.cs r.1))),(vi r.2)]):=by
 refine Fn.go Tryz.func13 V fun σ H => ?_;unfold Ze at h;refine .tR 3 V H fun b1 σ H => (.bxc (cs:=(vF f)) H V V V fun σ H => (.alc (cs:=[(vi 0),(vi 0),.nils,.nils]) H V V fun σ H => (.aV V (.na H fun H => (.then (.tR 11 V H fun b2 σ H => (.mV V (.iV V ?_))))))));refine .mV V ?_;refine .md H 3 [(19,(vb ((decide (m < (-1099511627776))) || (decide (n > 1099511627776))))),(1,(vi m)),(2,(vi n)),(3,(.ptr (b1 + 0) 4 0)),(6,(.ptr (b1 + 1) 4 0))] [.blk (b1 + 1) 25 [(vi 0),(vi 0),.nils,.nils],.blk (b1 + 0) 25 (vF f)] rfl ?_ fun e σ H => ?_
 ·refine .split V V ?_ ?_ <;> intro hc1
  ·refine .ps 2 V (.kT V (.nil ?_));exact ⟨⟨or_T hc1,V,V,V,V,U⟩,H.wk (by omega)⟩
  ·refine .mV V (.iV V (.kF V (.nil ?_)));exact ⟨⟨or_F hc1,V,V,V,V,U⟩,H.wk (by omega)⟩
 refine .mV V ?_;refine .md H 4 [(24,(vb (((decide (m < (-1099511627776))) || (decide (n > 1099511627776))) || (decide (m > n))))),(1,(vi m)),(2,(vi n)),(3,(.ptr (b1 + 0) 4 0)),(6,(.ptr (b1 + 1) 4 0))] [.blk (b1 + 1) 25 [(vi 0),(vi 0),.nils,.nils],.blk (b1 + 0) 25 (vF f)] rfl ?_ fun e σ H => ?_
 ·refine .split V V ?_ ?_ <;> intro hc2
  ·refine .ps 3 V (.kT V (.nil ?_));exact ⟨⟨or_T hc2,V,V,V,V,U⟩,H.wk (by omega)⟩
  ·refine .mV V (.mV V (.iV V (.kF V (.nil ?_))));exact ⟨⟨or_F hc2,V,V,V,V,U⟩,H.wk (by omega)⟩
 refine .na H fun H => ?_;refine .wh h V ?_ ?_ <;> intro h
 ·refine .tR 3 V H fun b3 σ H => (.bV [(vi 0),(vi 0),.nils,.nils] V (.sV [(vi 0),(vi 0),.nils,.nils] H 0 V fun σ H => (.aV V (.na H fun H => (.ret ?_)))));obtain rfl:=sj h;exact (Ends.H (xs:=[(.agg [(vi 0),(vi 0),.nils,.nils]),(vi 2)]) (.inr V) H (.agg (cs:=[(vi 0),(vi 0),.nils,.nils]) 0 V V V V V V V (.tmp (v:=(vi 2)) V .nil)) (.two (.cons (.a (.cons (.v _) (.cons (.v _) (.cons .n (.cons .n .nil))))) (.cons (.c (.v _)) .nil))))
 refine .skip (.tR 1 V H fun b4 σ H => (.alc (cs:=[(vi 0),(vi 0),.nils,.nils]) H V V fun σ H => (.na H fun H => (.tR 8 V H fun b5 σ H => (.LV (vF f) H 2 V (.mV V ?_))))));obtain ⟨x1,q1,h⟩:=bs h;refine .cV (Z1x q1) V (.m1 (.tup [(vi x1.1),(vb x1.2)]) V V (.xV V (.xV V (.aV V (.aV V (.na H fun H => (.then (.inBlock ?_))))))));replace H:=H.pushNil 44 2 true;obtain ⟨y1,hj1,h⟩:=bs h;obtain ⟨n1,hj1⟩:=ZD.1 hj1;refine .mono (Runs.loopO hj1 (fun s2 e σ => ∃ (w3:PV),Z2 e [(2,(vi n)),(3,(.ptr (b1 + 0) 4 0)),(6,(.ptr (b1 + 1) 4 0)),(8,(.ptr (b4 + 0) 4 0)),(9,(vi s2.1)),(10,(vb s2.2.1))]∧Hs σ [.sl w3 44 2 (s2.2.2.map Granule.cs) true,.blk (b4 + 0) 25 [(vi 0),(vi 0),.nils,w3],.blk (b1 + 1) 25 [(vi 0),(vi 0),.nils,.nils],.blk (b1 + 0) 25 (vF f)]) (fun y1 x e σ => (∃ a1,∃ (w4:PV),y1 = (.go a1)∧x = .exit 0∧Z2 e [(3,(.ptr (b1 + 0) 4 0)),(6,(.ptr (b1 + 1) 4 0)),(8,(.ptr (b4 + 0) 4 0))]∧Hs σ [.sl w4 44 2 (a1.map Granule.cs) true,.blk (b4 + 0) 25 [(vi 0),(vi 0),.nils,w4],.blk (b1 + 1) 25 [(vi 0),(vi 0),.nils,.nils],.blk (b1 + 0) 25 (vF f)])∨(∃ r',y1 = (.ret r')∧x = .ret∧Ends CX Tryz.f13.results.toList (.tup [(.agg (vs (Form.cs r'.1))),(vi r'.2)]) x e σ)) ⟨.nils,EI V,H⟩ ?_) ?_
 ·intro s2 e σ hI z h;obtain ⟨w3,he,H⟩:=hI;obtain ⟨e,rfl⟩:=he.ex;unfold Ze.s0 at h;refine .then (.tR 6 V H fun b6 σ H => (.mV V (.mV V ?_)));refine .md H 4 [(37,(vb (s2.2.1 && (decide (s2.1≤n))))),(2,(vi n)),(3,(.ptr (b1 + 0) 4 0)),(6,(.ptr (b1 + 1) 4 0)),(8,(.ptr (b4 + 0) 4 0)),(9,(vi s2.1))] [.sl w3 44 2 (s2.2.2.map Granule.cs) true,.blk (b4 + 0) 25 [(vi 0),(vi 0),.nils,w3],.blk (b1 + 1) 25 [(vi 0),(vi 0),.nils,.nils],.blk (b1 + 0) 25 (vF f)] V ?_ fun e σ H => ?_
  ·refine .split V V ?_ ?_ <;> intro hc4
   ·refine .mV V (.mV V (.iV V (.kT V (.nil ?_))));exact ⟨⟨Z1M hc4,V,V,V,V,V,U⟩,H.wk (by omega)⟩
   ·refine .ps 3 V (.kF V (.nil ?_));exact ⟨⟨Z1K hc4,V,V,V,V,V,U⟩,H.wk (by omega)⟩
  refine .na H fun H => ?_;refine .wh h V ?_ ?_ <;> intro h
  ·refine .skip (.inBlock (.then (.tR 4 V H fun b7 σ H => (.fV H 1 V (.lV H 1 V (.Z5d (c:=Granule.cs) (xs:=s2.2.2) H 0 V V V nofun V (.iV V (.na H fun H => ?_))))))));refine .wh h V ?_ ?_ <;> intro h
   ·refine .tR 3 V H fun b8 σ H => (.bV [(vi 0),(vi 0),.nils,.nils] V (.sV [(vi 0),(vi 0),.nils,.nils] H 2 V fun σ H => (.aV V (.na H fun H => (.ret ?_)))));obtain rfl:=sj h;exact ⟨nofun,(.inr ⟨_,V,V,(Ends.H (xs:=[(.agg [(vi 0),(vi 0),.nils,.nils]),(vi 3)]) (.inr V) H (.agg (cs:=[(vi 0),(vi 0),.nils,.nils]) 2 V V V V V V V (.tmp (v:=(vi 3)) V .nil)) (.two (.cons (.a (.cons (.v _) (.cons (.v _) (.cons .n (.cons .n .nil))))) (.cons (.c (.v _)) .nil))))⟩)⟩
   refine .skip (.tR 8 V H fun b9 σ H => (.fV H 1 V (.lV H 1 V (.mV V (.bV [(vi s2.1),.nils] V (.Z5k (sz:=2) ([(Granule.mk s2.1 [])].map Granule.cs) H (by omega) (by omega) V V (.exp (.a (.cons (.v _) (.cons .n .nil))) .nil) V V V V V V V nofun fun σ H => ?_))))));obtain ⟨x2,q2,h⟩:=bs h;refine .Z0L (c:=Granule.cs) (v:=w3) (w:=(.buf (b9 + 4) 1 2)) (xs:=s2.2.2) (ys:=[(Granule.mk s2.1 [])]) H (by omega) (by omega) 1 V V V (.s 0 V) q2 V V V V V nofun V fun w5 σ H => (.fV H 2 V (.Z2W (v:=w5) (ys:=[w5]) (cells':=[(vi 0),(vi 0),.nils,w5]) H 2 V V V V (H.slCells (k:=1) V) V V V V nofun fun σ H => (.na H fun H => (.Z5 8 V H fun b10 σ H => (.LV (vF f) H 4 V (.mV V ?_))))));obtain ⟨x3,q3,h⟩:=bs h;refine .cV (Z4l q3) V (.m1 (.tup [(vi x3.1),(vb x3.2)]) V V (.xV V (.xV V (.aV V (.aV V (.na H fun H => ?_))))));obtain rfl:=sj h;exact ⟨V,w5,EI V,(H.erase 0)⟩
  refine .exit ?_;obtain rfl:=sj h;exact ⟨nofun,(.inl ⟨_,w3,V,V,EI V,H⟩)⟩
 ·rintro x e σ (⟨a2,w6,rfl,rfl,he,H⟩ | ⟨r',rfl,rfl,hE⟩)
  ·replace h:=jgo h;obtain ⟨e,rfl⟩:=he.ex;refine .then (.tR 1 V H fun b11 σ H => (.aV V (.na H fun H => (.inBlock ?_))));obtain ⟨y2,hj2,h⟩:=bs h;obtain ⟨n2,hj2⟩:=ZD.1 hj2;refine .mono (Runs.loopO hj2 (fun s3 e σ => Z2 e [(3,(.ptr (b1 + 0) 4 0)),(6,(.ptr (b1 + 1) 4 0)),(8,(.ptr (b4 + 0) 4 0)),(11,(vi s3.1))]∧Hs σ [.sl w6 44 2 (s3.2.map Granule.cs) true,.blk (b4 + 0) 25 [(vi 0),(vi 0),.nils,w6],.blk (b1 + 1) 25 [(vi 0),(vi 0),.nils,.nils],.blk (b1 + 0) 25 (vF f)]) (fun y2 x e σ => (∃ a3,y2 = (.go a3)∧x = .exit 2∧Z2 e [(6,(.ptr (b1 + 1) 4 0)),(8,(.ptr (b4 + 0) 4 0))]∧Hs σ [.sl w6 44 2 (a3.map Granule.cs) true,.blk (b4 + 0) 25 [(vi 0),(vi 0),.nils,w6],.blk (b1 + 1) 25 [(vi 0),(vi 0),.nils,.nils]])∨(∃ r',y2 = (.ret r')∧x = .ret∧Ends CX Tryz.f13.results.toList (.tup [(.agg (vs (Form.cs r'.1))),(vi r'.2)]) x e σ)) ⟨EI V,H⟩ ?_) ?_
   ·intro s3 e σ hI z h;obtain ⟨he,H⟩:=hI;obtain ⟨e,rfl⟩:=he.ex;unfold Ze.s1 at h;refine .then (.tR 5 V H fun b12 σ H => (.mV V (.fV H 1 V (.lV H 1 V (.Z5d (c:=Granule.cs) (xs:=s3.2) H 0 V V V nofun V (.iV V (.na H fun H => ?_)))))));refine .wh h V ?_ ?_ <;> intro h
    ·refine .skip (.then (.inBlock (.then (.Z0I 13 V (by kernel_rfl) H fun b13 σ H B13 => (.Z6v (cs:=(vF f)) H 3 V V V V V V V (so (B13 3 _ V _ V)) V (.Z6 H 1 V V V V V (so (B13 1 _ V _ V)) V (.ld w6 H 1 V V V V V (so (B13 1 _ V _ V)) V (.mV V ?_))))))));obtain ⟨x4,q4,h⟩:=bs h;refine .Z6D H 0 V V V (at?_map q4) V V (fun _ id ho => .inl ⟨B13 0 _ V id ho,nofun,(fun _ => by kernel_rfl)⟩) V ?_;intro id1 hv1;refine .Z3W (id:=id1) H 0 V hv1 (by simp) V V V (fun _ => .inl ⟨B13 0 _ V _ (by rw [(hv1:(w6:PV) = _)];rfl),nofun,(fun _ => by kernel_rfl)⟩) V ?_;refine .loadS (id:=id1) (j:=0) (w:=(.int .i64 x4.Index)) H 0 V hv1 (by simp) (at?_map q4) V (by simp) V V V (fun _ => .inl ⟨B13 0 _ V _ (by rw [(hv1:(w6:PV) = _)];rfl),nofun,(fun _ => by kernel_rfl)⟩) V ?_;obtain ⟨x5,q5,h⟩:=bs h;refine .cV (Z3x q5) V (.m1 (.tup [(vl Span.cs x5.1),(vi x5.2)]) V V (.xV V (.xV V (.aV V (.aV V (.na H fun H => (.then (.tR 2 V H fun b14 σ H => ?_))))))));refine .mV V (.iV V (.na H fun H => ?_));refine .wh h V ?_ ?_ <;> intro h
     ·refine .tR 3 V H fun b15 σ H => (.bV [(vi 0),(vi 0),.nils,.nils] V (.sV [(vi 0),(vi 0),.nils,.nils] H 2 V fun σ H => (.aV V (.na H fun H => (.ret ?_)))));obtain rfl:=sj h;exact ⟨nofun,(.inr ⟨_,V,V,(Ends.H (xs:=[(.agg [(vi 0),(vi 0),.nils,.nils]),(vi 20)]) (.inr V) H (.agg (cs:=[(vi 0),(vi 0),.nils,.nils]) 2 V V V V V V V (.tmp (v:=(vi 20)) V .nil)) (.two (.cons (.a (.cons (.v _) (.cons (.v _) (.cons .n (.cons .n .nil))))) (.cons (.c (.v _)) .nil))))⟩)⟩
     refine .skip (.Z5 7 V H fun b16 σ H => (.fV H 1 V (.lV H 1 V (.mV V (.mV V ?_)))));obtain ⟨x6,q6,h⟩:=bs h;refine .Z6D H 0 V V V (at?_map q6) V V nofun V ?_;intro id2 hv2;refine .Z3W (id:=id2) H 0 V hv2 (by simp) V V V nofun V (.storeSt (id:=id2) (j:=1) (zs:=[(.sl (x5.1.map Span.cs))]) (u:=x6) (u':=(Granule.mk x6.Index x5.1)) H 0 V hv2 (by simp) q6 V (by simp) V V V V V V nofun fun σ H => (.na H fun H => (.Z5 3 V H fun b17 σ H => (.mV V (.iV V (.aV V (.na H fun H => ?_)))))));obtain rfl:=sj h;exact ⟨V,EI V,H⟩
    refine .exit ?_;obtain rfl:=sj h;exact ⟨nofun,(.inl ⟨_,V,V,EI V,(H.erase 3)⟩)⟩
   ·rintro x e σ (⟨a4,rfl,rfl,he,H⟩ | ⟨r',rfl,rfl,hE⟩)
    ·replace h:=jgo h;obtain ⟨e,rfl⟩:=he.ex;refine .tR 6 V H fun b18 σ H => (.LV [(vi 0),(vi 0),.nils,w6] H 1 V ?_);obtain ⟨x7,q7,h⟩:=bs h;refine .Z3v (xs:=[(.agg [(vi 0),(vi 0),.nils,w6])]) (ys:=[(.agg (vs (Form.cs (Form.mk 0 0 [] a4))))]) H V (.cons (.a (.cons (.v _) (.cons (.v _) (.cons (.n) (.cons (.s 0 V) .nil))))) .nil) (Z3c q7) V V nofun V fun σ H => (.xV V (.xV V (.sV (vF x7.1) H 2 V fun σ H => (.aV V (.na H fun H => (.ret ?_))))));obtain rfl:=sj h;exact (Ends.H (xs:=[(.agg (vF x7.1)),(vi x7.2)]) (.inr V) H (.agg (cs:=(vF x7.1)) 2 V V V V V V V (.tmp (v:=(vi x7.2)) V .nil)) (.two (.cons (.p V) (.cons (.c (.v _)) .nil))))
    ·replace h:=jret h;obtain rfl:=sj h;exact hE
  ·replace h:=jret h;obtain rfl:=sj h;exact hE
theorem Z5b {f:Form} {m:Int} {n:Int} {r:Bool} (h:Z1q f m n = some r):Fn CX 3 [(.agg (vs (Form.cs f))),(vi m),(vi n)] (vb r):=by
 refine Fn.go Tryz.func3 V fun σ H => ?_;unfold Z1q at h;refine .tR 2 V H fun b1 σ H => (.bxc (cs:=(vF f)) H V V V fun σ H => (.aV V (.na H fun H => (.then (.tR 3 V H fun b2 σ H => (.LV (vF f) H 0 V ?_))))));obtain ⟨x1,q1,h⟩:=bs h;refine .cV (Z8U q1) V (.tV V (.na H fun H => ?_));refine .wh h V ?_ ?_ <;> intro h
 ·refine .tR 2 V H fun b3 σ H => (.cV (Z4r V) V (.aV V (.na H fun H => (.ret ?_))));obtain rfl:=sj h;exact Ends.eR V
 refine .skip (.tR 4 V H fun b4 σ H => (.LV (vF f) H 0 V ?_));obtain ⟨x2,q2,h⟩:=bs h;refine .cV (Z7S q2) V (.alc (cs:=[(vi 0),(vi 0),.nils,.nils]) H V V fun σ H => (.sV (vF x2) H 0 V fun σ H => (.na H fun H => (.then ?_))));obtain ⟨y1,hj1,h⟩:=bs h;refine .mono (Q:=fun x e σ => (∃ a1,y1 = (.go a1)∧x = .normal∧Z2 e [(1,(vi m)),(2,(vi n)),(3,(.ptr (b1 + 0) 4 0)),(7,(.ptr (b4 + 2) 4 0))]∧Hs σ [.blk (b4 + 2) 25 (vF x2),.blk (b1 + 0) 25 (vF f)])∨(∃ r',y1 = (.ret r')∧x = .ret∧Ends CX Tryz.f3.results.toList (vb r') x e σ)) ?_ ?_
 ·replace h:=hj1;refine .tR 6 V H fun b5 σ H => (.mV V (.iV V (.mV V ?_)));refine .md H 3 [(35,(vb ((decide (m≤200)) || (decide (m > 6000))))),(1,(vi m)),(2,(vi n)),(3,(.ptr (b1 + 0) 4 0)),(7,(.ptr (b4 + 2) 4 0))] [.blk (b4 + 2) 25 (vF x2),.blk (b1 + 0) 25 (vF f)] rfl ?_ fun e σ H => ?_
  ·refine .split V V ?_ ?_ <;> intro hc2
   ·refine .ps 2 V (.kT V (.nil ?_));exact ⟨⟨or_T hc2,V,V,V,V,U⟩,H.wk (by omega)⟩
   ·refine .mV V (.iV V (.kF V (.nil ?_)));exact ⟨⟨or_F hc2,V,V,V,V,U⟩,H.wk (by omega)⟩
  refine .na H fun H => ?_;refine .wh h V ?_ ?_ <;> intro h
  ·refine .tR 9 V H fun b6 σ H => (.LV (vF x2) H 0 V (.mV V ?_));obtain ⟨x3,q3,h⟩:=bs h;refine .cV (Z2n q3) V (.m1 (.tup [(.agg (vF x3.1)),(vi x3.2)]) V V (.xV V (.xV V (.alc (cs:=[(vi 0),(vi 0),.nils,.nils]) H V V fun σ H => (.sV (vF x3.1) H 0 V fun σ H => (.aV V (.na H fun H => (.tR 9 V H fun b7 σ H => ?_))))))));refine .LV (vF f) H 2 V (.mV V ?_);obtain ⟨x4,q4,h⟩:=bs h;refine .cV (Z8X q4) V (.m1 (.tup [(.agg (vF x4.1)),(vi x4.2)]) V V (.xV V (.xV V (.alc (cs:=[(vi 0),(vi 0),.nils,.nils]) H V V fun σ H => (.sV (vF x4.1) H 0 V fun σ H => (.aV V (.na H fun H => (.tR 9 V H fun b8 σ H => ?_))))))));refine .mV V (.mV V (.iV V (.mV V ?_)));obtain ⟨y2,hj2,h⟩:=bs h;refine .md H 5 [(56,(vb y2)),(1,(vi m)),(2,(vi n)),(3,(.ptr (b1 + 0) 4 0)),(7,(.ptr (b4 + 2) 4 0))] [.blk (b4 + 2) 25 (vF x2),.blk (b1 + 0) 25 (vF f)] V ?_ fun e σ H => ?_
   ·refine .sp hj2 V ?_ ?_ <;> intro h
    ·refine .ps 4 V (.kT V (.nil ?_));obtain rfl:=sj h;exact ⟨EI V,((H.erase 1).erase 0).wk (by omega)⟩
    refine .LV (vF x3.1) H 1 V (.LV (vF x4.1) H 0 V (.wt V V ?_));obtain ⟨x5,q5,h⟩:=bs h;refine .cV (Z1p q5) V (.tV V (.kF V (.nil ?_)));obtain rfl:=sj h;exact ⟨EI V,((H.erase 1).erase 0).wk (by omega)⟩
   refine .na H fun H => ?_;refine .wh h V ?_ ?_ <;> intro h
   ·refine .tR 1 V H fun b9 σ H => (.aV V (.na H fun H => (.ret ?_)));obtain rfl:=sj h;exact (.inr ⟨_,V,V,(Ends.H (xs:=[(vb false)]) (.inr V) H (.tmp (v:=(vb false)) V .nil) (.one (.c (.v _))))⟩)
   refine .skip ?_;obtain rfl:=sj h;exact (.inl ⟨_,V,V,EI V,H⟩)
  refine .skip ?_;obtain rfl:=sj h;exact (.inl ⟨_,V,V,EI V,H⟩)
 ·rintro x e σ (⟨a2,rfl,rfl,he,H⟩ | ⟨r',rfl,rfl,hE⟩)
  ·replace h:=jgo h;obtain ⟨e,rfl⟩:=he.ex;refine .tR 9 V H fun b10 σ H => (.LV (vF x2) H 0 V (.mV V ?_));obtain ⟨x6,q6,h⟩:=bs h;refine .cV (Z79 q6) V (.m1 (.tup [(.agg (vF x6.1)),(vi x6.2)]) V V (.xV V (.xV V (.alc (cs:=[(vi 0),(vi 0),.nils,.nils]) H V V fun σ H => (.sV (vF x6.1) H 0 V fun σ H => (.aV V (.na H fun H => (.tR 9 V H fun b11 σ H => ?_))))))));refine .LV (vF f) H 2 V (.mV V ?_);obtain ⟨x7,q7,h⟩:=bs h;refine .cV (Z8P q7) V (.m1 (.tup [(.agg (vF x7.1)),(vi x7.2)]) V V (.xV V (.xV V (.alc (cs:=[(vi 0),(vi 0),.nils,.nils]) H V V fun σ H => (.sV (vF x7.1) H 0 V fun σ H => (.aV V (.na H fun H => (.then ?_))))))));refine .tR 9 V H fun b12 σ H => (.mV V (.mV V (.iV V (.mV V ?_))));obtain ⟨y3,hj3,h⟩:=bs h;refine .md H 5 [(77,(vb y3)),(1,(vi m)),(2,(vi n)),(3,(.ptr (b1 + 0) 4 0)),(7,(.ptr (b4 + 2) 4 0))] [.blk (b4 + 2) 25 (vF x2),.blk (b1 + 0) 25 (vF f)] V ?_ fun e σ H => ?_
   ·refine .sp hj3 V ?_ ?_ <;> intro h
    ·refine .ps 4 V (.kT V (.nil ?_));obtain rfl:=sj h;exact ⟨EI V,((H.erase 1).erase 0).wk (by omega)⟩
    refine .LV (vF x6.1) H 1 V (.LV (vF x7.1) H 0 V (.wt V V ?_));obtain ⟨x8,q8,h⟩:=bs h;refine .cV (Z1p q8) V (.tV V (.kF V (.nil ?_)));obtain rfl:=sj h;exact ⟨EI V,((H.erase 1).erase 0).wk (by omega)⟩
   refine .na H fun H => ?_;refine .wh h V ?_ ?_ <;> intro h
   ·refine .tR 1 V H fun b13 σ H => (.aV V (.na H fun H => (.ret ?_)));obtain rfl:=sj h;exact Ends.eR V
   refine .skip (.then ?_);obtain ⟨y4,hj4,h⟩:=bs h;refine .mono (Q:=fun x e σ => (∃ a3,y4 = (.go a3)∧x = .normal∧Z2 e [(2,(vi n)),(3,(.ptr (b1 + 0) 4 0)),(7,(.ptr (b4 + 2) 4 0))]∧Hs σ [.blk (b4 + 2) 25 (vF x2),.blk (b1 + 0) 25 (vF f)])∨(∃ r',y4 = (.ret r')∧x = .ret∧Ends CX Tryz.f3.results.toList (vb r') x e σ)) ?_ ?_
   ·replace h:=hj4;refine .tR 17 V H fun b14 σ H => (.mV V (.mV V (.iV V (.mV V ?_))));refine .md H 3 [(84,(vb ((decide (m > n)) || (decide (m < (-1099511627776)))))),(1,(vi m)),(2,(vi n)),(3,(.ptr (b1 + 0) 4 0)),(7,(.ptr (b4 + 2) 4 0))] [.blk (b4 + 2) 25 (vF x2),.blk (b1 + 0) 25 (vF f)] rfl ?_ fun e σ H => ?_
    ·refine .split V V ?_ ?_ <;> intro hc8
     ·refine .ps 2 V (.kT V (.nil ?_));exact ⟨⟨or_T hc8,V,V,V,V,U⟩,H.wk (by omega)⟩
     ·refine .mV V (.iV V (.kF V (.nil ?_)));exact ⟨⟨or_F hc8,V,V,V,V,U⟩,H.wk (by omega)⟩
    refine .mV V ?_;refine .md H 3 [(88,(vb (((decide (m > n)) || (decide (m < (-1099511627776)))) || (decide (n > 1099511627776))))),(1,(vi m)),(2,(vi n)),(3,(.ptr (b1 + 0) 4 0)),(7,(.ptr (b4 + 2) 4 0))] [.blk (b4 + 2) 25 (vF x2),.blk (b1 + 0) 25 (vF f)] rfl ?_ fun e σ H => ?_
    ·refine .split V V ?_ ?_ <;> intro hc9
     ·refine .ps 2 V (.kT V (.nil ?_));exact ⟨⟨or_T hc9,V,V,V,V,U⟩,H.wk (by omega)⟩
     ·refine .mV V (.iV V (.kF V (.nil ?_)));exact ⟨⟨or_F hc9,V,V,V,V,U⟩,H.wk (by omega)⟩
    refine .mV V ?_;refine .md H 5 [(94,(vb ((((decide (m > n)) || (decide (m < (-1099511627776)))) || (decide (n > 1099511627776))) || (decide ((w64 (n - m))≤2000))))),(1,(vi m)),(2,(vi n)),(3,(.ptr (b1 + 0) 4 0)),(7,(.ptr (b4 + 2) 4 0))] [.blk (b4 + 2) 25 (vF x2),.blk (b1 + 0) 25 (vF f)] rfl ?_ fun e σ H => ?_
    ·refine .split V V ?_ ?_ <;> intro hc10
     ·refine .ps 4 V (.kT V (.nil ?_));exact ⟨⟨or_T hc10,V,V,V,V,U⟩,H.wk (by omega)⟩
     ·refine .mV V (.mV V (.iV V (.iV V (.kF V (.nil ?_)))));exact ⟨⟨or_F hc10,V,V,V,V,U⟩,H.wk (by omega)⟩
    refine .na H fun H => ?_;refine .wh h V ?_ ?_ <;> intro h
    ·refine .tR 10 V H fun b15 σ H => (.LV (vF x2) H 0 V (.mV V (.mV V ?_)));obtain ⟨x9,q9,h⟩:=bs h;refine .cV (Z4L q9) V (.m1 (.tup [(.agg (vF x9.1)),(vi x9.2)]) V V (.xV V (.xV V (.alc (cs:=[(vi 0),(vi 0),.nils,.nils]) H V V fun σ H => (.sV (vF x9.1) H 0 V fun σ H => (.aV V (.na H fun H => (.tR 10 V H fun b16 σ H => ?_))))))));refine .LV (vF f) H 2 V (.mV V (.mV V ?_));obtain ⟨x10,q10,h⟩:=bs h;refine .cV (Z7i q10) V (.m1 (.tup [(.agg (vF x10.1)),(vi x10.2)]) V V (.xV V (.xV V (.alc (cs:=[(vi 0),(vi 0),.nils,.nils]) H V V fun σ H => (.sV (vF x10.1) H 0 V fun σ H => (.aV V (.na H fun H => (.tR 9 V H fun b17 σ H => ?_))))))));refine .mV V (.mV V (.iV V (.mV V ?_)));obtain ⟨y5,hj5,h⟩:=bs h;refine .md H 5 [(117,(vb y5)),(2,(vi n)),(3,(.ptr (b1 + 0) 4 0)),(7,(.ptr (b4 + 2) 4 0))] [.blk (b4 + 2) 25 (vF x2),.blk (b1 + 0) 25 (vF f)] V ?_ fun e σ H => ?_
     ·refine .sp hj5 V ?_ ?_ <;> intro h
      ·refine .ps 4 V (.kT V (.nil ?_));obtain rfl:=sj h;exact ⟨EI V,((H.erase 1).erase 0).wk (by omega)⟩
      refine .LV (vF x9.1) H 1 V (.LV (vF x10.1) H 0 V (.wt V V ?_));obtain ⟨x11,q11,h⟩:=bs h;refine .cV (Z1p q11) V (.tV V (.kF V (.nil ?_)));obtain rfl:=sj h;exact ⟨EI V,((H.erase 1).erase 0).wk (by omega)⟩
     refine .na H fun H => ?_;refine .wh h V ?_ ?_ <;> intro h
     ·refine .tR 1 V H fun b18 σ H => (.aV V (.na H fun H => (.ret ?_)));obtain rfl:=sj h;exact (.inr ⟨_,V,V,(Ends.H (xs:=[(vb false)]) (.inr V) H (.tmp (v:=(vb false)) V .nil) (.one (.c (.v _))))⟩)
     refine .skip ?_;obtain rfl:=sj h;exact (.inl ⟨_,V,V,EI V,H⟩)
    refine .skip ?_;obtain rfl:=sj h;exact (.inl ⟨_,V,V,EI V,H⟩)
   ·rintro x e σ (⟨a4,rfl,rfl,he,H⟩ | ⟨r',rfl,rfl,hE⟩)
    ·replace h:=jgo h;obtain ⟨e,rfl⟩:=he.ex;refine .tR 8 V H fun b19 σ H => (.LV (vF x2) H 0 V (.mV V ?_));obtain ⟨x12,q12,h⟩:=bs h;refine .cV (Z67 q12) V (.m1 (.tup [(vl Span.cs x12.1),(vi x12.2)]) V V (.xV V (.xV V (.aV V (.aV V (.na H fun H => (.tR 8 V H fun b20 σ H => (.LV (vF f) H 1 V ?_))))))));refine .mV V ?_;obtain ⟨x13,q13,h⟩:=bs h;refine .cV (Z3p q13) V (.m1 (.tup [(vl Span.cs x13.1),(vi x13.2)]) V V (.xV V (.xV V (.aV V (.aV V (.na H fun H => (.tR 17 V H fun b21 σ H => (.mV V ?_))))))));refine .mV V (.iV V (.mV V ?_));obtain ⟨y6,hj6,h⟩:=bs h;refine .md H 4 [(137,(vb y6)),(3,(.ptr (b1 + 0) 4 0)),(7,(.ptr (b4 + 2) 4 0))] [.blk (b4 + 2) 25 (vF x2),.blk (b1 + 0) 25 (vF f)] V ?_ fun e σ H => ?_
     ·refine .sp hj6 V ?_ ?_ <;> intro h
      ·refine .mV V (.mV V (.wt V V ?_));obtain ⟨x14,q14,h⟩:=bs h;refine .cV (Z27 q14) V (.kT V (.nil ?_));obtain rfl:=sj h;exact ⟨EI V,H.wk (by omega)⟩
      refine .ps 3 V (.kF V (.nil ?_));obtain rfl:=sj h;exact ⟨EI V,H.wk (by omega)⟩
     refine .mV V ?_;obtain ⟨y7,hj7,h⟩:=bs h;refine .md H 4 [(142,(vb y7))] [] V ?_ fun e σ H => ?_
     ·refine .sp hj7 V ?_ ?_ <;> intro h
      ·refine .LV (vF f) H 1 V (.LV (vF x2) H 0 V (.wt V V ?_));obtain ⟨x15,q15,h⟩:=bs h;refine .cV (Z1p q15) V (.kT V (.nil ?_));obtain rfl:=sj h;exact ⟨EI V,((H.erase 1).erase 0).wk (by omega)⟩
      refine .ps 3 V (.kF V (.nil ?_));obtain rfl:=sj h;exact ⟨EI V,((H.erase 1).erase 0).wk (by omega)⟩
     refine .mV V ?_;refine .md H 2 [(145,(vb (y7 && Z1N)))] [] V ?_ fun e σ H => ?_
     ·refine .split V V ?_ ?_ <;> intro hc16
      ·refine .cV (Z4r V) V (.kT V (.nil ?_));exact ⟨⟨Z1M hc16,U⟩,H.wk (by omega)⟩
      ·refine .ps 1 V (.kF V (.nil ?_));exact ⟨⟨Z1K hc16,U⟩,H.wk (by omega)⟩
     refine .aV V (.na H fun H => (.ret ?_));obtain rfl:=sj h;exact Ends.eR V
    ·replace h:=jret h;obtain rfl:=sj h;exact hE
  ·replace h:=jret h;obtain rfl:=sj h;exact hE
end Go.Dn

namespace Go.Dn
open Go
theorem Z0Y {S R:Type} {step:S→Option (S ⊕ R)} (I:S→Prop) (m:S→Nat) (post:R→Prop)
  (h:∀ s,I s→(∃ s',step s = some (.inl s')∧I s'∧m s' < m s)∨(∃ r,step s = some (.inr r)∧post r)):∀ s,I s→∃ r,loopO step s = some r∧post r:=by
 have key:∀ n s,m s = n→I s→∃ r,loopO step s = some r∧post r:=by
  intro n
  induction n using Nat.strongRecOn with
  | _ n ih =>
   intro s hm hI
   rcases h s hI with ⟨s',h1,h2,h3⟩ | ⟨r,h1,h2⟩
   ·obtain ⟨r,q1,q2⟩:=ih (m s') (by omega) s' rfl h2
    exact ⟨r,by rw [Z45,h1];exact q1,q2⟩
   ·exact ⟨r,by rw [Z45,h1],h2⟩
 exact fun s hI => key _ s rfl hI
theorem Z0s {S R:Type} {step:S→Option (S ⊕ R)} (I:S→R→Prop) (m:S→Nat)
  (h:∀ s r,I s r→(∃ s',step s = some (.inl s')∧I s' r∧m s' < m s)∨step s = some (.inr r)) {s:S} {r:R} (hI:I s r):loopO step s = some r:=by
 obtain ⟨r',h1,h2⟩:=Z0Y (I:=fun s => I s r) m (fun r' => r' = r) (fun s hs => by
  rcases h s r hs with ⟨s',h1,h2,h3⟩ | h1
  ·exact .inl ⟨s',h1,h2,h3⟩
  ·exact .inr ⟨r,h1,rfl⟩) s hI
 rw [h1,h2]
theorem Z5S (a:Int):IntKind.i64.wrap a = (a + 9223372036854775808) % 18446744073709551616 - 9223372036854775808:=by
 simp [IntKind.wrap,IntKind.bits,IntKind.signed]
 split <;> omega
theorem Z6R (a:Int):IntKind.u64.wrap a = a % 18446744073709551616:=by
 simp [IntKind.wrap,IntKind.bits,IntKind.signed]
theorem Z1 {x:Int} (h : -9223372036854775808≤x∧x≤9223372036854775807):w64 x = x:=by
 unfold w64;rw [Z5S];omega
theorem ZAu:maxLen = 9223372036854775807:=rfl
theorem Z1F:room = 140737488355328:=rfl
theorem at?_lt {α:Type} {l:List α} {i:Int} (h0:0≤i) (h:i < l.length):at? l i = some (l[i.toNat]'(by omega)):=by
 unfold at?;rw [if_pos h0,Y2]
theorem at?_nat {α:Type} {l:List α} {k:Nat} (h:k < l.length):at? l (k:Int) = some l[k]:=by
 rw [at?_lt (by omega) (by omega)];rfl
theorem app?_ok {α:Type} {b:Nat} {l m:List α} (h:(l.length + m.length) * b≤room):app? b l m = some (l ++ m):=if_pos h
theorem nz?_ok {b:Int} (h:b ≠ 0):nz? b = some ():=if_neg h
theorem Z6O {a b:Int} (h:a = b):(a == b) = true:=by simp [h]
theorem Z3L {a b:Int} (h:a ≠ b):(a == b) = false:=by simp [h]
theorem Z78 {a b:Int} (h:a ≠ b):(a != b) = true:=by simp [h]
theorem Z4d {a b:Int} (h:a = b):(a != b) = false:=by simp [h]
theorem ibeq (a b:Int):(a == b) = decide (a = b):=by by_cases h:a = b <;> simp [h]
theorem ZC {p:Prop} [Decidable p] (h:p):decide p = true:=by simp [h]
theorem ZB {p:Prop} [Decidable p] (h:¬ p):decide p = false:=by simp [h]
theorem pickB {α:Type} (c:Bool) (a b:α):(bif c then a else b) = if c = true then a else b:=by cases c <;> rfl
theorem ZAP {α:Type} {l:List α} {good:Nat→α→Prop} (h:¬ ∀ k x,l[k]? = some x→good k x):∃ (k:Nat) (x:α),l[k]? = some x∧¬ good k x∧∀ j y,j < k→l[j]? = some y→good j y:=by
 have hex:∃ k:Nat,∃ x,l[k]? = some x∧¬ good k x:=by
  apply Classical.byContradiction;intro hn;exact h fun k x hk => Classical.byContradiction fun hg => hn ⟨k,x,hk,hg⟩
 obtain ⟨k,hk⟩:=hex
 induction k using Nat.strongRecOn with
 | _ k ih =>
  by_cases h:∃ j,j < k∧∃ x,l[j]? = some x∧¬ good j x
  ·obtain ⟨j,hj,hx⟩:=h
   exact ih j hj hx
  ·obtain ⟨x,hx,hb⟩:=hk
   exact ⟨k,x,hx,hb,fun j y hj hy => Classical.byContradiction fun hg => h ⟨j,hj,y,hy,hg⟩⟩
theorem Z1L {α R:Type} {l:List α} {step:Int→Option (Int ⊕ R)} (good:Nat→α→Prop) {no yes:R}
  (hstep:∀ (k:Nat) (x:α),l[k]? = some x→(∀ j y,j < k→l[j]? = some y→good j y)→(step (k:Int) = some (.inl ((k:Int) + 1))∧good k x)∨(step (k:Int) = some (.inr no)∧¬ good k x))
  (hend:step (l.length:Int) = some (.inr yes)):(loopO step 0 = some yes∧∀ k x,l[k]? = some x→good k x)∨(loopO step 0 = some no∧¬ ∀ k x,l[k]? = some x→good k x):=by
 by_cases hall:∀ k x,l[k]? = some x→good k x
 ·refine .inl ⟨?_,hall⟩;refine Z0s (I:=fun (s:Int) r => r = yes∧∃ k:Nat,s = k∧k≤l.length) (fun s => (l.length - s.toNat)) ?_ ⟨rfl,0,rfl,YS _⟩
  rintro s r ⟨rfl,k,rfl,hk⟩
  by_cases hlt:k < l.length
  ·rcases hstep k l[k] (Y2 hlt) (fun j y _ hy => hall j y hy) with ⟨h1,_⟩ | ⟨_,h2⟩
   ·exact .inl ⟨_,h1,⟨rfl,k + 1,by push_cast;rfl,hlt⟩,by simp;omega⟩
   ·exact absurd (hall k _ (Y2 hlt)) h2
  ·have:k = l.length:=by omega
   subst this;exact .inr hend
 ·refine .inr ⟨?_,hall⟩;obtain ⟨k0,x0,hx0,hb0,hgood⟩:=ZAP hall
  have hlt0:=(List.getElem?_eq_some_iff.1 hx0).1
  refine Z0s (I:=fun (s:Int) r => r = no∧∃ k:Nat,s = k∧k≤k0) (fun s => (l.length - s.toNat)) ?_ ⟨rfl,0,rfl,YS _⟩
  rintro s r ⟨rfl,k,rfl,hk⟩
  by_cases hlt:k < k0
  ·have hkl:k < l.length:=by omega
   rcases hstep k l[k] (Y2 hkl) (fun j y hj hy => hgood j y (by omega) hy) with ⟨h1,_⟩ | ⟨_,h2⟩
   ·exact .inl ⟨_,h1,⟨rfl,k + 1,by push_cast;rfl,hlt⟩,by simp;omega⟩
   ·exact absurd (hgood k _ hlt (Y2 hkl)) h2
  ·have:k = k0:=by omega
   subst this
   rcases hstep k x0 hx0 hgood with ⟨_,h2⟩ | ⟨h1,_⟩
   ·exact absurd h2 hb0
   ·exact .inr h1
theorem fold_loop {α A R:Type} {l:List α} {step:A × Int→Option ((A × Int) ⊕ R)} (f:A→Nat→α→A) (fin:A→R) (I:Nat→A→Prop) {a0:A} (h0:I 0 a0)
  (hgo:∀ (k:Nat) (x:α) (a:A),l[k]? = some x→I k a→step (a,(k:Int)) = some (.inl (f a k x,(k:Int) + 1))∧I (k + 1) (f a k x))
  (hend:∀ a,I l.length a→step (a,(l.length:Int)) = some (.inr (fin a))):∃ a,loopO step (a0,0) = some (fin a)∧I l.length a:=by
 obtain ⟨r,h1,a,rfl,h2⟩:=Z0Y (step:=step) (I:=fun s => ∃ (k:Nat) (a:A),s = (a,(k:Int))∧k≤l.length∧I k a) (fun s => l.length - s.2.toNat) (fun r => ∃ a,r = fin a∧I l.length a) (by
  rintro s ⟨k,a,rfl,hk,hI⟩
  by_cases hlt:k < l.length
  ·obtain ⟨q1,q2⟩:=hgo k l[k] a (Y2 hlt) hI
   exact .inl ⟨_,q1,⟨k + 1,_,by push_cast;rfl,hlt,q2⟩,by simp;omega⟩
  ·have:k = l.length:=by omega
   subst this;exact .inr ⟨_,hend a hI,a,rfl,hI⟩) (a0,0) ⟨0,a0,rfl,YS _,h0⟩
 exact ⟨a,h1,h2⟩
end Go.Dn

namespace Go.Dn
open Go
def In64 (a:Int):Prop:=-9223372036854775808≤a∧a≤9223372036854775807
def Z77 (a:Int):Prop:=0≤a∧a≤18446744073709551615
def fitS (a:Int):Int × Int:=if -9223372036854775808≤a∧a≤9223372036854775807 then (a,0) else (0,10)
theorem Z9f {a:Int} (h:In64 a):fitS a = (a,0):=if_pos h
theorem fitS_not {a:Int} (h:¬ In64 a):fitS a = (0,10):=if_neg h
theorem fit_or (x:Int):(In64 x∧fitS x = (x,0))∨(¬ In64 x∧fitS x = (0,10)):=by
 by_cases h:In64 x
 ·exact .inl ⟨h,Z9f h⟩
 ·exact .inr ⟨h,fitS_not h⟩
theorem and32 (x:Int) (h:Z77 x):(((BitVec.ofInt 64 x &&& BitVec.ofInt 64 4294967295).toNat:Nat):Int) = x % 4294967296:=by
 obtain ⟨n,rfl⟩:=Int.eq_ofNat_of_zero_le h.1
 have hn:n < 2 ^ 64:=by have:=h.2;omega
 have h1:(BitVec.ofInt 64 (n:Int)).toNat = n:=by simp [BitVec.toNat_ofInt];omega
 have h2:(BitVec.ofInt 64 4294967295).toNat = 2 ^ 32 - 1:=by decide
 rw [BitVec.toNat_and,h1,h2,Nat.and_two_pow_sub_one_eq_mod]
 omega
theorem mul64_fact {x y:Int} (hx:Z77 x) (hy:Z77 y) :
  (x / 4294967296 * (y / 4294967296) + (x / 4294967296 * (y % 4294967296) + x % 4294967296 * (y % 4294967296) / 4294967296) / 4294967296 +
   ((x / 4294967296 * (y % 4294967296) + x % 4294967296 * (y % 4294967296) / 4294967296) % 4294967296 + x % 4294967296 * (y / 4294967296)) / 4294967296) = x * y / 18446744073709551616 ∧
  0≤x % 4294967296 * (y % 4294967296)∧x % 4294967296 * (y % 4294967296)≤18446744065119617025 ∧
  0≤x / 4294967296 * (y % 4294967296)∧x / 4294967296 * (y % 4294967296)≤18446744065119617025 ∧
  0≤x % 4294967296 * (y / 4294967296)∧x % 4294967296 * (y / 4294967296)≤18446744065119617025 ∧
  0≤x / 4294967296 * (y / 4294967296)∧x / 4294967296 * (y / 4294967296)≤18446744065119617025:=by
 have b:∀ {u v:Int},0≤u→u≤4294967295→0≤v→v≤4294967295→0≤u * v∧u * v≤18446744065119617025:=by
  intro u v h1 h2 h3 h4;exact ⟨Yr h1 h3,Int.le_trans (Int.mul_le_mul h2 h4 h3 (by omega)) (by decide)⟩
 obtain ⟨hx1,hx2⟩:=hx
 obtain ⟨hy1,hy2⟩:=hy
 obtain ⟨a1,a2⟩:=b (u:=x % 4294967296) (v:=y % 4294967296) (by omega) (by omega) (by omega) (by omega)
 obtain ⟨b1,b2⟩:=b (u:=x / 4294967296) (v:=y % 4294967296) (by omega) (by omega) (by omega) (by omega)
 obtain ⟨c1,c2⟩:=b (u:=x % 4294967296) (v:=y / 4294967296) (by omega) (by omega) (by omega) (by omega)
 obtain ⟨d1,d2⟩:=b (u:=x / 4294967296) (v:=y / 4294967296) (by omega) (by omega) (by omega) (by omega)
 refine ⟨?_,a1,a2,b1,b2,c1,c2,d1,d2⟩
 have e:x * y = x / 4294967296 * (y / 4294967296) * 18446744073709551616 + (x / 4294967296 * (y % 4294967296) + x % 4294967296 * (y / 4294967296)) * 4294967296 + x % 4294967296 * (y % 4294967296):=by
  have ex:x = x / 4294967296 * 4294967296 + x % 4294967296:=by omega
  have ey:y = y / 4294967296 * 4294967296 + y % 4294967296:=by omega
  clear a1 a2 b1 b2 c1 c2 d1 d2 b hx1 hx2 hy1 hy2
  generalize x / 4294967296 = x1 at *
  generalize x % 4294967296 = x0 at *
  generalize y / 4294967296 = y1 at *
  generalize y % 4294967296 = y0 at *
  subst ex ey;simp only [Y0G,Y18];have h1:x1 * 4294967296 * (y1 * 4294967296) = x1 * y1 * 18446744073709551616:=by
   rw [Yp,Yt 4294967296,Yp y1,← Yp]
   rfl
  have h2:x1 * 4294967296 * y0 = x1 * y0 * 4294967296:=by rw [Yp,Yt 4294967296,← Yp]
  have h3:x0 * (y1 * 4294967296) = x0 * y1 * 4294967296:=by rw [← Yp]
  rw [h1,h2,h3];omega
 rw [e]
 generalize x / 4294967296 * (y / 4294967296) = d at *
 generalize x / 4294967296 * (y % 4294967296) = b' at *
 generalize x % 4294967296 * (y / 4294967296) = c at *
 generalize x % 4294967296 * (y % 4294967296) = a at *
 omega
theorem ZB4 {a b:Int} (ha:In64 a) (hb:In64 b):Zm a b = fitS (a + b):=by
 unfold In64 at ha hb
 unfold Zm fitS w64
 rw [Z5S]
 cases h:((decide ((a + b + 9223372036854775808) % 18446744073709551616 - 9223372036854775808 > a) != decide (b > 0)) && b != 0)
 ·rw [cond_false];simp only [Y0p,bne_eq_false_iff_eq,decide_eq_decide] at h
  split <;> simp only [Y3,and_true] <;> omega
 ·rw [cond_true];simp only [Y8,bne_iff_ne,ne_eq,decide_eq_decide] at h
  split <;> simp only [Y3] <;> omega
theorem Z51 {a:Int} (h:In64 a):Zf a = a.natAbs:=by
 unfold In64 at h
 unfold Zf
 rw [pickB]
 simp only [decide_eq_true_eq,Z6R]
 split <;> omega
theorem inU_abs {a:Int} (h:In64 a):Z77 a.natAbs:=by unfold In64 at h;unfold Z77;omega
theorem natAbs_prod (a b:Int):(a.natAbs:Int) * b.natAbs = (a * b).natAbs:=by rw [Int.natAbs_mul];simp
theorem mul64_eq {x y:Int} (hx:Z77 x) (hy:Z77 y):Z06 x y = (x * y / 18446744073709551616,x * y % 18446744073709551616):=by
 unfold Z06
 have hb:∀ z:Int,z.fdiv (2 ^ 32) = z / 4294967296:=fun z => Y0u z (by decide)
 have hm:(IntKind.u64.bits) = 64:=rfl
 obtain ⟨h1,h2,h3,h4,h5,h6,h7,h8,h9⟩:=mul64_fact hx hy
 have hw:∀ z:Int,0≤z→z≤18446744073709551615→IntKind.u64.wrap z = z:=fun z q1 q2 => by rw [Z6R];omega
 simp only [hb,iAnd]
 rw [hm,and32 x hx,and32 y hy]
 have x0:0≤x % 4294967296∧x % 4294967296 < 4294967296:=by omega
 have y0:0≤y % 4294967296∧y % 4294967296 < 4294967296:=by omega
 rw [hw (x % 4294967296) (by omega) (by omega),hw (y % 4294967296) (by omega) (by omega),hw _ h2 (by omega),hw _ h4 (by omega),hw _ h6 (by omega),hw _ h8 (by omega)]
 rw [hw (x / 4294967296 * (y % 4294967296) + x % 4294967296 * (y % 4294967296) / 4294967296) (by omega) (by omega)]
 rw [and32 _ ⟨by omega,by omega⟩]
 have t0:0≤(x / 4294967296 * (y % 4294967296) + x % 4294967296 * (y % 4294967296) / 4294967296) % 4294967296∧(x / 4294967296 * (y % 4294967296) + x % 4294967296 * (y % 4294967296) / 4294967296) % 4294967296 < 4294967296:=by omega
 rw [hw ((x / 4294967296 * (y % 4294967296) + x % 4294967296 * (y % 4294967296) / 4294967296) % 4294967296) (by omega) (by omega)]
 rw [hw ((x / 4294967296 * (y % 4294967296) + x % 4294967296 * (y % 4294967296) / 4294967296) % 4294967296 + x % 4294967296 * (y / 4294967296)) (by omega) (by omega)]
 rw [hw (x / 4294967296 * (y / 4294967296) + (x / 4294967296 * (y % 4294967296) + x % 4294967296 * (y % 4294967296) / 4294967296) / 4294967296) (by omega) (by omega)]
 rw [hw _ (by omega) (by omega),h1,Z6R]
theorem Z85 {n:Int} (m:Bool) (h:Z77 n):Z1s n m = fitS (if m then -n else n):=by
 unfold Z77 at h
 unfold Z1s fitS w64
 rw [pickB,pickB,Z6R,Z5S,Z5S]
 cases m <;> simp only [Bool.true_and,Y0Y,YQ,Yq,decide_eq_true_eq,Y9,if_false,if_true]
 ·split
  ·rw [if_pos (by omega)];simp only [Y3,and_true];omega
  ·rw [if_neg (by omega)]
 ·split
  ·rw [if_pos (by omega)];simp only [Y3,and_true];omega
  ·rw [if_neg (by omega)]
theorem Z4i {a b:Int} (ha:In64 a) (hb:In64 b):Zn a b = fitS (a * b):=by
 unfold Zn
 rw [Z51 ha,Z51 hb,mul64_eq (inU_abs ha) (inU_abs hb),pickB]
 simp only [natAbs_prod]
 rw [Z85 _ (by unfold Z77;omega)]
 by_cases h:((a * b).natAbs:Int) / 18446744073709551616 = 0
 ·rw [if_neg (by simp [h])]
  have e:((a * b).natAbs:Int) % 18446744073709551616 = (a * b).natAbs:=by omega
  rw [e]
  show fitS _ = _
  refine congrArg fitS ?_
  by_cases h1:a < 0 <;> by_cases h2:b < 0 <;> simp only [h1,h2,decide_true,decide_false]
  ·have:=Int.mul_nonneg_of_nonpos_of_nonpos (Y0z h1) (Y0z h2)
   simp;omega
  ·have:=Int.mul_nonpos_of_nonpos_of_nonneg (Y0z h1) (Int.not_lt.1 h2)
   simp;omega
  ·have:=Y0F (Int.not_lt.1 h1) (Y0z h2)
   simp;omega
  ·have:=Yr (Int.not_lt.1 h1) (Int.not_lt.1 h2)
   simp;omega
 ·rw [if_pos (by simp [h])]
  unfold fitS;rw [if_neg];omega
def Z8v (a b:Int):Int × Int × Int:=if b = 0 then (0,0,11) else if b = -1∧a = -9223372036854775808 then (0,0,10) else (a.fdiv b,a.fmod b,0)
theorem floor_up {a b:Int} (hb:b ≠ 0) (h1:a.tmod b ≠ 0) (h2:¬(a.tmod b < 0 ↔ b < 0)):a.fdiv b = a.tdiv b - 1∧a.fmod b = a.tmod b + b:=by
 have q1:=Ym a hb
 have q2:=Int.emod_lt a hb
 have hd:b ∣ a ↔ a % b = 0:=Int.dvd_iff_emod_eq_zero
 rw [Int.fdiv_eq_ediv,Int.fmod_eq_emod,Int.tdiv_eq_ediv]
 rw [Int.tmod_eq_emod] at h1 h2 ⊢
 simp only [hd] at h1 h2 ⊢
 rcases Int.lt_or_gt_of_ne hb with h | h
 ·rw [Int.sign_eq_neg_one_of_neg h]
  split at h1 <;> split <;> simp_all <;> omega
 ·rw [Int.sign_eq_one_of_pos h]
  split at h1 <;> split <;> simp_all <;> omega
theorem ZCR {a b:Int} (hb:b ≠ 0) (h:a.tmod b = 0∨(a.tmod b < 0 ↔ b < 0)):a.fdiv b = a.tdiv b∧a.fmod b = a.tmod b:=by
 have q1:=Ym a hb
 have q2:=Int.emod_lt a hb
 have hd:b ∣ a ↔ a % b = 0:=Int.dvd_iff_emod_eq_zero
 rw [Int.fdiv_eq_ediv,Int.fmod_eq_emod,Int.tdiv_eq_ediv]
 rw [Int.tmod_eq_emod] at h ⊢
 simp only [hd] at h ⊢
 rcases Int.lt_or_gt_of_ne hb with hh | hh
 ·rw [Int.sign_eq_neg_one_of_neg hh]
  split at h <;> split <;> simp_all <;> omega
 ·rw [Int.sign_eq_one_of_pos hh]
  split at h <;> split <;> simp_all <;> omega
theorem tdiv_in {a b:Int} (ha:In64 a) (hb:b ≠ 0) (hn:¬(b = -1∧a = -9223372036854775808)):In64 (a.tdiv b):=by
 have h:(a.tdiv b).natAbs = a.natAbs / b.natAbs:=Int.natAbs_tdiv a b
 obtain ⟨h1,h2⟩:=ha
 by_cases hb1:b = 1
 ·subst hb1;rw [Int.tdiv_one];exact ⟨h1,h2⟩
 ·by_cases hb2:b = -1
  ·have ha':a ≠ -9223372036854775808:=fun e => hn ⟨hb2,e⟩
   have:a.natAbs / b.natAbs≤a.natAbs:=Nat.div_le_self _ _
   unfold In64;omega
  ·have h3:a.natAbs / b.natAbs≤a.natAbs / 2:=Nat.div_le_div_left (by omega) (by omega)
   unfold In64;omega
theorem tdiv_in1 {a b:Int} (ha:In64 a) (hb:b ≠ 0) (h1:a.tmod b ≠ 0):In64 (a.tdiv b - 1):=by
 have h:(a.tdiv b).natAbs = a.natAbs / b.natAbs:=Int.natAbs_tdiv a b
 obtain ⟨h2,h3⟩:=ha
 by_cases hb1:b = 1
 ·subst hb1;simp at h1
 ·by_cases hb2:b = -1
  ·subst hb2;simp at h1
  ·have h3:a.natAbs / b.natAbs≤a.natAbs / 2:=Nat.div_le_div_left (by omega) (by omega)
   unfold In64;omega
theorem tmod_in {a b:Int} (hb:In64 b) (hb0:b ≠ 0):In64 (a.tmod b):=by
 have h:(a.tmod b).natAbs = a.natAbs % b.natAbs:=Int.natAbs_tmod a b
 have:a.natAbs % b.natAbs < b.natAbs:=Nat.mod_lt _ (by omega)
 unfold In64 at *;omega
theorem wrap_in {a:Int} (h:In64 a):IntKind.i64.wrap a = a:=by rw [Z5S];unfold In64 at h;omega
theorem fmod_in {a b:Int} (hb:In64 b) (hb0:b ≠ 0):In64 (a.fmod b):=by
 have q1:=Ym a hb0
 have q2:=Int.emod_lt a hb0
 rw [Int.fmod_eq_emod]
 unfold In64 at *
 split <;> omega
theorem floor_leaf1 {a b:Int} (ha:In64 a) (hb:In64 b) (h0:b ≠ 0) (hn:¬(b = -1∧a = -9223372036854775808)) (h1:a.tmod b ≠ 0) (h2:¬(a.tmod b < 0 ↔ b < 0)) :
  (IntKind.i64.wrap (IntKind.i64.wrap (a.tdiv b) - 1),IntKind.i64.wrap (a.tmod b + b),(0:Int)) = Z8v a b:=by
 obtain ⟨e1,e2⟩:=floor_up h0 h1 h2
 rw [Z8v,if_neg h0,if_neg hn,e1,e2,wrap_in (tdiv_in ha h0 hn),wrap_in (tdiv_in1 ha h0 h1),wrap_in (by rw [← e2];exact fmod_in hb h0)]
theorem floor_leaf2 {a b:Int} (ha:In64 a) (hb:In64 b) (h0:b ≠ 0) (hn:¬(b = -1∧a = -9223372036854775808)) (h:a.tmod b = 0∨(a.tmod b < 0 ↔ b < 0)) :
  (IntKind.i64.wrap (a.tdiv b),a.tmod b,(0:Int)) = Z8v a b:=by
 obtain ⟨e1,e2⟩:=ZCR h0 h
 rw [Z8v,if_neg h0,if_neg hn,e1,e2,wrap_in (tdiv_in ha h0 hn)]
theorem Z2v {a b:Int} (ha:In64 a) (hb:In64 b):Z19 a b = some (Z8v a b):=by
 unfold Z19
 by_cases h0:b = 0
 ·subst h0;rfl
 rw [Z3L h0,cond_false]
 by_cases hn:b = -1∧a = -9223372036854775808
 ·obtain ⟨rfl,rfl⟩:=hn
  rfl
 have:(b == -1 && a == -9223372036854775808) = false:=by
  simp only [Y0p,beq_eq_false_iff_ne]
  by_cases h:b = -1
  ·exact .inr fun e => hn ⟨h,e⟩
  ·exact .inl h
 rw [this,cond_false,nz?_ok h0]
 simp only [Y0,pickB,Y8,bne_iff_ne,ne_eq,decide_eq_decide]
 split
 ·rename_i h;simp only [Y0];exact congrArg some (floor_leaf1 ha hb h0 hn h.1 h.2)
 ·rename_i h;simp only [Y0];refine congrArg some (floor_leaf2 ha hb h0 hn ?_)
  by_cases h1:a.tmod b = 0
  ·exact .inl h1
  ·exact .inr (Classical.byContradiction fun h2 => h ⟨h1,h2⟩)
theorem Z41 {a b:Int} (hb:0 < b):a.fdiv b = a / b∧a.fmod b = a % b:=⟨Y0u a (Y0z hb),Int.fmod_eq_emod_of_nonneg a (Y0z hb)⟩
theorem Z4I {a b:Int} (hb:0 < b):Z8v a b = (a / b,a % b,0):=by
 unfold Z8v
 rw [if_neg (by omega),if_neg (by omega),(Z41 hb).1,(Z41 hb).2]
end Go.Dn

namespace Go.Dn
open Go
theorem Z0g:reachBytes = 140737488351232:=rfl
def Z3 (t:Int):Prop:=-1099511627776≤t∧t≤1099511627776
instance (t:Int):Decidable (Z3 t):=by unfold Z3;infer_instance
theorem Z68 (t:Int):Z0z t = decide (Z3 t):=by
 rw [Bool.eq_iff_iff,decide_eq_true_iff];simp [Z0z,Z3]
theorem Z6z (t:Int):Z1B t = decide (Z3 t):=by
 rw [Bool.eq_iff_iff,decide_eq_true_iff];simp [Z1B,Z3]
theorem Z0M {t:Int} (h:Z3 t):In64 t:=by unfold Z3 at h;unfold In64;omega
structure RightL (l:List Span):Prop where
 ok:∀ (k:Nat) (s:Span),l[k]? = some s→Z3 s.From∧Z3 s.To∧s.From≤s.To
 gap:∀ (k:Nat) (s t:Span),l[k]? = some s→l[k + 1]? = some t→s.To + 2≤t.From
abbrev Len (l:List Span):Prop:=l.length * 16≤reachBytes
abbrev Sp64 (l:List Span):Prop:=∀ s ∈ l,In64 s.From∧In64 s.To
theorem Span.ok64 {s:Span} (h:s.ok):In64 s.From∧In64 s.To:=h
theorem okSpans {l:List Span} (h:okL 16 Span.ok l):Len l∧Sp64 l:=⟨h.1,fun s hs => Span.ok64 (h.2 s hs)⟩
theorem RightL.sp64 {l:List Span} (h:RightL l):Sp64 l:=fun s hs => by
 obtain ⟨k,hk⟩:=YB hs
 have:=h.ok k s hk
 exact ⟨Z0M this.1,Z0M this.2.1⟩
def Z2H (l:List Span) (k:Nat) (s:Span):Prop:=Z3 s.From∧Z3 s.To∧s.From≤s.To∧∀ p,k ≠ 0→l[k - 1]? = some p→p.To + 2≤s.From
theorem Z3X {l:List Span}:RightL l ↔ ∀ k s,l[k]? = some s→Z2H l k s:=by
 constructor
 ·intro h k s hk;obtain ⟨h1,h2,h3⟩:=h.ok k s hk
  refine ⟨h1,h2,h3,fun p h0 hp => ?_⟩
  have:k - 1 + 1 = k:=by omega
  exact h.gap (k - 1) p s hp (by rw [this];exact hk)
 ·intro h;refine ⟨fun k s hk => ⟨(h k s hk).1,(h k s hk).2.1,(h k s hk).2.2.1⟩,fun k s t hs ht => (h (k + 1) t ht).2.2.2 s (by omega) (by simpa using hs)⟩
theorem Z7o {l:List Span} (hl:Len l) (h64:Sp64 l):∃ b,Z0N l = some b∧(b = true ↔ RightL l):=by
 have hlen:l.length≤maxLen:=by rw [ZAu];have:=Z0g;unfold Len at hl;omega
 have step:∀ (k:Nat) (s:Span),l[k]? = some s→(∀ j y,j < k→l[j]? = some y→Z2H l j y)→∃ b,Z0N.s0 l (k:Int) = (if b = true then some (.inl ((k:Int) + 1)) else some (.inr (.ret false)))∧(b = true ↔ Z2H l k s):=by
  intro k s hk hprev;have hlt:=(List.getElem?_eq_some_iff.1 hk).1
  have hat:at? l (k:Int) = some s:=by rw [at?_nat hlt];rw [Y2 hlt] at hk;exact hk
  unfold Z0N.s0;rw [ZC (show (k:Int) < l.length by omega),cond_true,hat]
  simp only [Y0,Z68];have hk1:w64 ((k:Int) + 1) = k + 1:=Z1 (by rw [ZAu] at hlen;omega)
  by_cases h1:Z3 s.From∧Z3 s.To∧s.From≤s.To
  ·have:(!decide (Z3 s.From) || !decide (Z3 s.To) || decide (s.From > s.To)) = false:=by
    rw [ZC h1.1,ZC h1.2.1,ZB (by omega)];rfl
   rw [this,cond_false]
   by_cases h0:k = 0
   ·subst h0;refine ⟨true,by simp [w64];rw [Z5S];rfl,by simp [Z2H,h1]⟩
   ·have hk0:(k:Int) > 0:=by omega
    have hpl:k - 1 < l.length:=by omega
    have hp:at? l (w64 ((k:Int) - 1)) = some l[k - 1]:=by
     rw [Z1 (by rw [ZAu] at hlen;omega),show ((k:Int) - 1) = ((k - 1:Nat):Int) by omega,at?_nat hpl]
    have hpg:=hprev (k - 1) _ (by omega) (Y2 hpl)
    have hpt:w64 (l[k - 1].To + 2) = l[k - 1].To + 2:=by
     have:=hpg.2.1;unfold Z3 at this;exact Z1 (by omega)
    rw [ZC hk0,cond_true,hp];simp only [Y0,hpt];refine ⟨!decide (s.From < l[k - 1].To + 2),?_,?_⟩
    ·cases hd:decide (s.From < l[k - 1].To + 2) <;> simp [hk1]
    ·simp only [Yh,decide_eq_false_iff_not,Z2H]
     constructor
     ·intro h;refine ⟨h1.1,h1.2.1,h1.2.2,fun p _ hp' => ?_⟩
      rw [Y2 hpl] at hp';cases hp';omega
     ·intro h;have:=h.2.2.2 _ h0 (Y2 hpl);omega
  ·refine ⟨false,?_,by simp only [Y9,Z2H,false_iff];intro h;exact h1 ⟨h.1,h.2.1,h.2.2.1⟩⟩
   have:(!decide (Z3 s.From) || !decide (Z3 s.To) || decide (s.From > s.To)) = true:=by
    by_cases a1:Z3 s.From
    ·by_cases a2:Z3 s.To
     ·have a3:s.From > s.To:=by
       apply Classical.byContradiction;intro h;exact h1 ⟨a1,a2,by omega⟩
      rw [ZC a3];simp
     ·rw [ZB a2];simp
    ·rw [ZB a1];simp
   rw [this];rfl
 unfold Z0N
 rcases Z1L (l:=l) (step:=Z0N.s0 l) (Z2H l) (no:=.ret false) (yes:=.go ()) (fun k x hk hp => by
   obtain ⟨b,h1,h2⟩:=step k x hk hp
   cases b
   ·exact .inr ⟨h1,fun h => by have:=h2.2 h;cases this⟩
   ·exact .inl ⟨h1,h2.1 rfl⟩) (by
   unfold Z0N.s0;rw [ZB (by omega)];rfl) with ⟨h1,h2⟩ | ⟨h1,h2⟩
 ·rw [h1];exact ⟨true,rfl,by simp [Z3X.2 h2]⟩
 ·rw [h1];exact ⟨false,rfl,by simp only [Y9,false_iff];exact fun h => h2 (Z3X.1 h)⟩
def ZY (by_:Int) (s:Span):Span:=⟨s.From + by_,s.To + by_⟩
theorem Z4V {l:List Span} {b:Int} (hl:Len l) (h64:Sp64 l) (hb:In64 b) :
  ((∀ s ∈ l,Z3 (s.From + b)∧Z3 (s.To + b))∧Z0R l b = some (l.map (ZY b),0))∨((¬ ∀ s ∈ l,Z3 (s.From + b)∧Z3 (s.To + b))∧Z0R l b = some ([],20)):=by
 have hlen:(l.length:Int) < 9223372036854775807:=by have:=Z0g;unfold Len at hl;omega
 have step:∀ (k:Nat) (s:Span) (acc:List Span),l[k]? = some s→acc.length = k→Z0R.s0 l b ((k:Int),acc) = if Z3 (s.From + b)∧Z3 (s.To + b) then some (.inl ((k:Int) + 1,acc ++ [ZY b s])) else some (.inr (.ret ([],20))):=by
  intro k s acc hk hacc;have hlt:=(List.getElem?_eq_some_iff.1 hk).1
  have hat:at? l (k:Int) = some s:=by rw [at?_nat hlt];rw [Y2 hlt] at hk;exact hk
  obtain ⟨f64,t64⟩:=h64 s (Y6 hk)
  unfold Z0R.s0;rw [ZC (show (k:Int) < l.length by omega),cond_true,hat]
  simp only [Y0];rw [ZB4 f64 hb,ZB4 t64 hb,Z68,Z68];have hk1:w64 ((k:Int) + 1) = k + 1:=Z1 (by omega)
  have happ:∀ x:Span,app? 16 acc [x] = some (acc ++ [x]):=fun x => app?_ok (by
   have:=Z0g;have:=Z1F;unfold Len at hl;simp;omega)
  rcases fit_or (s.From + b) with ⟨q1,q2⟩ | ⟨q1,q2⟩ <;> rcases fit_or (s.To + b) with ⟨q3,q4⟩ | ⟨q3,q4⟩ <;> rw [q2,q4]
  ·by_cases h:Z3 (s.From + b)∧Z3 (s.To + b)
   ·rw [if_pos h,ZC h.1,ZC h.2];simp [happ,hk1,ZY]
   ·rw [if_neg h];have:(!decide (Z3 (s.From + b)) || !decide (Z3 (s.To + b))) = true:=by
     by_cases h1:Z3 (s.From + b)
     ·rw [ZB (fun h2 => h ⟨h1,h2⟩)];simp
     ·rw [ZB h1];simp
    simp only [bne_self_eq_false,Y0R,Bool.or_assoc] at this ⊢;rw [this];rfl
  ·rw [if_neg (fun h => q3 (Z0M h.2))];rfl
  ·rw [if_neg (fun h => q1 (Z0M h.1))];rfl
  ·rw [if_neg (fun h => q1 (Z0M h.1))];rfl
 have hend:∀ acc,Z0R.s0 l b ((l.length:Int),acc) = some (.inr (.go acc)):=fun acc => by unfold Z0R.s0;rw [ZB (by omega)];rfl
 unfold Z0R
 by_cases hall:∀ s ∈ l,Z3 (s.From + b)∧Z3 (s.To + b)
 ·refine .inl ⟨hall,?_⟩;have:loopO (Z0R.s0 l b) (0,[]) = some (.go (l.map (ZY b))):=by
   refine Z0s (I:=fun (s:Int × List Span) r => r = .go (l.map (ZY b))∧∃ k:Nat,k≤l.length∧s = ((k:Int),(l.take k).map (ZY b))) (fun s => l.length - s.1.toNat) ?_ ⟨rfl,0,YS _,by simp⟩
   rintro s r ⟨rfl,k,hk,rfl⟩
   by_cases hlt:k < l.length
   ·refine .inl ⟨_,by rw [step k l[k] _ (Y2 hlt) (by simp;omega),if_pos (hall _ (YE hlt))],⟨rfl,k + 1,hlt,?_⟩,by simp;omega⟩
    rw [Y0g hlt,Yx];push_cast;rfl
   ·have:k = l.length:=by omega
    subst this;rw [Yg];exact .inr (hend _)
  rw [this];rfl
 ·refine .inr ⟨hall,?_⟩;obtain ⟨k0,s0,hk0,hb0,hg⟩:=ZAP (l:=l) (good:=fun _ s => Z3 (s.From + b)∧Z3 (s.To + b)) (fun h => hall fun s hs => by
   obtain ⟨k,hk⟩:=YB hs;exact h k s hk)
  have hlt0:=(List.getElem?_eq_some_iff.1 hk0).1
  have:loopO (Z0R.s0 l b) (0,[]) = some (.ret ([],20)):=by
   refine Z0s (I:=fun (s:Int × List Span) r => r = .ret ([],20)∧∃ k:Nat,k≤k0∧s.1 = (k:Int)∧s.2.length = k) (fun s => l.length - s.1.toNat) ?_ ⟨rfl,0,YS _,rfl,rfl⟩
   rintro ⟨i,acc⟩ r ⟨rfl,k,hk,h1,h2⟩;simp only at h1 h2;subst h1
   by_cases hlt:k < k0
   ·have hkl:k < l.length:=by omega
    exact .inl ⟨_,by rw [step k l[k] _ (Y2 hkl) h2,if_pos (hg k _ hlt (Y2 hkl))],⟨rfl,k + 1,hlt,by push_cast;rfl,by simp;omega⟩,by simp;omega⟩
   ·have:k = k0:=by omega
    subst this;exact .inr (by rw [step k s0 _ hk0 h2,if_neg hb0])
  rw [this];rfl
theorem RightL.shift {l:List Span} {b:Int} (h:RightL l) (ht:∀ s ∈ l,Z3 (s.From + b)∧Z3 (s.To + b)):RightL (l.map (ZY b)):=by
 constructor
 ·intro k s hk;rw [YR,Y1] at hk;obtain ⟨s,hk,rfl⟩:=hk
  have h1:=h.ok k s hk
  have h2:=ht s (Y6 hk)
  exact ⟨h2.1,h2.2,by simp only [ZY];omega⟩
 ·intro k s t hk hk1;rw [YR,Y1] at hk hk1;obtain ⟨s,hk,rfl⟩:=hk
  obtain ⟨t,hk1,rfl⟩:=hk1
  have:=h.gap k s t hk hk1
  simp only [ZY];omega
def Z3M (a b:List Span):Prop:=∀ x,a.getLast? = some x→∀ y,b.head? = some y→x.To < y.From
theorem Z5D {a b:List Span} (ha:Len a):∃ r,Z0q a b = some r∧(r = true ↔ Z3M a b):=by
 unfold Z0q
 cases a with
 | nil => exact ⟨true,by simp,by simp [Z3M]⟩
 | cons x a =>
  cases b with
  | nil => exact ⟨true,by simp,by simp [Z3M]⟩
  | cons y b =>
   have hl:((x :: a).length:Int) < 9223372036854775807:=by have:=Z0g;unfold Len at ha;omega
   have e1:(((x :: a).length:Int) == 0 || ((y :: b).length:Int) == 0) = false:=by simp;omega
   have hlt:(x :: a).length - 1 < (x :: a).length:=by simp
   have e2:at? (x :: a) (w64 (((x :: a).length:Int) - 1)) = some (x :: a)[(x :: a).length - 1]:=by
    rw [Z1 (by simp at hl ⊢;omega),show (((x :: a).length:Int) - 1) = (((x :: a).length - 1:Nat):Int) by simp,at?_nat hlt]
   have e3:at? (y :: b) 0 = some y:=rfl
   rw [e1,cond_false,e2,e3];refine ⟨decide ((x :: a)[(x :: a).length - 1].To < y.From),rfl,?_⟩;have hlast:(x :: a).getLast? = some (x :: a)[(x :: a).length - 1]:=by rw [Y0A,Y2 hlt]
   simp only [decide_eq_true_eq,Z3M,hlast,List.head?_cons,Y5];exact ⟨fun h x' hx y' hy => by rw [← hx,← hy];exact h,fun h => h _ rfl _ rfl⟩
theorem span_beq (x y:Span):((x.From == y.From) && ((x.To == y.To) && true)) = decide (x = y):=by
 obtain ⟨x1,x2⟩:=x
 obtain ⟨y1,y2⟩:=y
 by_cases h1:x1 = y1 <;> by_cases h2:x2 = y2 <;> simp [h1,h2]
theorem spans_Same_eq {a b:List Span} (ha:Len a):∃ r,Z1C a b = some r∧(r = true ↔ a = b):=by
 have hl:(a.length:Int) < 9223372036854775807:=by have:=Z0g;unfold Len at ha;omega
 unfold Z1C ZT
 by_cases hlen:a.length = b.length
 ·have e1:((a.length:Int) != (b.length:Int)) = false:=Z4d (by omega)
  rw [e1,cond_false]
  rcases Z1L (l:=a) (step:=ZT.s0 a b) (fun k x => b[k]? = some x) (no:=.ret false) (yes:=.go ()) (fun k x hk hp => by
   have hlt:=(List.getElem?_eq_some_iff.1 hk).1
   have hat:at? a (k:Int) = some x:=by rw [at?_nat hlt];rw [Y2 hlt] at hk;exact hk
   have hbt:at? b (k:Int) = some (b[k]'(by omega)):=at?_nat (by omega)
   unfold ZT.s0;rw [ZC (show (k:Int) < a.length by omega),cond_true,hat,hbt,Z1 (show _ by omega)]
   simp only [Y0,span_beq];rw [Y2 (show k < b.length by omega)]
   by_cases h:x = b[k]'(by omega)
   ·rw [ZC h];exact .inl ⟨rfl,congrArg some h.symm⟩
   ·rw [ZB h];exact .inr ⟨rfl,fun e => h (Option.some.inj e).symm⟩) (by
   unfold ZT.s0;rw [ZB (by omega)];rfl) with ⟨h1,h2⟩ | ⟨h1,h2⟩
  ·rw [h1];refine ⟨true,rfl,⟨fun _ => Y0r fun k => ?_,fun _ => rfl⟩⟩
   by_cases hk:k < a.length
   ·rw [Y2 hk];exact (h2 k _ (Y2 hk)).symm
   ·rw [Yl (by omega),Yl (by omega)]
  ·rw [h1];refine ⟨false,rfl,by simp only [Y9,false_iff];rintro rfl;exact h2 fun k x hk => hk⟩
 ·have e1:((a.length:Int) != (b.length:Int)) = true:=Z78 (by omega)
  rw [e1,cond_true];exact ⟨false,rfl,by simp only [Y9,false_iff];rintro rfl;exact hlen rfl⟩
end Go.Dn

namespace Go.Dn
open Go
theorem ZBn (x y:Int):Z2q x y = if x < y then -1 else if y < x then 1 else 0:=by
 unfold Z2q Z2s
 simp only [bne_self_eq_false,cond_false,pickB,decide_eq_true_eq,gt_iff_lt,Y9,if_false]
def Inc (l:List Granule):Prop:=∀ (j k:Nat) (a b:Granule),j < k→l[j]? = some a→l[k]? = some b→a.Index < b.Index
theorem bsearch_eq {l:List Granule} {t:Int} (hl:l.length * 32≤reachBytes) (hs:Inc l):∃ p:Nat,p≤l.length∧(∀ (k:Nat) (g:Granule),l[k]? = some g→(k < p ↔ g.Index < t)) ∧
  Z4 l t (fun z0 z1 => some (Z3Z z0 z1)) = some ((p:Int),decide (∃ g,l[p]? = some g∧g.Index = t)):=by
 have hlen:(l.length:Int) < 4398046511104 * 4:=by have:=Z0g;omega
 have hcmp:∀ g i,Z3Z g i = if g.Index < i then -1 else if i < g.Index then 1 else 0:=fun g i => ZBn _ _
 obtain ⟨r,h1,p,rfl,hp,hlow,hhigh⟩:=Z0Y (step:=Z4.s0 l t (fun z0 z1 => some (Z3Z z0 z1)))
  (I:=fun s => ∃ i j:Nat,s = ((i:Int),(j:Int))∧i≤j∧j≤l.length∧(∀ k g,l[k]? = some g→k < i→g.Index < t)∧(∀ k g,l[k]? = some g→j≤k→t≤g.Index))
  (fun s => (s.2 - s.1).toNat)
  (fun r => ∃ p:Nat,r = (p:Int)∧p≤l.length∧(∀ k g,l[k]? = some g→k < p→g.Index < t)∧(∀ k g,l[k]? = some g→p≤k→t≤g.Index)) (by
  rintro s ⟨i,j,rfl,hij,hj,hlow,hhigh⟩;unfold Z4.s0
  by_cases hlt:i < j
  ·have hm:w64 ((IntKind.u64.wrap (w64 ((i:Int) + j))).fdiv (2 ^ 1)) = ((i + j) / 2:Nat):=by
    rw [Z1 (x:=(i:Int) + j) (by omega),Z6R,Y0u _ (by decide),Z1 (by omega)]
    omega
   have hml:(i + j) / 2 < l.length:=by omega
   simp only [hm];rw [ZC (show (i:Int) < j by omega),cond_true,at?_nat hml]
   simp only [Y0,hcmp];refine .inl ?_;have hget:=Y2 hml
   by_cases hc:l[(i + j) / 2].Index < t
   ·rw [if_pos hc];refine ⟨((((i + j) / 2 + 1:Nat):Int),(j:Int)),?_,⟨(i + j) / 2 + 1,j,rfl,by omega,hj,fun k g hk hki => ?_,hhigh⟩,by simp;omega⟩
    ·rw [Z1 (by omega)];simp
    ·rcases YF k ((i + j) / 2) with h | h
     ·have:=hs k _ g _ h hk hget;omega
     ·have:k = (i + j) / 2:=by omega
      subst this;rw [hget] at hk;cases hk;exact hc
   ·rw [if_neg hc];refine ⟨((i:Int),(((i + j) / 2:Nat):Int)),?_,⟨i,(i + j) / 2,rfl,by omega,by omega,hlow,fun k g hk hki => ?_⟩,by simp;omega⟩
    ·split <;> simp
    ·rcases YF ((i + j) / 2) k with h | h
     ·have:=hs _ k _ g h hget hk;omega
     ·have:k = (i + j) / 2:=by omega
      subst this;rw [hget] at hk;cases hk;omega
  ·refine .inr ⟨(i:Int),by rw [ZB (show ¬ (i:Int) < j by omega)];rfl,i,rfl,by omega,hlow,fun k g hk hki => hhigh k g hk (by omega)⟩) (0,(l.length:Int)) ⟨0,l.length,rfl,YS _,YC _,fun k g _ h => by omega,fun k g hk h => by
    rw [Yl h] at hk;cases hk⟩
 refine ⟨p,hp,fun k g hk => ⟨fun h => hlow k g hk h,fun h => ?_⟩,?_⟩
 ·rcases YF k p with h2 | h2
  ·exact h2
  ·have:=hhigh k g hk h2;omega
 ·unfold Z4;rw [h1];simp only [Y0]
  by_cases hlt:p < l.length
  ·rw [ZC (show (p:Int) < l.length by omega),cond_true,at?_nat hlt]
   simp only [Y0,hcmp,Y5,Y3,true_and];have:=hhigh p _ (Y2 hlt) (YC _)
   rw [Y2 hlt]
   by_cases he:l[p].Index = t
   ·rw [if_neg (by omega),if_neg (by omega)];simp [he]
   ·rw [if_neg (by omega),if_pos (by omega)];simp [he]
  ·rw [ZB (show ¬ (p:Int) < l.length by omega),cond_false]
   simp only [Y0,Y5,Y3,true_and];rw [Yl (by omega)]
   simp
structure Shape (f:Form):Prop where
 count:f.Count = f.Core.length
 zero:f.Count = 0 ↔ f.Period = 0
 per:0≤f.Period∧f.Period≤1099511627776
 core:∀ l ∈ f.Core,RightL l
 odd:∀ g ∈ f.Odd,RightL g.Ticks∧Z3 g.Index
 inc:Inc f.Odd
structure Lim (f:Form):Prop where
 core:f.Core.length * 24≤reachBytes
 sets:∀ l ∈ f.Core,Len l∧Sp64 l
 odd:f.Odd.length * 32≤reachBytes
 ticks:∀ g ∈ f.Odd,In64 g.Index∧Len g.Ticks∧Sp64 g.Ticks
 count:In64 f.Count
 period:In64 f.Period
theorem Form.lim {f:Form} (h:f.ok):Lim f:=by
 obtain ⟨h1,h2,h3,h4⟩:=h
 exact ⟨h3.1,fun l hl => okSpans (h3.2 l hl),h4.1,fun g hg => ⟨(h4.2 g hg).1,okSpans (h4.2 g hg).2⟩,h2,h1⟩
theorem Z5t {f:Form} (hl:Lim f) (hs:Inc f.Odd) (i:Int):∃ p:Nat,p≤f.Odd.length∧(∀ (k:Nat) (g:Granule),f.Odd[k]? = some g→(k < p ↔ g.Index < i))∧Z4k f i = some ((p:Int),decide (∃ g,f.Odd[p]? = some g∧g.Index = i)):=by
 obtain ⟨p,h1,h2,h3⟩:=bsearch_eq (t:=i) hl.odd hs
 exact ⟨p,h1,h2,by unfold Z4k;rw [h3];rfl⟩
def Z12 (f:Form) (i:Int):Prop:=∃ g ∈ f.Odd,g.Index = i
def Z0f (f:Form) (i:Int):List Span:=f.Core.getD (i % f.Count).toNat []
def Z17 (f:Form) (i:Int):Int:=i / f.Count * f.Period
open Classical in
noncomputable def ZH (f:Form) (i:Int):List Span:=if h:Z12 f i then h.choose.Ticks else if f.Count = 0 then [] else (Z0f f i).map (ZY (Z17 f i))
theorem Inc.uniq {l:List Granule} (h:Inc l) {a b:Granule} (ha:a ∈ l) (hb:b ∈ l) (he:a.Index = b.Index):a = b:=by
 obtain ⟨j,hj⟩:=YB ha
 obtain ⟨k,hk⟩:=YB hb
 rcases Nat.lt_trichotomy j k with hjk | rfl | hjk
 ·have:=h j k a b hjk hj hk;omega
 ·rw [hj] at hk;cases hk;rfl
 ·have:=h k j b a hjk hk hj;omega
theorem Z1Q {f:Form} (hs:Inc f.Odd) {g:Granule} (hg:g ∈ f.Odd):ZH f g.Index = g.Ticks:=by
 have h:Z12 f g.Index:=⟨g,hg,rfl⟩
 unfold ZH
 rw [dif_pos h]
 rw [hs.uniq h.choose_spec.1 hg h.choose_spec.2]
theorem Z2M {f:Form} {i:Int} (h:¬ Z12 f i) (h0:f.Count = 0):ZH f i = []:=by unfold ZH;rw [dif_neg h,if_pos h0]
theorem Z2I {f:Form} {i:Int} (h:¬ Z12 f i) (h0:f.Count ≠ 0):ZH f i = (Z0f f i).map (ZY (Z17 f i)):=by unfold ZH;rw [dif_neg h,if_neg h0]
theorem Z84 {f:Form} (hs:Shape f) (h0:f.Count ≠ 0):0 < f.Count:=by have:=hs.count;omega
theorem Z0H {f:Form} (hs:Shape f) (h0:f.Count ≠ 0) (i:Int):at? f.Core (i % f.Count) = some (Z0f f i)∧Z0f f i ∈ f.Core:=by
 have hp:=Z84 hs h0
 have h1:=Ym i h0
 have h2:=Ys i hp
 have h3:(i % f.Count).toNat < f.Core.length:=by have:=hs.count;omega
 unfold Z0f
 rw [at?_lt h1 (by have:=hs.count;omega),Yf,Y2 h3]
 exact ⟨rfl,YE h3⟩
theorem Z8d {f:Form} (hl:Lim f) (hs:Shape f) {g:Granule} (hg:g ∈ f.Odd):Z2t f g.Index = some (g.Ticks,0,0):=by
 obtain ⟨p,h1,h2,h3⟩:=Z5t hl hs.inc g.Index
 obtain ⟨k,hk⟩:=YB hg
 have hkl:=(List.getElem?_eq_some_iff.1 hk).1
 have hpk:p≤k:=by
  rcases YF k p with h | h
  ·have:=(h2 k g hk).1 h;omega
  ·exact h
 have hpl:p < f.Odd.length:=by omega
 have hpg:=h2 p _ (Y2 hpl)
 have:p = k:=by
  rcases YF p k with h | h
  ·have:=hs.inc p k _ g h (Y2 hpl) hk
   exact absurd (hpg.2 this) (Nat.lt_irrefl _)
  ·omega
 subst this
 unfold Z2t
 rw [h3]
 simp only [Y0]
 rw [ZC ⟨g,hk,rfl⟩,cond_true,at?_nat hpl]
 rw [Y2 hpl] at hk
 cases hk;rfl
theorem Z7b {f:Form} (hl:Lim f) (hs:Shape f) {i:Int} (hi:In64 i) (ho:¬ Z12 f i):Z2t f i = if f.Count = 0 then some ([],0,0) else some (Z0f f i,(fitS (Z17 f i)).1,(fitS (Z17 f i)).2):=by
 obtain ⟨p,h1,h2,h3⟩:=Z5t hl hs.inc i
 unfold Z2t
 rw [h3]
 simp only [Y0]
 rw [ZB (by rintro ⟨g,hg,he⟩;exact ho ⟨g,Y6 hg,he⟩),cond_false]
 by_cases h0:f.Count = 0
 ·rw [Z6O h0,cond_true,if_pos h0]
 ·rw [Z3L h0,cond_false,if_neg h0,Z2v hi hl.count,Z4I (Z84 hs h0)];simp only [Y0];rw [(Z0H hs h0 i).1];simp only [Y0];have hq:In64 (i / f.Count):=by
   have hp:=Z84 hs h0
   unfold In64 at hi ⊢
   constructor
   ·have : -9223372036854775808≤i / f.Count:=by
     rw [Int.le_ediv_iff_mul_le hp];have:(-9223372036854775808) * f.Count≤-9223372036854775808:=by
      have:(-9223372036854775808) * f.Count≤(-9223372036854775808) * 1:=Int.mul_le_mul_of_nonpos_left (by omega) (by omega)
      omega
     omega
    exact this
   ·have:i / f.Count≤9223372036854775807:=by
     rcases Y1A i 0 with h | h
     ·have:i / f.Count < 0:=Int.ediv_neg_of_neg_of_pos h hp
      omega
     ·have:=Y0H f.Count h
      omega
    exact this
  rw [Z4i hq hl.period]
  rfl
def fits (f:Form) (i:Int):Prop:=∀ s ∈ ZH f i,Z3 s.From∧Z3 s.To
theorem Z5Q (l:List Span):l.map (ZY 0) = l:=by
 have:ZY 0 = id:=by funext s;simp [ZY]
 rw [this,List.map_id]
theorem Z1Z {f:Form} {i:Int} (ho:¬ Z12 f i) (h0:f.Count ≠ 0):ZH f i = [] ↔ Z0f f i = []:=by rw [Z2I ho h0,List.map_eq_nil_iff]
open Classical in
theorem Z1I {f:Form} (hl:Lim f) (hs:Shape f) {i:Int} (hi:In64 i):Z0F f i = some (if Z3 i∧fits f i then (ZH f i,0) else ([],20)):=by
 unfold Z0F
 rw [Z6z]
 by_cases ht:Z3 i
 ·rw [ZC ht,YQ,cond_false]
  by_cases ho:Z12 f i
  ·obtain ⟨g,hg,rfl⟩:=ho
   have hset:=Z1Q hs.inc hg
   have hr:=(hs.odd g hg).1
   have hf:fits f g.Index:=by
    intro s hsm;rw [hset] at hsm;obtain ⟨k,hk⟩:=YB hsm
    exact ⟨(hr.ok k s hk).1,(hr.ok k s hk).2.1⟩
   rw [Z8d hl hs hg,if_pos ⟨ht,hf⟩,hset];simp only [Y0]
   by_cases hn:g.Ticks = []
   ·rw [hn];rfl
   ·have:((g.Ticks.length:Int) == 0) = false:=Z3L (by have:=List.length_pos_iff.2 hn;omega)
    rw [this,cond_false];simp only [bne_self_eq_false,cond_false]
    rcases Z4V (b:=0) (hl.ticks g hg).2.1 hr.sp64 ⟨by decide,by decide⟩ with ⟨_,h2⟩ | ⟨h1,_⟩
    ·rw [h2,Z5Q];rfl
    ·refine absurd (fun s hsm => ?_) h1
     rw [← hset] at hsm
     simpa using hf s hsm
  ·rw [Z7b hl hs hi ho]
   by_cases h0:f.Count = 0
   ·rw [if_pos h0,if_pos ⟨ht,by intro s hsm;rw [Z2M ho h0] at hsm;cases hsm⟩,Z2M ho h0];rfl
   ·rw [if_neg h0];simp only [Y0]
    by_cases hn:Z0f f i = []
    ·rw [if_pos ⟨ht,by intro s hsm;rw [(Z1Z ho h0).2 hn] at hsm;cases hsm⟩,(Z1Z ho h0).2 hn,hn];rfl
    ·have:(((Z0f f i).length:Int) == 0) = false:=Z3L (by have:=List.length_pos_iff.2 hn;omega)
     rw [this,cond_false];have hmem:=(Z0H hs h0 i).2
     have hr:=hs.core _ hmem
     have hfe:fits f i ↔ ∀ s ∈ Z0f f i,Z3 (s.From + Z17 f i)∧Z3 (s.To + Z17 f i):=by
      unfold fits;rw [Z2I ho h0]
      constructor
      ·intro h s hsm;exact h (ZY (Z17 f i) s) (List.mem_map.2 ⟨s,hsm,rfl⟩)
      ·intro h s hsm;obtain ⟨s,hsm',rfl⟩:=List.mem_map.1 hsm
       exact h s hsm'
     rcases fit_or (Z17 f i) with ⟨q1,q2⟩ | ⟨q1,q2⟩ <;> rw [q2]
     ·simp only [bne_self_eq_false,cond_false]
      rcases Z4V (b:=Z17 f i) (hl.sets _ hmem).1 hr.sp64 q1 with ⟨h1,h2⟩ | ⟨h1,h2⟩
      ·rw [h2,if_pos ⟨ht,hfe.2 h1⟩,Z2I ho h0];rfl
      ·rw [h2,if_neg (fun h => h1 (hfe.1 h.2))];rfl
     ·rw [if_neg]
      ·rfl
      ·rintro ⟨_,h⟩;have h:=hfe.1 h
       obtain ⟨s,hsm⟩:=Y11 _ hn
       have h1:=(h s hsm).1
       obtain ⟨k,hk⟩:=YB hsm
       have h2:=(hr.ok k s hk).1
       unfold Z3 at h1 h2;exact q1 (by unfold In64;omega)
 ·rw [ZB ht,if_neg (fun h => ht h.1)];rfl
open Classical in
theorem ZAE {f:Form} (hl:Lim f) (hs:Shape f) {i:Int} (hi:In64 i):Z4J f i = some (decide (ZH f i ≠ [])):=by
 unfold Z4J
 by_cases ho:Z12 f i
 ·obtain ⟨g,hg,rfl⟩:=ho
  rw [Z8d hl hs hg,Z1Q hs.inc hg];simp only [Y0];cases g.Ticks <;> simp
 ·rw [Z7b hl hs hi ho]
  by_cases h0:f.Count = 0
  ·rw [if_pos h0,Z2M ho h0];rfl
  ·rw [if_neg h0];simp only [Y0,Ne,Z1Z ho h0];cases Z0f f i <;> simp
end Go.Dn

namespace Go.Dn
open Go
theorem Z24 {α:Type} {l:List α} {b:Nat} (h:l.length * (b + 1)≤reachBytes):(l.length:Int) < 4611686018427387904:=by
 have:=Z0g
 have:l.length≤l.length * (b + 1):=Nat.le_mul_of_pos_right _ (by omega)
 omega
theorem Z7Q {α:Type} {l:List α} {k:Nat} {x:α} (h:l[k]? = some x):at? l (k:Int) = some x∧(k:Int) < l.length:=by
 have hlt:=(List.getElem?_eq_some_iff.1 h).1
 rw [Y2 hlt] at h
 exact ⟨by rw [at?_nat hlt];exact h,by omega⟩
theorem shape_core {f:Form} (hl:Lim f):(loopO (Zp.s0 f) 0 = some (.go ())∧∀ l ∈ f.Core,RightL l)∨(loopO (Zp.s0 f) 0 = some (.ret false)∧¬ ∀ l ∈ f.Core,RightL l):=by
 have hlen:=Z24 (b:=23) hl.core
 rcases Z1L (l:=f.Core) (step:=Zp.s0 f) (fun _ x => RightL x) (no:=.ret false) (yes:=.go ()) (fun k x hk _ => by
   obtain ⟨h1,h2⟩:=Z7Q hk
   obtain ⟨b,hb,hr⟩:=Z7o (hl.sets x (Y6 hk)).1 (hl.sets x (Y6 hk)).2
   unfold Zp.s0;rw [ZC h2,cond_true,h1];simp only [Y0,hb,Z1 (show -9223372036854775808≤(k:Int) + 1∧(k:Int) + 1≤9223372036854775807 by omega)]
   cases b
   ·exact .inr ⟨rfl,fun h => by have:=hr.2 h;cases this⟩
   ·exact .inl ⟨rfl,hr.1 rfl⟩) (by unfold Zp.s0;rw [ZB (by omega)];rfl) with ⟨h1,h2⟩ | ⟨h1,h2⟩
 ·exact .inl ⟨h1,fun l hm => by obtain ⟨k,hk⟩:=YB hm;exact h2 k l hk⟩
 ·exact .inr ⟨h1,fun h => h2 fun k x hk => h x (Y6 hk)⟩
def ZAD (f:Form) (k:Nat) (g:Granule):Prop:=RightL g.Ticks∧Z3 g.Index∧∀ p,k ≠ 0→f.Odd[k - 1]? = some p→p.Index < g.Index
theorem shape_odd {f:Form} (hl:Lim f):(loopO (Zp.s1 f) 0 = some (.go ())∧∀ k g,f.Odd[k]? = some g→ZAD f k g)∨(loopO (Zp.s1 f) 0 = some (.ret false)∧¬ ∀ k g,f.Odd[k]? = some g→ZAD f k g):=by
 have hlen:=Z24 (b:=31) hl.odd
 refine Z1L (l:=f.Odd) (step:=Zp.s1 f) (ZAD f) (no:=.ret false) (yes:=.go ()) (fun k x hk _ => ?_) (by unfold Zp.s1;rw [ZB (by omega)];rfl)
 obtain ⟨h1,h2⟩:=Z7Q hk
 have hx:=hl.ticks x (Y6 hk)
 obtain ⟨b,hb,hr⟩:=Z7o hx.2.1 hx.2.2
 unfold Zp.s1
 rw [ZC h2,cond_true,h1]
 simp only [Y0,hb,Z6z,Z1 (show -9223372036854775808≤(k:Int) + 1∧(k:Int) + 1≤9223372036854775807 by omega)]
 by_cases hbt:b = true∧Z3 x.Index
 ·rw [hbt.1,ZC hbt.2];simp only [YQ,Y0o,cond_false]
  by_cases h0:k = 0
  ·subst h0;exact .inl ⟨by simp,hr.1 hbt.1,hbt.2,fun p h => absurd rfl h⟩
  ·have hpl:k - 1 < f.Odd.length:=by omega
   rw [ZC (show (k:Int) > 0 by omega),cond_true,Z1 (by omega),show (k:Int) - 1 = ((k - 1:Nat):Int) by omega,at?_nat hpl]
   simp only [Y0]
   by_cases hc:x.Index≤f.Odd[k - 1].Index
   ·rw [ZC hc];refine .inr ⟨rfl,fun h => ?_⟩
    have:=h.2.2 _ h0 (Y2 hpl);omega
   ·rw [ZB hc];refine .inl ⟨rfl,hr.1 hbt.1,hbt.2,fun p _ hp => ?_⟩
    rw [Y2 hpl] at hp;cases hp;omega
 ·have:(!b || !decide (Z3 x.Index)) = true:=by
   cases b
   ·rfl
   ·rw [ZB (fun h => hbt ⟨rfl,h⟩)];rfl
  rw [this,cond_true];exact .inr ⟨rfl,fun h => hbt ⟨hr.2 h.1,h.2.1⟩⟩
theorem inc_of {f:Form} (h:∀ k g,f.Odd[k]? = some g→ZAD f k g):Inc f.Odd:=by
 intro j k a b hjk ha hb
 induction k generalizing b with
 | zero => omega
 | succ k ih =>
  have hkl:=(List.getElem?_eq_some_iff.1 hb).1
  have h1:=(h (k + 1) b hb).2.2 f.Odd[k] (by omega) (by simp [Y2 (show k < f.Odd.length by omega)])
  rcases YF j k with h2 | h2
  ·have:=ih _ h2 (Y2 (show k < f.Odd.length by omega));omega
  ·have:j = k:=by omega
   subst this;rw [Y2 (show j < f.Odd.length by omega)] at ha;cases ha;exact h1
theorem gran_shape_eq {f:Form} (hl:Lim f):∃ b,Zp f = some b∧(b = true ↔ Shape f):=by
 unfold Zp
 by_cases h1:f.Count = f.Core.length∧(f.Count = 0 ↔ f.Period = 0)∧0≤f.Period∧f.Period≤1099511627776
 ·have e:(f.Count != (f.Core.length:Int) || (f.Count == 0) != (f.Period == 0) || decide (f.Period < 0) || decide (f.Period > 1099511627776)) = false:=by
   rw [Z4d h1.1,ZB (show ¬ f.Period < 0 by omega),ZB (show ¬ f.Period > 1099511627776 by omega)]
   simp only [Y0R,Bool.or_false,bne_eq_false_iff_eq,ibeq,decide_eq_decide];exact h1.2.1
  rw [e,cond_false]
  rcases shape_core hl with ⟨h2,h3⟩ | ⟨h2,h3⟩
  ·rw [h2];simp only [Y0,Jx.elim]
   rcases shape_odd hl with ⟨h4,h5⟩ | ⟨h4,h5⟩
   ·rw [h4];exact ⟨true,rfl,fun _ => ⟨h1.1,h1.2.1,h1.2.2,h3,fun g hg => by obtain ⟨k,hk⟩:=YB hg;exact ⟨(h5 k g hk).1,(h5 k g hk).2.1⟩,inc_of h5⟩,fun _ => rfl⟩
   ·rw [h4];refine ⟨false,rfl,fun h => (by cases h),fun h => absurd (fun k g hk => ⟨(h.odd g (Y6 hk)).1,(h.odd g (Y6 hk)).2,fun p h0 hp => h.inc (k - 1) k p g (by omega) hp hk⟩) h5⟩
  ·rw [h2];exact ⟨false,rfl,fun h => (by cases h),fun h => absurd h.core h3⟩
 ·have e:(f.Count != (f.Core.length:Int) || (f.Count == 0) != (f.Period == 0) || decide (f.Period < 0) || decide (f.Period > 1099511627776)) = true:=by
   apply Classical.byContradiction;intro hn;simp only [Y0X,Bool.or_eq_false_iff,bne_eq_false_iff_eq,decide_eq_false_iff_not,ibeq,decide_eq_decide] at hn;exact h1 ⟨hn.1.1.1,hn.1.1.2,by omega,by omega⟩
  rw [e,cond_true];exact ⟨false,rfl,fun h => (by cases h),fun h => absurd ⟨h.count,h.zero,h.per⟩ h1⟩
def fstT (l:List Span):Int:=(l.head?.map Span.From).getD 0
def lstT (l:List Span):Int:=(l.getLast?.map Span.To).getD 0
theorem Z2L {a b:List Span} (ha:a ≠ []) (hb:b ≠ []):Z3M a b ↔ lstT a < fstT b:=by
 unfold Z3M lstT fstT
 rw [Y0C ha,Y0I hb]
 simp
theorem RightL.tail {s:Span} {l:List Span} (h:RightL (s :: l)):RightL l :=
 ⟨fun k x hk => h.ok (k + 1) x hk,fun k x y hx hy => h.gap (k + 1) x y hx hy⟩
theorem Z5N {l:List Span} (h:RightL l) (hn:l ≠ []):fstT l≤lstT l:=by
 induction l with
 | nil => exact absurd rfl hn
 | cons s l ih =>
  have h0:=h.ok 0 s rfl
  cases l with
  | nil => simp [fstT,lstT];exact h0.2.2
  | cons t l =>
   have h1:=h.gap 0 s t rfl rfl
   have h2:=ih h.tail (by simp)
   have e1:lstT (s :: t :: l) = lstT (t :: l):=by simp [lstT]
   have e2:fstT (t :: l) = t.From:=rfl
   have e3:fstT (s :: t :: l) = s.From:=rfl
   rw [e1,e3];rw [e2] at h2;omega
theorem lst_tick {l:List Span} (h:RightL l) (hn:l ≠ []):Z3 (lstT l)∧Z3 (fstT l):=by
 have h1:l.getLast? = some (l.getLast hn):=Y0C hn
 have h2:l.head? = some (l.head hn):=Y0I hn
 obtain ⟨j,hj⟩:=YB (List.getLast_mem hn)
 obtain ⟨k,hk⟩:=YB (List.head_mem hn)
 unfold lstT fstT
 rw [h1,h2]
 exact ⟨(h.ok j _ hj).2.1,(h.ok k _ hk).1⟩
def full (f:Form):List (List Span):=f.Core.filter (fun l => decide (l.length > 0))
def Turns (f:Form):Prop:=(∀ (k:Nat) (a b:List Span),(full f)[k]? = some a→(full f)[k + 1]? = some b→lstT a < fstT b)∧∀ a b,(full f).getLast? = some a→(full f).head? = some b→lstT a < fstT b + f.Period
theorem full_loop {f:Form} (hl:Lim f):loopO (Z0U.s0 f) (0,[]) = some (full f):=by
 have hlen:=Z24 (b:=23) hl.core
 refine Z0s (I:=fun s r => r = full f∧∃ k:Nat,k≤f.Core.length∧s = ((k:Int),(f.Core.take k).filter (fun l => decide (l.length > 0)))) (fun s => f.Core.length - s.1.toNat) ?_ ⟨rfl,0,YS _,by simp⟩
 rintro s r ⟨rfl,k,hk,rfl⟩
 unfold Z0U.s0
 by_cases hlt:k < f.Core.length
 ·have htake:f.Core.take (k + 1) = f.Core.take k ++ [f.Core[k]]:=Y0g hlt
  simp only;rw [ZC (show (k:Int) < f.Core.length by omega),cond_true,at?_nat hlt,Z1 (by omega)]
  simp only [Y0];refine .inl ?_;have hfl:((f.Core.take k).filter (fun l => decide (l.length > 0))).length≤k:=Yd (Y0c _ _) (by rw [YT];exact Nat.min_le_left _ _)
  by_cases hc:f.Core[k].length > 0
  ·rw [ZC (show ((f.Core[k].length:Int) > 0) by omega),cond_true,app?_ok (by have h1:=hl.core;rw [Z0g] at h1;rw [Z1F];simp only [YI];omega)]
   exact ⟨_,rfl,⟨trivial,k + 1,hlt,by rw [htake,Y0Z];simp [hc]⟩,by simp;omega⟩
  ·rw [ZB (show ¬ ((f.Core[k].length:Int) > 0) by omega),cond_false]
   exact ⟨_,rfl,⟨trivial,k + 1,hlt,by rw [htake,Y0Z];simp [hc]⟩,by simp;omega⟩
 ·have:k = f.Core.length:=by omega
  subst this;simp only;rw [ZB (show ¬ ((f.Core.length:Int) < f.Core.length) by omega),cond_false,Yg]
  exact .inr rfl
theorem gran_turns_eq {f:Form} (hl:Lim f) (hs:Shape f):∃ b,Z0U f = some b∧(b = true ↔ Turns f):=by
 have hlen:=Z24 (b:=23) hl.core
 have hfl:(full f).length≤f.Core.length:=Y0c _ _
 have hmem:∀ x ∈ full f,x ∈ f.Core∧x ≠ []:=fun x hx => by
  have:=List.mem_filter.1 hx
  exact ⟨this.1,by rintro rfl;simp at this⟩
 unfold Z0U
 rw [full_loop hl]
 simp only [Y0]
 rcases Z1L (l:=full f) (step:=Z0U.s1 f (full f)) (fun k a => ∀ b,(full f)[(k + 1) % (full f).length]? = some b→lstT a < fstT b + (if k + 1 = (full f).length then f.Period else 0)) (no:=.ret false) (yes:=.go ()) (fun k a hk _ => by
   obtain ⟨h1,h2⟩:=Z7Q hk
   have hkl:k < (full f).length:=by omega
   have hmod:(k + 1) % (full f).length < (full f).length:=Nat.mod_lt _ (by omega)
   have hnext:at? (full f) ((((k + 1) % (full f).length:Nat):Int)) = some (full f)[(k + 1) % (full f).length]:=at?_nat hmod
   obtain ⟨ha1,ha2⟩:=hmem a (Y6 hk)
   obtain ⟨hb1,hb2⟩:=hmem _ (YE hmod)
   have hra:=hs.core a ha1
   have hrb:=hs.core _ hb1
   have hal:a.length - 1 < a.length:=by have:=List.length_pos_iff.2 ha2;omega
   have hlast:at? a (w64 ((a.length:Int) - 1)) = some a[a.length - 1]:=by
    have:=Z24 (b:=15) (hl.sets a ha1).1
    rw [Z1 (by omega),show (a.length:Int) - 1 = ((a.length - 1:Nat):Int) by omega,at?_nat hal]
   have hlt:lstT a = a[a.length - 1].To:=by unfold lstT;rw [Y0A,Y2 hal];rfl
   unfold Z0U.s1;rw [ZC h2,cond_true,h1,nz?_ok (by omega),Z1 (x:=(k:Int) + 1) (by omega)]
   have htm:((k:Int) + 1).tmod ((full f).length:Int) = (((k + 1) % (full f).length:Nat):Int):=by
    rw [Y0a (by omega)];push_cast;rfl
   simp only [Y0,htm,hnext,hlast];rw [Y2 hmod];generalize (full f)[(k + 1) % (full f).length] = b at *
   have hb0:at? b 0 = some (b.head hb2):=by
    cases b with
    | nil => exact absurd rfl hb2
    | cons y b => rfl
   have hbf:fstT b = (b.head hb2).From:=by unfold fstT;rw [Y0I hb2];rfl
   have htick:=(lst_tick hrb hb2).2
   unfold Z3 at htick;have hper:=hs.per
   by_cases hl1:k + 1 = (full f).length
   ·have e:((k:Int) + 1 == ((full f).length:Int)) = true:=Z6O (by omega)
    rw [e,cond_true];simp only [Y0,hb0,← hbf,Z1 (show -9223372036854775808≤fstT b + f.Period∧fstT b + f.Period≤9223372036854775807 by omega),← hlt,if_pos hl1]
    by_cases hc:lstT a ≥ fstT b + f.Period
    ·rw [ZC hc];exact .inr ⟨rfl,fun h => by have:=h b rfl;omega⟩
    ·rw [ZB hc];exact .inl ⟨rfl,fun b' hb' => by cases hb';omega⟩
   ·have e:((k:Int) + 1 == ((full f).length:Int)) = false:=Z3L (by omega)
    rw [e,cond_false];simp only [Y0,hb0,← hbf,Z1 (show -9223372036854775808≤fstT b + 0∧fstT b + 0≤9223372036854775807 by omega),← hlt,if_neg hl1]
    by_cases hc:lstT a ≥ fstT b + 0
    ·rw [ZC hc];exact .inr ⟨rfl,fun h => by have:=h b rfl;omega⟩
    ·rw [ZB hc];exact .inl ⟨rfl,fun b' hb' => by cases hb';omega⟩) (by unfold Z0U.s1;rw [ZB (by omega)];rfl) with ⟨h1,h2⟩ | ⟨h1,h2⟩
 ·rw [h1];refine ⟨true,rfl,fun _ => ⟨fun k a b ha hb => ?_,fun a b ha hb => ?_⟩,fun _ => rfl⟩
  ·have hkl:=(List.getElem?_eq_some_iff.1 hb).1
   have:=h2 k a ha b (by rw [Nat.mod_eq_of_lt hkl];exact hb)
   rw [if_neg (by omega)] at this;omega
  ·have hn:full f ≠ []:=by rintro e;rw [e] at ha;simp at ha
   have hpos:=List.length_pos_iff.2 hn
   rw [Y0A] at ha;have e1:(full f).length - 1 + 1 = (full f).length:=by omega
   have:=h2 _ a ha b (by rw [e1,Nat.mod_self,← List.head?_eq_getElem?];exact hb)
   rw [if_pos e1] at this;exact this
 ·rw [h1];refine ⟨false,rfl,fun h => (by cases h),fun h => absurd (fun k a hk b hb => ?_) h2⟩
  have hkl:=(List.getElem?_eq_some_iff.1 hk).1
  by_cases hl1:k + 1 = (full f).length
  ·rw [if_pos hl1];rw [hl1,Nat.mod_self,← List.head?_eq_getElem?] at hb;exact h.2 a b (by rw [Y0A,← hl1];exact hk) hb
  ·rw [if_neg hl1];rw [Nat.mod_eq_of_lt (by omega)] at hb
   have:=h.1 k a b hk hb;omega
end Go.Dn

namespace Go.Dn
open Go
theorem ZBV {l:List (List Span)} {p:List Span→Bool} (hl:l.length * 24≤reachBytes):ZZ l (fun z => some (p z)) = some (decide (∃ x ∈ l,p x = true)):=by
 have hlen:=Z24 (b:=23) hl
 unfold ZZ ZG
 by_cases hall:∀ (k:Nat) (x:List Span),l[k]? = some x→¬ p x = true
 ·have:loopO (ZG.s0 l (fun z => some (p z))) 0 = some (.go ()):=by
   refine Z0s (I:=fun (s:Int) r => r = .go ()∧∃ k:Nat,s = k∧k≤l.length) (fun s => l.length - s.toNat) ?_ ⟨rfl,0,rfl,YS _⟩
   rintro s r ⟨rfl,k,rfl,hk⟩;unfold ZG.s0
   by_cases hlt:k < l.length
   ·rw [ZC (show (k:Int) < l.length by omega),cond_true,at?_nat hlt,Z1 (by omega)]
    have:=hall k _ (Y2 hlt)
    simp only [Y0,Y0X] at this ⊢;rw [this];exact .inl ⟨_,rfl,⟨trivial,k + 1,by push_cast;rfl,hlt⟩,by simp;omega⟩
   ·rw [ZB (show ¬ (k:Int) < l.length by omega)];exact .inr rfl
  rw [this,ZB (by rintro ⟨x,hx,hp⟩;obtain ⟨k,hk⟩:=YB hx;exact hall k x hk hp)]
  rfl
 ·obtain ⟨k0,x0,hx0,hb0,hg⟩:=ZAP (good:=fun _ x => ¬ p x = true) hall
  have hb0:p x0 = true:=Classical.byContradiction hb0
  have hlt0:=(List.getElem?_eq_some_iff.1 hx0).1
  have:loopO (ZG.s0 l (fun z => some (p z))) 0 = some (.ret (k0:Int)):=by
   refine Z0s (I:=fun (s:Int) r => r = .ret (k0:Int)∧∃ k:Nat,s = k∧k≤k0) (fun s => l.length - s.toNat) ?_ ⟨rfl,0,rfl,YS _⟩
   rintro s r ⟨rfl,k,rfl,hk⟩;unfold ZG.s0;have hkl:k < l.length:=by omega
   rw [ZC (show (k:Int) < l.length by omega),cond_true,at?_nat hkl,Z1 (by omega)]
   by_cases hlt:k < k0
   ·have:=hg k _ hlt (Y2 hkl)
    simp only [Y0,Y0X] at this ⊢;rw [this];exact .inl ⟨_,rfl,⟨trivial,k + 1,by push_cast;rfl,hlt⟩,by simp;omega⟩
   ·have:k = k0:=by omega
    subst this;rw [Y2 hkl] at hx0;cases hx0;simp only [Y0,hb0];exact .inr rfl
  rw [this,ZC ⟨x0,Y6 hx0,hb0⟩];simp only [Y0,Jx.elim];rw [ZC (by omega)]
def Bare (f:Form):Prop:=∀ l ∈ f.Core,l = []
theorem Z6u {f:Form} (hl:Lim f):∃ b,Z3F f = some b∧(b = true ↔ Bare f):=by
 unfold Z3F
 rw [ZBV hl.core]
 refine ⟨_,rfl,?_⟩
 simp only [Z4m,Yh,decide_eq_false_iff_not,decide_eq_true_eq]
 constructor
 ·intro h l hm;apply Classical.byContradiction;intro hn;exact h ⟨l,hm,by have:=List.length_pos_iff.2 hn;omega⟩
 ·rintro h ⟨l,hm,hp⟩;rw [h l hm] at hp;simp at hp
theorem Z6n {f:Form} (hs:Shape f) (hb:Bare f) {i:Int} (ho:¬ Z12 f i):ZH f i = []:=by
 by_cases h0:f.Count = 0
 ·exact Z2M ho h0
 ·exact (Z1Z ho h0).2 (hb _ (Z0H hs h0 i).2)
def UpTo (f:Form) (i:Int) (r:Int × Bool):Prop:=(r.2 = true∧i≤r.1∧Z3 r.1∧ZH f r.1 ≠ []∧∀ k,i≤k→k < r.1→ZH f k = [])∨(r.2 = false∧r.1 = 0∧∀ k,i≤k→Z3 k→ZH f k = [])
def DownTo (f:Form) (i:Int) (r:Int × Bool):Prop:=(r.2 = true∧r.1≤i∧Z3 r.1∧ZH f r.1 ≠ []∧∀ k,k≤i→r.1 < k→ZH f k = [])∨(r.2 = false∧r.1 = 0∧∀ k,k≤i→Z3 k→ZH f k = [])
theorem odd_split {f:Form} (hs:Shape f) {p:Nat} {i:Int} (hp:∀ (k:Nat) (g:Granule),f.Odd[k]? = some g→(k < p ↔ g.Index < i)) {j:Int} (hj:Z12 f j):∃ (k:Nat) (g:Granule),f.Odd[k]? = some g∧g.Index = j∧(k < p ↔ j < i):=by
 obtain ⟨g,hg,rfl⟩:=hj
 obtain ⟨k,hk⟩:=YB hg
 exact ⟨k,g,hk,rfl,hp k g hk⟩
theorem gran_step_up {f:Form} (hl:Lim f) (hs:Shape f) {i:Int} (hi : -1099511627776≤i∧i≤1099511627776):∃ r,Z04 f i 1 = some r∧UpTo f i r:=by
 have hi64:In64 i:=by unfold In64;omega
 obtain ⟨b,hb,hbb⟩:=Z6u hl
 have holen:=Z24 (b:=31) hl.odd
 unfold Z04
 rw [hb]
 simp only [Y0]
 cases b with
 | true =>
  have hbare:=hbb.1 rfl
  rw [cond_true];obtain ⟨p,h1,h2,h3⟩:=Z5t hl hs.inc i
  rw [h3];simp only [Y0,ZB (show ¬ (1:Int) < 0 by omega),Y0Y,cond_false]
  obtain ⟨r,hr,hpost⟩:=Z0Y (step:=Z04.s0 f 1) (I:=fun (s:Int) => ∃ k:Nat,s = k∧p≤k∧k≤f.Odd.length∧∀ (j:Nat) (g:Granule),f.Odd[j]? = some g→p≤j→j < k→g.Ticks = []) (fun s => f.Odd.length - s.toNat)
   (fun r => (∃ (k:Nat) (g:Granule),r = .ret (g.Index,true)∧f.Odd[k]? = some g∧p≤k∧g.Ticks ≠ []∧∀ (j:Nat) (g':Granule),f.Odd[j]? = some g'→p≤j→j < k→g'.Ticks = [])∨(r = .go ()∧∀ (j:Nat) (g':Granule),f.Odd[j]? = some g'→p≤j→g'.Ticks = [])) (by
   rintro s ⟨k,rfl,hpk,hk,hn⟩;unfold Z04.s0
   by_cases hlt:k < f.Odd.length
   ·rw [ZC (show (k:Int) ≥ 0 by omega),ZC (show (k:Int) < f.Odd.length by omega),Y0E,cond_true,at?_nat hlt,Z1 (by omega)]
    simp only [Y0];have hget:=Y2 hlt
    by_cases hc:f.Odd[k].Ticks = []
    ·rw [hc];refine .inl ⟨(k:Int) + 1,rfl,⟨k + 1,by push_cast;rfl,by omega,hlt,fun j g hj hpj hjk => ?_⟩,by simp;omega⟩
     rcases YF j k with h | h
     ·exact hn j g hj hpj h
     ·have:j = k:=by omega
      subst this;rw [hget] at hj;cases hj;exact hc
    ·rw [ZC (show ((f.Odd[k].Ticks.length:Int) > 0) by have:=List.length_pos_iff.2 hc;omega),cond_true]
     exact .inr ⟨_,rfl,.inl ⟨k,_,rfl,hget,hpk,hc,hn⟩⟩
   ·rw [ZB (show ¬ (k:Int) < f.Odd.length by omega),Bool.and_false,cond_false]
    refine .inr ⟨_,rfl,.inr ⟨rfl,fun j g hj hpj => hn j g hj hpj ?_⟩⟩
    have:=(List.getElem?_eq_some_iff.1 hj).1;omega) (p:Int) ⟨p,rfl,YC _,h1,fun j g _ h h' => by omega⟩
  rw [hr];simp only [Y0]
  rcases hpost with ⟨k,g,rfl,hk,hpk,hne,hn⟩ | ⟨rfl,hn⟩
  ·have hset:=Z1Q hs.inc (Y6 hk)
   have hgi:¬ g.Index < i:=fun h => by have:=(h2 k g hk).2 h;omega
   refine ⟨_,rfl,.inl ⟨rfl,by simp only;omega,(hs.odd g (Y6 hk)).2,by simp only;rw [hset];exact hne,fun j hij hjg => ?_⟩⟩
   simp only at hjg
   by_cases ho:Z12 f j
   ·obtain ⟨k',g',hk',rfl,hiff⟩:=odd_split hs h2 ho
    rw [Z1Q hs.inc (Y6 hk')];refine hn k' g' hk' ?_ ?_
    ·rcases YF k' p with h | h
     ·have:=hiff.1 h;omega
     ·exact h
    ·rcases YF k' k with h | h
     ·exact h
     ·rcases YF k k' with h' | h'
      ·have:=hs.inc k k' g g' h' hk hk';omega
      ·have:k = k':=by omega
       subst this;rw [hk] at hk';cases hk';omega
   ·exact Z6n hs hbare ho
  ·refine ⟨_,rfl,.inr ⟨rfl,rfl,fun j hij _ => ?_⟩⟩
   by_cases ho:Z12 f j
   ·obtain ⟨k',g',hk',rfl,hiff⟩:=odd_split hs h2 ho
    rw [Z1Q hs.inc (Y6 hk')];refine hn k' g' hk' ?_
    rcases YF k' p with h | h
    ·have:=hiff.1 h;omega
    ·exact h
   ·exact Z6n hs hbare ho
 | false =>
  rw [cond_false];obtain ⟨r,hr,hpost⟩:=Z0Y (step:=Z04.s1 f 1) (I:=fun (s:Int) => i≤s∧s≤1099511627777∧∀ k,i≤k→k < s→ZH f k = []) (fun s => (1099511627777 - s).toNat)
   (fun r => (∃ j,r = .ret (j,true)∧i≤j∧Z3 j∧ZH f j ≠ []∧∀ k,i≤k→k < j→ZH f k = [])∨(r = .go ()∧∀ k,i≤k→Z3 k→ZH f k = [])) (by
   rintro s ⟨hs1,hs2,hn⟩;unfold Z04.s1;rw [Z6z]
   by_cases ht:Z3 s
   ·rw [ZC ht,cond_true,ZAE hl hs (Z0M ht),Z1 (by unfold Z3 at ht;omega)]
    simp only [Y0]
    by_cases hc:ZH f s = []
    ·rw [hc];refine .inl ⟨s + 1,by simp,⟨by omega,by unfold Z3 at ht;omega,fun k hk hks => ?_⟩,by unfold Z3 at ht;omega⟩
     by_cases h:k = s
     ·rw [h];exact hc
     ·exact hn k hk (by omega)
    ·rw [ZC hc,cond_true];exact .inr ⟨_,rfl,.inl ⟨s,rfl,hs1,ht,hc,hn⟩⟩
   ·rw [ZB ht,cond_false];exact .inr ⟨_,rfl,.inr ⟨rfl,fun k hk htk => hn k hk (by unfold Z3 at ht htk;omega)⟩⟩) i ⟨Y04 _,by omega,fun k h h' => by omega⟩
  rw [hr];simp only [Y0]
  rcases hpost with ⟨j,rfl,h1,h2,h3,h4⟩ | ⟨rfl,hn⟩
  ·exact ⟨_,rfl,.inl ⟨rfl,h1,h2,h3,h4⟩⟩
  ·exact ⟨_,rfl,.inr ⟨rfl,rfl,hn⟩⟩
theorem ZBi {f:Form} (hl:Lim f) (hs:Shape f) {i:Int} (hi : -1099511627776≤i∧i≤1099511627776):∃ r,Z04 f i (-1) = some r∧DownTo f i r:=by
 have hi64:In64 i:=by unfold In64;omega
 obtain ⟨b,hb,hbb⟩:=Z6u hl
 have holen:=Z24 (b:=31) hl.odd
 unfold Z04
 rw [hb]
 simp only [Y0]
 cases b with
 | true =>
  have hbare:=hbb.1 rfl
  rw [cond_true];obtain ⟨p,h1,h2,h3⟩:=Z5t hl hs.inc i
  rw [h3]
  -- the number of exceptions up to the index
  obtain ⟨q,hq1,hq2,hq3⟩ : ∃ q:Nat,q≤f.Odd.length∧(∀ (k:Nat) (g:Granule),f.Odd[k]? = some g→(k < q ↔ g.Index≤i))∧((bif (decide ((-1:Int) < 0) && !decide (∃ g,f.Odd[p]? = some g∧g.Index = i)) then some (w64 ((p:Int) - 1)) else some (p:Int)):Option Int) = some ((q:Int) - 1):=by
   by_cases he:∃ g,f.Odd[p]? = some g∧g.Index = i
   ·obtain ⟨g,hg,hgi⟩:=he
    have hpl:=(List.getElem?_eq_some_iff.1 hg).1
    refine ⟨p + 1,by omega,fun k g' hk => ?_,by rw [ZC (p:=∃ g,f.Odd[p]? = some g∧g.Index = i) ⟨g,hg,hgi⟩];simp⟩
    have:=h2 k g' hk
    constructor
    ·intro h
     rcases YF k p with h' | h'
     ·have:=this.1 h';omega
     ·have:k = p:=by omega
      subst this;rw [hg] at hk;cases hk;omega
    ·intro h
     rcases YF p k with h' | h'
     ·have:=hs.inc p k g g' h' hg hk;omega
     ·omega
   ·refine ⟨p,h1,fun k g' hk => ?_,by rw [ZB (p:=∃ g,f.Odd[p]? = some g∧g.Index = i) he,Z1 (by omega)];simp⟩
    have:=h2 k g' hk
    constructor
    ·intro h;have:=this.1 h;omega
    ·intro h
     by_cases hgi:g'.Index = i
     ·exfalso
      have hkp:¬ k < p:=fun h' => by have:=this.1 h';omega
      rcases YF p k with h' | h'
      ·have hpl:p < f.Odd.length:=by have:=(List.getElem?_eq_some_iff.1 hk).1;omega
       have h5:=hs.inc p k _ g' h' (Y2 hpl) hk
       have h6:=(h2 p _ (Y2 hpl)).2 (by omega)
       omega
      ·have:k = p:=by omega
       subst this;exact he ⟨g',hk,hgi⟩
     ·exact this.2 (by omega)
  simp only [Y0];rw [hq3];simp only [Y0];obtain ⟨r,hr,hpost⟩:=Z0Y (step:=Z04.s0 f (-1)) (I:=fun (s:Int) => ∃ k:Nat,s = (k:Int) - 1∧k≤q∧∀ (j:Nat) (g:Granule),f.Odd[j]? = some g→k≤j→j < q→g.Ticks = []) (fun s => (s + 1).toNat)
   (fun r => (∃ (k:Nat) (g:Granule),r = .ret (g.Index,true)∧f.Odd[k]? = some g∧k < q∧g.Ticks ≠ []∧∀ (j:Nat) (g':Granule),f.Odd[j]? = some g'→k < j→j < q→g'.Ticks = [])∨(r = .go ()∧∀ (j:Nat) (g':Granule),f.Odd[j]? = some g'→j < q→g'.Ticks = [])) (by
   rintro s ⟨k,rfl,hk,hn⟩;unfold Z04.s0
   by_cases h0:0 < k
   ·have hlt:k - 1 < f.Odd.length:=by omega
    rw [ZC (show (k:Int) - 1 ≥ 0 by omega),ZC (show (k:Int) - 1 < f.Odd.length by omega),Y0E,cond_true,show (k:Int) - 1 = ((k - 1:Nat):Int) by omega,at?_nat hlt,Z1 (by omega)]
    simp only [Y0];have hget:=Y2 hlt
    by_cases hc:f.Odd[k - 1].Ticks = []
    ·rw [hc];refine .inl ⟨((k - 1:Nat):Int) + -1,rfl,⟨k - 1,by omega,by omega,fun j g hj hpj hjk => ?_⟩,by simp;omega⟩
     rcases YF j k with h | h
     ·have:j = k - 1:=by omega
      subst this;rw [hget] at hj;cases hj;exact hc
     ·exact hn j g hj h hjk
    ·rw [ZC (show ((f.Odd[k - 1].Ticks.length:Int) > 0) by have:=List.length_pos_iff.2 hc;omega),cond_true]
     exact .inr ⟨_,rfl,.inl ⟨k - 1,_,rfl,hget,by omega,hc,fun j g hj h1 h2 => hn j g hj (by omega) h2⟩⟩
   ·rw [ZB (show ¬ (k:Int) - 1 ≥ 0 by omega),Y0Y,cond_false]
    exact .inr ⟨_,rfl,.inr ⟨rfl,fun j g hj hjq => hn j g hj (by omega) hjq⟩⟩) ((q:Int) - 1) ⟨q,rfl,YC _,fun j g _ h h' => by omega⟩
  rw [hr];simp only [Y0]
  rcases hpost with ⟨k,g,rfl,hk,hkq,hne,hn⟩ | ⟨rfl,hn⟩
  ·have hset:=Z1Q hs.inc (Y6 hk)
   have hgi:=(hq2 k g hk).1 hkq
   refine ⟨_,rfl,.inl ⟨rfl,hgi,(hs.odd g (Y6 hk)).2,by simp only;rw [hset];exact hne,fun j hij hjg => ?_⟩⟩
   simp only at hjg
   by_cases ho:Z12 f j
   ·obtain ⟨g',hg',rfl⟩:=ho
    obtain ⟨k',hk'⟩:=YB hg'
    rw [Z1Q hs.inc hg'];refine hn k' g' hk' ?_ ((hq2 k' g' hk').2 hij)
    rcases YF k k' with h | h
    ·exact h
    ·rcases YF k' k with h' | h'
     ·have:=hs.inc k' k g' g h' hk' hk;omega
     ·have:k = k':=by omega
      subst this;rw [hk] at hk';cases hk';omega
   ·exact Z6n hs hbare ho
  ·refine ⟨_,rfl,.inr ⟨rfl,rfl,fun j hij _ => ?_⟩⟩
   by_cases ho:Z12 f j
   ·obtain ⟨g',hg',rfl⟩:=ho
    obtain ⟨k',hk'⟩:=YB hg'
    rw [Z1Q hs.inc hg'];exact hn k' g' hk' ((hq2 k' g' hk').2 hij)
   ·exact Z6n hs hbare ho
 | false =>
  rw [cond_false];obtain ⟨r,hr,hpost⟩:=Z0Y (step:=Z04.s1 f (-1)) (I:=fun (s:Int) => s≤i∧-1099511627777≤s∧∀ k,k≤i→s < k→ZH f k = []) (fun s => (s + 1099511627777).toNat)
   (fun r => (∃ j,r = .ret (j,true)∧j≤i∧Z3 j∧ZH f j ≠ []∧∀ k,k≤i→j < k→ZH f k = [])∨(r = .go ()∧∀ k,k≤i→Z3 k→ZH f k = [])) (by
   rintro s ⟨hs1,hs2,hn⟩;unfold Z04.s1;rw [Z6z]
   by_cases ht:Z3 s
   ·rw [ZC ht,cond_true,ZAE hl hs (Z0M ht),Z1 (by unfold Z3 at ht;omega)]
    simp only [Y0]
    by_cases hc:ZH f s = []
    ·rw [hc];refine .inl ⟨s + -1,by simp,⟨by omega,by unfold Z3 at ht;omega,fun k hk hks => ?_⟩,by unfold Z3 at ht;omega⟩
     by_cases h:k = s
     ·rw [h];exact hc
     ·exact hn k hk (by omega)
    ·rw [ZC hc,cond_true];exact .inr ⟨_,rfl,.inl ⟨s,rfl,hs1,ht,hc,hn⟩⟩
   ·rw [ZB ht,cond_false];exact .inr ⟨_,rfl,.inr ⟨rfl,fun k hk htk => hn k hk (by unfold Z3 at ht htk;omega)⟩⟩) i ⟨Y04 _,by omega,fun k h h' => by omega⟩
  rw [hr];simp only [Y0]
  rcases hpost with ⟨j,rfl,h1,h2,h3,h4⟩ | ⟨rfl,hn⟩
  ·exact ⟨_,rfl,.inl ⟨rfl,h1,h2,h3,h4⟩⟩
  ·exact ⟨_,rfl,.inr ⟨rfl,rfl,hn⟩⟩
def Above (f:Form) (i:Int) (r:Int × Bool):Prop:=(r.2 = true∧i < r.1∧Z3 r.1∧ZH f r.1 ≠ []∧∀ k,i < k→k < r.1→Z3 k→ZH f k = [])∨(r.2 = false∧r.1 = 0∧∀ k,i < k→Z3 k→ZH f k = [])
def Under (f:Form) (i:Int) (r:Int × Bool):Prop:=(r.2 = true∧r.1 < i∧Z3 r.1∧ZH f r.1 ≠ []∧∀ k,k < i→r.1 < k→Z3 k→ZH f k = [])∨(r.2 = false∧r.1 = 0∧∀ k,k < i→Z3 k→ZH f k = [])
theorem Z1Y {f:Form} (hl:Lim f) (hs:Shape f) {i:Int} (hi:In64 i):∃ r,Z11 f i = some r∧Above f i r:=by
 unfold Z11
 by_cases h:i ≥ 1099511627776
 ·rw [ZC h,cond_true];exact ⟨_,rfl,.inr ⟨rfl,rfl,fun k hk ht => by unfold Z3 at ht;omega⟩⟩
 ·rw [ZB h,cond_false,Z1 (by unfold In64 at hi;omega)]
  have hm:iMax (i + 1) (-1099511627776) = max (i + 1) (-1099511627776):=by unfold iMax;omega
  rw [hm];obtain ⟨r,h1,h2⟩:=gran_step_up hl hs (i:=max (i + 1) (-1099511627776)) (by omega)
  rw [h1];refine ⟨r,rfl,?_⟩
  rcases h2 with ⟨a,b,c,d,e⟩ | ⟨a,b,e⟩
  ·exact .inl ⟨a,by omega,c,d,fun k hk hkr ht => e k (by unfold Z3 at ht;omega) hkr⟩
  ·exact .inr ⟨a,b,fun k hk ht => e k (by have:=ht;unfold Z3 at this;omega) ht⟩
theorem Z2U {f:Form} (hl:Lim f) (hs:Shape f) {i:Int} (hi:In64 i):∃ r,Z1W f i = some r∧Under f i r:=by
 unfold Z1W
 by_cases h:i≤-1099511627776
 ·rw [ZC h,cond_true];exact ⟨_,rfl,.inr ⟨rfl,rfl,fun k hk ht => by unfold Z3 at ht;omega⟩⟩
 ·rw [ZB h,cond_false,Z1 (by unfold In64 at hi;omega)]
  have hm:iMin (i - 1) 1099511627776 = min (i - 1) 1099511627776:=by unfold iMin;omega
  rw [hm];obtain ⟨r,h1,h2⟩:=ZBi hl hs (i:=min (i - 1) 1099511627776) (by omega)
  rw [h1];refine ⟨r,rfl,?_⟩
  rcases h2 with ⟨a,b,c,d,e⟩ | ⟨a,b,e⟩
  ·exact .inl ⟨a,by omega,c,d,fun k hk hkr ht => e k (by unfold Z3 at ht;omega) hkr⟩
  ·exact .inr ⟨a,b,fun k hk ht => e k (by have:=ht;unfold Z3 at this;omega) ht⟩
end Go.Dn

namespace Go.Dn
open Go
def ZAB (f:Form) (i:Int) (lo hi:Int × Bool):Prop :=
 fits f i∧(lo.2 = true→fits f lo.1∧Z3M (ZH f lo.1) (ZH f i))∧(hi.2 = true→fits f hi.1∧Z3M (ZH f i) (ZH f hi.1))∧(lo.2 = true→hi.2 = true→Z3M (ZH f lo.1) (ZH f hi.1))
theorem Z3G (b:List Span):Z3M [] b:=by intro x hx;cases hx
theorem Z9T (a:List Span):Z3M a []:=by intro x _ y hy;cases hy
theorem Z8K {f:Form} (hl:Lim f) (hs:Shape f) (i:Int):Len (ZH f i):=by
 by_cases ho:Z12 f i
 ·obtain ⟨g,hg,rfl⟩:=ho
  rw [Z1Q hs.inc hg];exact (hl.ticks g hg).2.1
 ·by_cases h0:f.Count = 0
  ·rw [Z2M ho h0];unfold Len;simp
  ·rw [Z2I ho h0];unfold Len;rw [YJ];exact (hl.sets _ (Z0H hs h0 i).2).1
theorem Z5i {f:Form} (hs:Shape f) {i:Int} (hf:fits f i):RightL (ZH f i):=by
 by_cases ho:Z12 f i
 ·obtain ⟨g,hg,rfl⟩:=ho
  rw [Z1Q hs.inc hg];exact (hs.odd g hg).1
 ·by_cases h0:f.Count = 0
  ·rw [Z2M ho h0];exact ⟨by simp,by simp⟩
  ·unfold fits at hf;rw [Z2I ho h0] at hf ⊢;exact (hs.core _ (Z0H hs h0 i).2).shift fun s hs' => hf (ZY (Z17 f i) s) (List.mem_map.2 ⟨s,hs',rfl⟩)
theorem near_l {c:Bool} {X S:List Span}:Z3M (if c = true then X else []) S ↔ (c = true→Z3M X S):=by
 cases c
 ·simp [Z3G]
 ·simp
theorem near_r {c:Bool} {X S:List Span}:Z3M S (if c = true then X else []) ↔ (c = true→Z3M S X):=by
 cases c
 ·simp [Z9T]
 ·simp
noncomputable def sideG (f:Form) (r:Int × Bool):Option (Jx (List Span) Bool) :=
 (bif r.2 then (Z0F f r.1).bind fun x => (bif (x.2 != 0) then some (.ret false) else some (.go x.1)) else some (.go []))
open Classical in
theorem sideG_eq {f:Form} (hl:Lim f) (hs:Shape f) {r:Int × Bool} (ht:r.2 = true→Z3 r.1):(r.2 = true∧¬ fits f r.1∧sideG f r = some (.ret false))∨((r.2 = true→fits f r.1)∧sideG f r = some (.go (if r.2 = true then ZH f r.1 else []))):=by
 obtain ⟨j,c⟩:=r
 unfold sideG
 cases c with
 | false => exact .inr ⟨by simp,by simp⟩
 | true =>
  simp only [cond_true];rw [Z1I hl hs (Z0M (ht rfl))]
  by_cases hfl:fits f j
  ·rw [if_pos ⟨ht rfl,hfl⟩];exact .inr ⟨fun _ => hfl,by simp⟩
  ·rw [if_neg (fun h => hfl h.2)];exact .inl ⟨trivial,hfl,rfl⟩
open Classical in
theorem ZBt {f:Form} (hl:Lim f) (hs:Shape f) {i:Int} (hi:Z3 i) {lo hi':Int × Bool} (hlo:Z1W f i = some lo) (hhi:Z11 f i = some hi') (tlo:lo.2 = true→Z3 lo.1) (thi:hi'.2 = true→Z3 hi'.1) :
  ∃ b,Z2F f i = some b∧(b = true ↔ ZAB f i lo hi'):=by
 have e:Z2F f i = (Z0F f i).bind fun x1 => (bif (x1.2 != 0) then some false else (sideG f lo).bind fun y1 => y1.elim (fun r' => some r') fun a2 => (sideG f hi').bind fun y2 => y2.elim (fun r' => some r') fun a4 =>
   (Z0q a2 x1.1).bind fun x6 => ((bif x6 then (Z0q x1.1 a4).bind fun x7 => some x7 else some false)).bind fun y3 => ((bif y3 then (Z0q a2 a4).bind fun x8 => some x8 else some false)).bind fun y4 => some y4):=by
  unfold Z2F sideG;rw [hlo,hhi];simp only [Y0]
 rw [e,Z1I hl hs (Z0M hi)]
 clear e
 by_cases hf:fits f i
 ·rw [if_pos ⟨hi,hf⟩];simp only [Y0,bne_self_eq_false,cond_false]
  rcases sideG_eq hl hs tlo with ⟨h1,h2,h0⟩ | ⟨h1,h0⟩
  ·rw [h0];exact ⟨false,rfl,fun h => (by cases h),fun h => absurd (h.2.1 h1).1 h2⟩
  ·rw [h0];simp only [Y0,Jx.elim]
   rcases sideG_eq hl hs thi with ⟨h3,h4,h0'⟩ | ⟨h3,h0'⟩
   ·rw [h0'];exact ⟨false,rfl,fun h => (by cases h),fun h => absurd (h.2.2.1 h3).1 h4⟩
   ·rw [h0'];simp only [Y0];have lenA:Len (if lo.2 = true then ZH f lo.1 else []):=by
     by_cases hc:lo.2 = true
     ·rw [if_pos hc];exact Z8K hl hs _
     ·rw [if_neg hc];unfold Len;simp
    generalize hA:(if lo.2 = true then ZH f lo.1 else []) = A at lenA
    generalize hB:(if hi'.2 = true then ZH f hi'.1 else []) = B
    obtain ⟨r1,q1,p1⟩:=Z5D (b:=ZH f i) lenA
    obtain ⟨r2,q2,p2⟩:=Z5D (a:=ZH f i) (b:=B) (Z8K hl hs i)
    obtain ⟨r3,q3,p3⟩:=Z5D (b:=B) lenA
    rw [q1,q2,q3];subst hA hB;rw [near_l] at p1;rw [near_r] at p2;rw [near_l,near_r] at p3;refine ⟨r1 && r2 && r3,by cases r1 <;> cases r2 <;> rfl,?_⟩
    rw [Y8,Y8,p1,p2,p3]
    constructor
    ·rintro ⟨⟨a,b⟩,c⟩;exact ⟨hf,fun h => ⟨h1 h,a h⟩,fun h => ⟨h3 h,b h⟩,c⟩
    ·rintro ⟨_,a,b,c⟩;exact ⟨⟨fun h => (a h).2,fun h => (b h).2⟩,c⟩
 ·rw [if_neg (fun h => hf h.2)]
  exact ⟨false,rfl,fun h => (by cases h),fun h => absurd h.1 hf⟩
def Beside (f:Form) (i:Int):Prop:=∀ lo hi,Under f i lo→Above f i hi→ZAB f i lo hi
theorem Under.uniq {f:Form} {i:Int} {r r':Int × Bool} (h:Under f i r) (h':Under f i r'):r = r':=by
 obtain ⟨a,b⟩:=r
 obtain ⟨a',b'⟩:=r'
 rcases h with ⟨rfl,h1,h2,h3,h4⟩ | ⟨rfl,rfl,h4⟩ <;> rcases h' with ⟨rfl,k1,k2,k3,k4⟩ | ⟨rfl,rfl,k4⟩
 ·simp only at *
  rcases Int.lt_trichotomy a a' with h | h | h
  ·exact absurd (h4 a' k1 h k2) k3
  ·rw [h]
  ·exact absurd (k4 a h1 h h2) h3
 ·exact absurd (k4 a h1 h2) h3
 ·exact absurd (h4 a' k1 k2) k3
 ·rfl
theorem Above.uniq {f:Form} {i:Int} {r r':Int × Bool} (h:Above f i r) (h':Above f i r'):r = r':=by
 obtain ⟨a,b⟩:=r
 obtain ⟨a',b'⟩:=r'
 rcases h with ⟨rfl,h1,h2,h3,h4⟩ | ⟨rfl,rfl,h4⟩ <;> rcases h' with ⟨rfl,k1,k2,k3,k4⟩ | ⟨rfl,rfl,k4⟩
 ·simp only at *
  rcases Int.lt_trichotomy a a' with h | h | h
  ·exact absurd (k4 a h1 h h2) h3
  ·rw [h]
  ·exact absurd (h4 a' k1 h k2) k3
 ·exact absurd (k4 a h1 h2) h3
 ·exact absurd (h4 a' k1 k2) k3
 ·rfl
theorem ZBS {f:Form} (hl:Lim f) (hs:Shape f) {i:Int} (hi:Z3 i):∃ b,Z2F f i = some b∧(b = true ↔ Beside f i):=by
 obtain ⟨lo,h1,h2⟩:=Z2U hl hs (Z0M hi)
 obtain ⟨hi',h3,h4⟩:=Z1Y hl hs (Z0M hi)
 obtain ⟨b,h5,h6⟩:=ZBt hl hs hi h1 h3 (fun h => by rcases h2 with ⟨_,_,h,_⟩ | ⟨h',_⟩ <;> simp_all) (fun h => by rcases h4 with ⟨_,_,h,_⟩ | ⟨h',_⟩ <;> simp_all)
 refine ⟨b,h5,h6.trans ⟨fun h lo' hi'' q1 q2 => ?_,fun h => h lo hi' h2 h4⟩⟩
 rw [q1.uniq h2,q2.uniq h4];exact h
def Z4e (f:Form):Nat:=(f.Core.map List.length).sum + (f.Odd.map (·.Ticks.length)).sum
theorem Z4c {α:Type} (g:α→Nat) {l:List α} {k:Nat} (h:k < l.length):((l.take (k + 1)).map g).sum = ((l.take k).map g).sum + g l[k]:=by
 rw [Y0g h,Yx,List.sum_append];simp
theorem Z9g {f:Form} (hl:Lim f) (hc:f.Core.length≤6000) (ho:f.Odd.length≤6000):Z0J f = some (Z4e f:Int):=by
 have hr:=Z0g
 have lenC:∀ l ∈ f.Core,l.length≤8796093022207:=fun l hm => by have:=(hl.sets l hm).1;unfold Len at this;omega
 have lenO:∀ g ∈ f.Odd,g.Ticks.length≤8796093022207:=fun l hm => by have:=(hl.ticks l hm).2.1;unfold Len at this;omega
 obtain ⟨a,h1,h2,h3⟩:=fold_loop (l:=f.Core) (step:=Z0J.s0 f) (f:=fun a _ x => a + (x.length:Int)) (fin:=id) (a0:=(0:Int)) (fun k a => a = ((((f.Core.take k).map List.length).sum:Nat):Int)∧a≤k * 8796093022207) ⟨by simp,by simp⟩ (fun k x a hk ⟨ha,hb⟩ => by
   obtain ⟨q1,q2⟩:=Z7Q hk
   have hx:=lenC x (Y6 hk)
   have hkl:k < f.Core.length:=by omega
   have h0:0≤a:=by rw [ha];omega
   unfold Z0J.s0;simp only;rw [ZC q2,cond_true,q1,Z1 (x:=(k:Int) + 1) (by omega)]
   simp only [Y0];rw [Z1 (x:=a + (x.length:Int)) (by omega)]
   refine ⟨rfl,?_,by push_cast;omega⟩
   rw [Z4c _ hkl];rw [Y2 hkl] at hk;cases hk;rw [ha];push_cast;rfl) (fun a _ => by unfold Z0J.s0;simp only;rw [ZB (by omega)];rfl)
 rw [Yg] at h2
 obtain ⟨b,h4,h5,h6⟩:=fold_loop (l:=f.Odd) (step:=Z0J.s1 f) (f:=fun a _ x => a + (x.Ticks.length:Int)) (fin:=id) (a0:=a) (fun k b => b = a + ((((f.Odd.take k).map (·.Ticks.length)).sum:Nat):Int)∧b≤a + k * 8796093022207) ⟨by simp,by simp⟩ (fun k x b hk ⟨ha,hb⟩ => by
   obtain ⟨q1,q2⟩:=Z7Q hk
   have hx:=lenO x (Y6 hk)
   have hkl:k < f.Odd.length:=by omega
   have h0:0≤b:=by rw [ha,h2];omega
   unfold Z0J.s1;simp only;rw [ZC q2,cond_true,q1,Z1 (x:=(k:Int) + 1) (by omega)]
   simp only [Y0];rw [Z1 (x:=b + (x.Ticks.length:Int)) (by omega)]
   refine ⟨rfl,?_,by push_cast;omega⟩
   rw [Z4c _ hkl];rw [Y2 hkl] at hk;cases hk;rw [ha];push_cast;omega) (fun a _ => by unfold Z0J.s1;simp only;rw [ZB (by omega)];rfl)
 rw [Yg] at h5
 unfold Z0J
 rw [h1]
 simp only [Y0,id]
 rw [h4]
 simp only [Y0,id,h5,h2,Z4e]
 push_cast;rfl
structure RightF (f:Form):Prop where
 shape:Shape f
 turns:Turns f
 beside:∀ g ∈ f.Odd,Beside f g.Index
def Z22 (f:Form):Prop:=6000 < f.Core.length∨6000 < f.Odd.length∨60000 < Z4e f
theorem Z4Z {f:Form} (hl:Lim f):(Z22 f∧Z02 f = some 3)∨(¬ Z22 f∧RightF f∧Z02 f = some 0)∨(¬ Z22 f∧¬ RightF f∧Z02 f = some 50):=by
 have holen:=Z24 (b:=31) hl.odd
 unfold Z02
 by_cases h1:6000 < f.Core.length∨6000 < f.Odd.length
 ·have e:(decide ((f.Core.length:Int) > 6000) || decide ((f.Odd.length:Int) > 6000)) = true:=by
   rcases h1 with h | h
   ·rw [ZC (show (f.Core.length:Int) > 6000 by omega)];rfl
   ·rw [ZC (show (f.Odd.length:Int) > 6000 by omega)];simp
  rw [e];exact .inl ⟨h1.elim .inl (fun h => .inr (.inl h)),rfl⟩
 ·have e:(decide ((f.Core.length:Int) > 6000) || decide ((f.Odd.length:Int) > 6000)) = false:=by
   rw [ZB (show ¬ (f.Core.length:Int) > 6000 by omega),ZB (show ¬ (f.Odd.length:Int) > 6000 by omega)];rfl
  rw [e,cond_false,Z9g hl (by omega) (by omega)]
  simp only [Y0]
  by_cases h2:60000 < Z4e f
  ·rw [ZC (show (Z4e f:Int) > 60000 by omega)]
   exact .inl ⟨.inr (.inr h2),rfl⟩
  ·have hnl:¬ Z22 f:=by unfold Z22;omega
   rw [ZB (show ¬ (Z4e f:Int) > 60000 by omega),cond_false]
   obtain ⟨b,hb,hbs⟩:=gran_shape_eq hl
   rw [hb];simp only [Y0];refine .inr ?_;cases b with
   | false => exact .inr ⟨hnl,fun h => (by have:=hbs.2 h.shape;cases this),rfl⟩
   | true =>
    have hs:=hbs.1 rfl
    obtain ⟨c,hc,hct⟩:=gran_turns_eq hl hs
    rw [hc];simp only [Y0,YQ,cond_false];cases c with
    | false => exact .inr ⟨hnl,fun h => (by have:=hct.2 h.turns;cases this),rfl⟩
    | true =>
     simp only [YQ,cond_false]
     rcases Z1L (l:=f.Odd) (step:=Z02.s0 f) (fun _ g => Beside f g.Index) (no:=.ret 50) (yes:=.go ()) (fun k g hk _ => by
       obtain ⟨q1,q2⟩:=Z7Q hk
       obtain ⟨b,hb,hbb⟩:=ZBS hl hs (hs.odd g (Y6 hk)).2
       unfold Z02.s0;rw [ZC q2,cond_true,q1,Z1 (by omega)]
       simp only [Y0,hb];cases b
       ·exact .inr ⟨rfl,fun h => by have:=hbb.2 h;cases this⟩
       ·exact .inl ⟨rfl,hbb.1 rfl⟩) (by unfold Z02.s0;rw [ZB (by omega)];rfl) with ⟨q1,q2⟩ | ⟨q1,q2⟩
     ·rw [q1];exact .inl ⟨hnl,⟨hs,hct.1 rfl,fun g hg => by obtain ⟨k,hk⟩:=YB hg;exact q2 k g hk⟩,rfl⟩
     ·rw [q1];exact .inr ⟨hnl,fun h => q2 fun k g hk => h.beside g (Y6 hk),rfl⟩
def SmallF (f:Form):Prop:=f.Core.length≤12∧f.Odd.length≤8∧Z4e f≤60
theorem Z8V {f:Form} (hl:Lim f):∃ b,Z1U f = some b∧(b = true ↔ SmallF f):=by
 unfold Z1U
 by_cases h:f.Core.length≤12∧f.Odd.length≤8
 ·rw [ZC (show (f.Core.length:Int)≤12 by omega),ZC (show (f.Odd.length:Int)≤8 by omega),Z9g hl (by omega) (by omega)]
  refine ⟨decide ((Z4e f:Int)≤60),rfl,?_⟩;rw [decide_eq_true_iff];exact ⟨fun h' => ⟨h.1,h.2,by omega⟩,fun h' => by have:=h'.2.2;omega⟩
 ·have e:(decide ((f.Core.length:Int)≤12) && decide ((f.Odd.length:Int)≤8)) = false:=by
   by_cases h1:f.Core.length≤12
   ·rw [ZB (show ¬ (f.Odd.length:Int)≤8 by omega)];simp
   ·rw [ZB (show ¬ (f.Core.length:Int)≤12 by omega)];rfl
  rw [e];exact ⟨false,rfl,fun h => (by cases h),fun h' => absurd ⟨h'.1,h'.2.1⟩ h⟩
end Go.Dn

namespace Go.Dn
open Go
theorem Z6M {f:Form} {l:List Span}:l ∈ full f ↔ l ∈ f.Core∧l ≠ []:=by
 unfold full
 rw [List.mem_filter,decide_eq_true_iff,gt_iff_lt,List.length_pos_iff]
theorem full_pair {f:Form} (hs:Shape f) (ht:Turns f):(full f).Pairwise (fun a b => lstT a < fstT b):=by
 have hm:∀ x ∈ full f,fstT x≤lstT x:=fun x hx => Z5N (hs.core x (Z6M.1 hx).1) (Z6M.1 hx).2
 have h1:=ht.1
 generalize full f = l at hm h1
 induction l with
 | nil => exact .nil
 | cons x l ih =>
  have ih:=ih (fun y hy => hm y (YN _ hy)) (fun k a b ha hb => h1 (k + 1) a b ha hb)
  refine List.pairwise_cons.2 ⟨fun y hy => ?_,ih⟩
  cases l with
  | nil => cases hy
  | cons z l =>
   have hxz:=h1 0 x z rfl rfl
   rcases List.mem_cons.1 hy with rfl | hy
   ·exact hxz
   ·have:=(List.pairwise_cons.1 ih).1 y hy
    have:=hm z (by simp)
    omega
theorem core_pair {f:Form} (hs:Shape f) (ht:Turns f) {j k:Nat} {a b:List Span} (hjk:j < k) (ha:f.Core[j]? = some a) (hb:f.Core[k]? = some b) (na:a ≠ []) (nb:b ≠ []):lstT a < fstT b:=by
 have h:=full_pair hs ht
 unfold full at h
 rw [List.pairwise_filter] at h
 have hj:=(List.getElem?_eq_some_iff.1 ha)
 have hk:=(List.getElem?_eq_some_iff.1 hb)
 obtain ⟨hj,rfl⟩:=hj
 obtain ⟨hk,rfl⟩:=hk
 exact List.pairwise_iff_getElem.1 h j k hj hk hjk (by rw [decide_eq_true_iff];exact List.length_pos_iff.2 na) (by rw [decide_eq_true_iff];exact List.length_pos_iff.2 nb)
theorem core_turn {f:Form} (hs:Shape f) (ht:Turns f) {a b:List Span} (ha:a ∈ f.Core) (hb:b ∈ f.Core) (na:a ≠ []) (nb:b ≠ []):lstT a < fstT b + f.Period:=by
 have hA:=Z6M.2 ⟨ha,na⟩
 have hB:=Z6M.2 ⟨hb,nb⟩
 have hm:∀ x ∈ full f,fstT x≤lstT x:=fun x hx => Z5N (hs.core x (Z6M.1 hx).1) (Z6M.1 hx).2
 have hn:full f ≠ []:=List.ne_nil_of_mem hA
 have hlast:=Y0C hn
 have hhead:=Y0I hn
 have h2:=ht.2 _ _ hlast hhead
 have hp:=full_pair hs ht
 have e1:lstT a≤lstT ((full f).getLast hn):=by
  obtain ⟨j,hj⟩:=YB hA
  obtain ⟨hjl,hj⟩:=List.getElem?_eq_some_iff.1 hj
  by_cases hc:j = (full f).length - 1
  ·subst hc;rw [List.getLast_eq_getElem,hj];exact Y04 _
  ·have:=List.pairwise_iff_getElem.1 hp j ((full f).length - 1) hjl (by omega) (by omega)
   rw [hj] at this;have h5:=hm _ (List.getLast_mem hn)
   rw [List.getLast_eq_getElem] at h5 ⊢;omega
 have e2:fstT ((full f).head hn)≤fstT b:=by
  obtain ⟨j,hj⟩:=YB hB
  obtain ⟨hjl,hj⟩:=List.getElem?_eq_some_iff.1 hj
  have hh:(full f).head hn = (full f)[0]'(by omega):=List.head_eq_getElem hn
  by_cases hc:j = 0
  ·subst hc;rw [hh,hj];exact Y04 _
  ·have:=List.pairwise_iff_getElem.1 hp 0 j (by omega) hjl (by omega)
   rw [hj,← hh] at this;have h5:=hm _ (List.head_mem hn)
   omega
 omega
theorem ZBk {f:Form} (hs:Shape f) (h0:f.Count ≠ 0) (i:Int):f.Core[(i % f.Count).toNat]? = some (Z0f f i):=by
 have:=(Z0H hs h0 i).1
 unfold at? at this
 rwa [if_pos (Ym i h0)] at this
theorem ZBs {f:Form} (hs:Shape f) (ht:Turns f) (h0:f.Count ≠ 0) {i k:Int} (hik:i < k) (ni:Z0f f i ≠ []) (nk:Z0f f k ≠ []):lstT (Z0f f i) + Z17 f i < fstT (Z0f f k) + Z17 f k:=by
 have hp:=Z84 hs h0
 have di:=Yw i f.Count
 have dk:=Yw k f.Count
 have mi:=Ym i h0
 have mk:=Ym k h0
 have li:=Ys i hp
 have lk:=Ys k hp
 have hq:i / f.Count≤k / f.Count:=Int.ediv_le_ediv hp (by omega)
 unfold Z17
 rcases Int.lt_or_eq_of_le hq with h | h
 ·have h1:=core_turn hs ht (Z0H hs h0 i).2 (Z0H hs h0 k).2 ni nk
  have h2:(i / f.Count + 1) * f.Period≤k / f.Count * f.Period:=YH (by omega) hs.per.1
  rw [Y0G,Y19] at h2;omega
 ·rw [h] at di ⊢;have:i % f.Count < k % f.Count:=by omega
  have h1:=core_pair hs ht (j:=(i % f.Count).toNat) (k:=(k % f.Count).toNat) (by omega) (ZBk hs h0 i) (ZBk hs h0 k) ni nk
  omega
theorem Z8G {l:List Span} (d:Int) (hn:l ≠ []):lstT (l.map (ZY d)) = lstT l + d∧fstT (l.map (ZY d)) = fstT l + d:=by
 unfold lstT fstT
 rw [List.getLast?_map,List.head?_map,Y0C hn,Y0I hn]
 exact ⟨rfl,rfl⟩
theorem ZCI {f:Form} (hl:Lim f) (hs:Shape f) {i k:Int} (hk:In64 k) (hik:i < k) (ti:Z3 i) (ni:ZH f i ≠ []):∃ j,Under f k (j,true)∧i≤j:=by
 obtain ⟨r,_,h⟩:=Z2U hl hs hk
 obtain ⟨j,b⟩:=r
 have h':=h
 rcases h with ⟨rfl,h1,h2,h3,h4⟩ | ⟨rfl,_,h4⟩
 ·refine ⟨j,h',?_⟩;apply Classical.byContradiction;intro hc;exact ni (h4 i hik (by simp only;omega) ti)
 ·exact absurd (h4 i hik ti) ni
theorem ZC6 {f:Form} (hl:Lim f) (hs:Shape f) {i k:Int} (hk:In64 k) (hik:k < i) (ti:Z3 i) (ni:ZH f i ≠ []):∃ j,Above f k (j,true)∧j≤i:=by
 obtain ⟨r,_,h⟩:=Z1Y hl hs hk
 obtain ⟨j,b⟩:=r
 have h':=h
 rcases h with ⟨rfl,h1,h2,h3,h4⟩ | ⟨rfl,_,h4⟩
 ·refine ⟨j,h',?_⟩;apply Classical.byContradiction;intro hc;exact ni (h4 i hik (by simp only;omega) ti)
 ·exact absurd (h4 i hik ti) ni
theorem RightF.order {f:Form} (hl:Lim f) (hr:RightF f):∀ (n:Nat) (i k:Int),(k - i).toNat = n→i < k→Z3 i→Z3 k→fits f i→fits f k→ZH f i ≠ []→ZH f k ≠ []→lstT (ZH f i) < fstT (ZH f k):=by
 have hs:=hr.shape
 intro n
 induction n using Nat.strongRecOn with
 | _ n ih =>
  intro i k hn hik ti tk fi fk ni nk
  by_cases ok:Z12 f k
  ·obtain ⟨g,hg,rfl⟩:=ok
   obtain ⟨j,hj,hij⟩:=ZCI hl hs (Z0M tk) hik ti ni
   obtain ⟨hi',_,hab⟩:=Z1Y hl hs (Z0M tk)
   obtain ⟨_,hlo,_,_⟩:=hr.beside g hg _ _ hj hab
   obtain ⟨fj,aj⟩:=hlo rfl
   have hj2:=hj
   rcases hj2 with ⟨_,j1,j2,j3,j4⟩ | ⟨h,_⟩
   ·simp only at fj aj j1 j2 j3;have hjk:=(Z2L j3 nk).1 aj
    by_cases hji:i = j
    ·rw [hji];exact hjk
    ·have h1:=ih (j - i).toNat (by omega) i j rfl (by omega) ti j2 fi fj ni j3
     have h2:=Z5N (Z5i hs fj) j3
     omega
   ·cases h
  ·by_cases oi:Z12 f i
   ·obtain ⟨g,hg,rfl⟩:=oi
    obtain ⟨j,hj,hij⟩:=ZC6 hl hs (Z0M ti) hik tk nk
    obtain ⟨lo',_,hun⟩:=Z2U hl hs (Z0M ti)
    obtain ⟨_,_,hhi,_⟩:=hr.beside g hg _ _ hun hj
    obtain ⟨fj,aj⟩:=hhi rfl
    have hj2:=hj
    rcases hj2 with ⟨_,j1,j2,j3,j4⟩ | ⟨h,_⟩
    ·simp only at fj aj j1 j2 j3;have hjk:=(Z2L ni j3).1 aj
     by_cases hji:j = k
     ·rw [← hji];exact hjk
     ·have h1:=ih (k - j).toNat (by omega) j k rfl (by omega) j2 tk fj fk j3 nk
      have h2:=Z5N (Z5i hs fj) j3
      omega
    ·cases h
   ·have h0:f.Count ≠ 0:=fun h => ni (Z2M oi h)
    have ni':=fun h => ni ((Z1Z oi h0).2 h)
    have nk':=fun h => nk ((Z1Z ok h0).2 h)
    rw [Z2I oi h0,Z2I ok h0,(Z8G _ ni').1,(Z8G _ nk').2];exact ZBs hs hr.turns h0 hik ni' nk'
end Go.Dn

namespace Go.Dn
open Go
theorem Above.tick {f:Form} {i:Int} {r:Int × Bool} (h:Above f i r) (hr:r.2 = true):i < r.1∧Z3 r.1∧ZH f r.1 ≠ []∧∀ k,i < k→k < r.1→Z3 k→ZH f k = []:=by
 rcases h with ⟨_,h1,h2,h3,h4⟩ | ⟨h,_⟩
 ·exact ⟨h1,h2,h3,h4⟩
 ·rw [hr] at h;cases h
theorem Under.tick {f:Form} {i:Int} {r:Int × Bool} (h:Under f i r) (hr:r.2 = true):r.1 < i∧Z3 r.1∧ZH f r.1 ≠ []∧∀ k,k < i→r.1 < k→Z3 k→ZH f k = []:=by
 rcases h with ⟨_,h1,h2,h3,h4⟩ | ⟨h,_⟩
 ·exact ⟨h1,h2,h3,h4⟩
 ·rw [hr] at h;cases h
end Go.Dn

namespace Go.Dn
open Go
theorem ZAF {α β:Type} {a:List α} {b:List β} {step:Int→Option (Int ⊕ Jx Unit Bool)} {eq:α→β→Option Bool} (P:α→β→Prop)
  (hl:(a.length:Int) < 9223372036854775807) (hab:a.length = b.length)
  (heq:∀ (k:Nat) x y,a[k]? = some x→b[k]? = some y→∃ r,eq x y = some r∧(r = true ↔ P x y))
  (hstep:∀ s,step s = bif decide (s < (a.length:Int)) then (at? a s).bind fun x1 => (at? b s).bind fun x2 => (eq x1 x2).bind fun x3 => bif (!x3) then some (.inr (.ret false)) else some (.inl (w64 (s + 1))) else some (.inr (.go ()))) :
  (loopO step 0 = some (.go ())∧∀ (k:Nat) x y,a[k]? = some x→b[k]? = some y→P x y)∨(loopO step 0 = some (.ret false)∧¬ ∀ (k:Nat) x y,a[k]? = some x→b[k]? = some y→P x y):=by
 rcases Z1L (l:=a) (step:=step) (fun k x => ∀ y,b[k]? = some y→P x y) (no:=.ret false) (yes:=.go ()) (fun k x hk hp => by
  have hlt:=(List.getElem?_eq_some_iff.1 hk).1
  have hat:at? a (k:Int) = some x:=by rw [at?_nat hlt];rw [Y2 hlt] at hk;exact hk
  have hbt:at? b (k:Int) = some (b[k]'(by omega)):=at?_nat (by omega)
  have hbk:b[k]? = some (b[k]'(by omega)):=Y2 (by omega)
  obtain ⟨r,h1,h2⟩:=heq k x _ hk hbk
  rw [hstep,ZC (show (k:Int) < a.length by omega),cond_true,hat,hbt,Z1 (show _ by omega)]
  simp only [Y0,h1];cases r with
  | true => exact .inl ⟨rfl,fun y hy => by rw [hbk] at hy;cases hy;exact h2.1 rfl⟩
  | false => exact .inr ⟨rfl,fun h => by have:=h2.2 (h _ hbk);cases this⟩) (by
  rw [hstep,ZB (by omega)];rfl) with ⟨h1,h2⟩ | ⟨h1,h2⟩
 ·exact .inl ⟨h1,fun k x y hx hy => h2 k x hx y hy⟩
 ·exact .inr ⟨h1,fun h => h2 fun k x hx y hy => h k x y hx hy⟩
theorem ZB5 {a b:List Span} {d:Int} (hl:a.length = b.length):(∀ (k:Nat) x y,a[k]? = some x→b[k]? = some y→y.From - x.From = d∧y.To - x.To = d) ↔ b = a.map (ZY d):=by
 constructor
 ·intro h;apply Y0r;intro k
  by_cases hk:k < a.length
  ·have h1:a[k]? = some a[k]:=Y2 hk
   have h2:b[k]? = some (b[k]'(by omega)):=Y2 (by omega)
   rw [h2,YR,h1];obtain ⟨q1,q2⟩:=h k _ _ h1 h2
   simp only [YA,ZY,Y5];generalize b[k]'(by omega) = y at q1 q2 ⊢
   obtain ⟨y1,y2⟩:=y
   simp only at q1 q2;simp only [Span.mk.injEq];omega
  ·rw [Yl (by omega),Yl (by simp;omega)]
 ·rintro rfl k x y hx hy;rw [YR,hx] at hy;simp only [YA,Y5] at hy;subst hy;simp only [ZY];omega
theorem ZAV {a b:List Span} {d:Int} (ha:RightL a) (hb:RightL b) (hl:Len a):∃ r,Z2O a b d = some r∧(r = true ↔ b = a.map (ZY d)):=by
 have hl':(a.length:Int) < 9223372036854775807:=by have:=Z0g;unfold Len at hl;omega
 unfold Z2O Z8
 by_cases hlen:a.length = b.length
 ·rw [Z4d (by omega),cond_false]
  have tk:∀ {l:List Span},RightL l→∀ (k:Nat) s,l[k]? = some s→Z3 s.From∧Z3 s.To:=fun {l} h k s hs => by
   have:=Z3X.1 h k s hs
   unfold Z2H at this;exact ⟨this.1,this.2.1⟩
  rcases ZAF (a:=a) (b:=b) (step:=Z8.s0 a b (fun z0 z1 => some (Z1l z0 z1 d))) (eq:=fun z0 z1 => some (Z1l z0 z1 d)) (fun x y => y.From - x.From = d∧y.To - x.To = d) hl' hlen (fun k x y hx hy => by
   refine ⟨_,rfl,?_⟩;obtain ⟨x1,x2⟩:=tk ha k x hx
   obtain ⟨y1,y2⟩:=tk hb k y hy
   unfold Z3 at x1 x2 y1 y2;unfold Z1l;rw [Z1 (by omega),Z1 (by omega)]
   simp) (fun s => rfl) with ⟨h1,h2⟩ | ⟨h1,h2⟩
  ·rw [h1];exact ⟨true,rfl,⟨fun _ => (ZB5 hlen).1 h2,fun _ => rfl⟩⟩
  ·rw [h1];refine ⟨false,rfl,by simp only [Y9,false_iff];exact fun h => h2 ((ZB5 hlen).2 h)⟩
 ·rw [Z78 (by omega),cond_true]
  refine ⟨false,rfl,by simp only [Y9,false_iff];rintro rfl;exact hlen (by simp)⟩
end Go.Dn

namespace Go.Dn
open Go
noncomputable def cs (f:Form) (i:Int):List Span:=(Z0f f i).map (ZY (Z17 f i))
theorem Z1X (l:List Span) (a b:Int):(l.map (ZY a)).map (ZY b) = l.map (ZY (a + b)):=by
 rw [List.map_map]
 congr 1
 funext s
 simp only [Function.comp,ZY,Span.mk.injEq]
 omega
theorem shift_inj {a b:List Span} {d:Int} (h:a.map (ZY d) = b.map (ZY d)):a = b:=by
 have:=congrArg (List.map (ZY (-d))) h
 rw [Z1X,Z1X,Int.add_right_neg,Z5Q,Z5Q] at this
 exact this
theorem Z8B {f:Form} (h0:f.Count ≠ 0) (i:Int):cs f (i + f.Count) = (cs f i).map (ZY f.Period):=by
 unfold cs Z0f Z17
 rw [Z1X,Int.add_emod_right,Int.add_ediv_of_dvd_right (Int.dvd_refl _),Int.ediv_self h0,Y0G,Y19]
theorem Z97 {f:Form} (h0:f.Count ≠ 0) (i k:Int):cs f (i + f.Count * k) = (cs f i).map (ZY (k * f.Period)):=by
 unfold cs Z0f Z17
 rw [Z1X,Int.add_mul_emod_self_left,Int.add_mul_ediv_left _ _ h0,Y0G]
theorem Z6Y {f:Form} {i:Int} (h0:0≤i) (h1:i < f.Count):cs f i = f.Core.getD i.toNat []:=by
 unfold cs Z0f Z17
 rw [Int.emod_eq_of_lt h0 h1,Int.ediv_eq_zero_of_lt h0 h1,Int.zero_mul,Z5Q]
def TurnZ (f:Form) (d q:Int):Prop:=∀ i,cs f (i + d) = (cs f i).map (ZY q)
theorem turn_of {f:Form} (h0:0 < f.Count) {d q:Int} (h:∀ i,0≤i→i < f.Count→cs f (i + d) = (cs f i).map (ZY q)):TurnZ f d q:=by
 intro i
 have e:i = i % f.Count + f.Count * (i / f.Count):=(Yw i f.Count).symm
 have h1:=h (i % f.Count) (Ym i (by omega)) (Ys i h0)
 have e2:i + d = (i % f.Count + d) + f.Count * (i / f.Count):=by omega
 rw [e2,Z97 (by omega),h1]
 conv => rhs;rw [e,Z97 (by omega)]
 rw [Z1X,Z1X,Int.add_comm]
def Z6c (f:Form) (d k:Int):Int:=if k + d ≥ f.Count then k + d - f.Count else k + d
def Z7a (f:Form) (d k:Int):Int:=if k + d ≥ f.Count then f.Period else 0
theorem wrap_cs {f:Form} {d k:Int} (hd:1≤d) (hdn:d≤f.Count) (h0:0≤k) (h1:k < f.Count):0≤Z6c f d k∧Z6c f d k < f.Count∧cs f (k + d) = (cs f (Z6c f d k)).map (ZY (Z7a f d k)):=by
 unfold Z6c Z7a
 by_cases h:k + d ≥ f.Count
 ·rw [if_pos h,if_pos h];refine ⟨by omega,by omega,?_⟩
  rw [← Z8B (by omega)]
  congr 1;omega
 ·rw [if_neg h,if_neg h,Z5Q];exact ⟨by omega,by omega,rfl⟩
theorem canon_turn_eq {f:Form} (hl:Lim f) (hs:Shape f) {d q:Int} (hd:1≤d) (hdn:d≤f.Count) (hq:0≤q∧q≤1099511627776):∃ r,Z0y f d q = some r∧(r = true ↔ TurnZ f d q):=by
 have hcl:(f.Core.length:Int) < 4611686018427387904:=Z24 (b:=23) hl.core
 have hcnt:=hs.count
 have key:∀ k:Int,0≤k→k < f.Count→(cs f (Z6c f d k) = (cs f k).map (ZY (q - Z7a f d k)) ↔ cs f (k + d) = (cs f k).map (ZY q)):=fun k k0 k1 => by
  obtain ⟨_,_,h⟩:=wrap_cs hd hdn k0 k1
  rw [h]
  constructor
  ·intro e;rw [e,Z1X]
   congr 2;omega
  ·intro e;apply shift_inj (d:=Z7a f d k)
   rw [e,Z1X]
   congr 2;omega
 unfold Z0y
 rcases Z1L (l:=f.Core) (step:=Z0y.s0 f d q) (fun k x => cs f (Z6c f d k) = x.map (ZY (q - Z7a f d k))) (no:=.ret false) (yes:=.go ()) (fun k x hk hp => by
  have hlt:=(List.getElem?_eq_some_iff.1 hk).1
  have hat:at? f.Core (k:Int) = some x:=by rw [at?_nat hlt];rw [Y2 hlt] at hk;exact hk
  obtain ⟨w0,w1,_⟩:=wrap_cs (f:=f) (k:=(k:Int)) hd hdn (by omega) (by omega)
  have hx:=hs.core x (Y6 hk)
  have hlx:=(hl.sets x (Y6 hk)).1
  have hwl:(Z6c f d k).toNat < f.Core.length:=by omega
  have hgw:cs f (Z6c f d k) = f.Core[(Z6c f d k).toNat]:=by rw [Z6Y w0 w1,Yf,Y2 hwl];rfl
  have hy:=hs.core _ (YE hwl)
  have hat2:at? f.Core (Z6c f d k) = some f.Core[(Z6c f d k).toNat]:=at?_lt w0 (by omega)
  have hpk:(bif decide (w64 ((k:Int) + d) ≥ f.Count) then some (w64 (w64 ((k:Int) + d) - f.Count),f.Period) else some (w64 ((k:Int) + d),0)) = some (Z6c f d k,Z7a f d k):=by
   rw [Z1 (show _ by omega)]
   unfold Z6c Z7a
   by_cases h:(k:Int) + d ≥ f.Count
   ·rw [ZC h,cond_true,if_pos h,if_pos h,Z1 (show _ by omega)]
   ·rw [ZB h,cond_false,if_neg h,if_neg h]
  obtain ⟨r,h1,h2⟩:=ZAV (d:=q - Z7a f d k) hx hy hlx
  have hwp:0≤Z7a f d k∧Z7a f d k≤1099511627776:=by have:=hs.per;unfold Z7a;split <;> omega
  unfold Z0y.s0;rw [ZC (show (k:Int) < f.Core.length by omega),cond_true,hat]
  simp only [Y0,hpk,hat2];rw [Z1 (show _ by omega),h1]
  simp only [Y0];rw [hgw];cases r with
  | true => exact .inl ⟨by simp only [YQ,cond_false,Y0,Jx.elim];rw [Z1 (show _ by omega)],h2.1 rfl⟩
  | false => exact .inr ⟨rfl,fun h => by have:=h2.2 h;cases this⟩) (by
  unfold Z0y.s0;rw [ZB (by omega)];rfl) with ⟨h1,h2⟩ | ⟨h1,h2⟩
 ·rw [h1];refine ⟨true,rfl,⟨fun _ => turn_of (by omega) fun i i0 i1 => ?_,fun _ => rfl⟩⟩
  have hlt:i.toNat < f.Core.length:=by omega
  have:=h2 i.toNat _ (Y2 hlt)
  rw [Y0T i0] at this;refine (key i i0 i1).1 ?_;rw [this,Z6Y i0 i1,Yf,Y2 hlt];rfl
 ·rw [h1];refine ⟨false,rfl,⟨(fun h => nomatch h),fun ht => absurd (fun k x hk => ?_) h2⟩⟩
  have hlt:=(List.getElem?_eq_some_iff.1 hk).1
  have:=(key k (by omega) (by omega)).2 (ht k)
  rw [this,Z6Y (by omega) (by omega),Yf,Y0J,hk];rfl
end Go.Dn

namespace Go.Dn
open Go
structure Good (f:Form) (d:Int):Prop where
 pos:1≤d
 dvd:d ∣ f.Count
 rest:f.Period % (f.Count / d) = 0
 turn:TurnZ f d (f.Period / (f.Count / d))
theorem good_self {f:Form} (h0:0 < f.Count):Good f f.Count:=by
 have e:f.Count / f.Count = 1:=Int.ediv_self (by omega)
 exact ⟨by omega,Int.dvd_refl _,by rw [e];omega,by rw [e,Int.ediv_one];exact Z8B (by omega)⟩
theorem copy_loop {x4:List (List Span)} (hc:x4.length * 24≤reachBytes) (hs:∀ l ∈ x4,Len l):loopO (Zx.s1 x4) (0,[]) = some x4:=by
 have hcl:(x4.length:Int) < 4611686018427387904:=Z24 (b:=23) hc
 have hr:=Z0g
 have hro:=Z1F
 refine Z0s (I:=fun s r => r = x4∧∃ k:Nat,k≤x4.length∧s = ((k:Int),x4.take k)) (fun s => x4.length - s.1.toNat) ?_ ⟨rfl,0,YS _,rfl⟩
 rintro s r ⟨rfl,k,hk,rfl⟩
 unfold Zx.s1
 by_cases hlt:k < r.length
 ·left
  have hl:=hs _ (YE hlt)
  unfold Len at hl;have hcp:clone? 16 r[k] = some r[k]:=by unfold clone?;rw [if_pos (by omega)]
  have hap:app? 24 (r.take k) [r[k]] = some (r.take (k + 1)):=by
   rw [app?_ok (by simp only [YT,Yj,YX];have:min k r.length + 1≤r.length:=(by omega);have:=YL 24 this;omega)]
   rw [Yc hlt]
  refine ⟨((k:Int) + 1,r.take (k + 1)),?_,⟨rfl,k + 1,hlt,by push_cast;rfl⟩,by simp;omega⟩
  rw [ZC (show (k:Int) < r.length by omega),cond_true,at?_nat hlt]
  simp only [Y0,hcp,hap];rw [Z1 (show _ by omega)]
 ·right
  have:k = r.length:=by omega
  subst this;rw [ZB (show ¬ ((r.length:Int) < r.length) by omega),cond_false,Yg]
theorem core_b0_eq {f:Form} (hl:Lim f) (hs:Shape f) {d:Int} (hd:1≤d) (hdn:d ∣ f.Count) (h0:0 < f.Count) :
  (Good f d∧Zx.b0 f ([],0,0) d = some ((f.Core.take d.toNat,f.Period / (f.Count / d),d),1))∨(¬ Good f d∧Zx.b0 f ([],0,0) d = some (([],0,0),0)):=by
 have hle:d≤f.Count:=Y13 h0 hdn
 have hcl:(f.Core.length:Int) < 4611686018427387904:=Z24 (b:=23) hl.core
 have hcnt:=hs.count
 have hm:0 < f.Count / d:=Y0v h0 (by omega) hdn
 have hmle:f.Count / d≤f.Count:=Y0H _ (by omega)
 have htd:f.Count.tdiv d = f.Count / d:=Y08 (by omega)
 have hq:0≤f.Period / (f.Count / d)∧f.Period / (f.Count / d)≤1099511627776:=by
  have h1:=hs.per
  have h2:f.Period / (f.Count / d)≤f.Period:=Y0H _ h1.1
  have h3:0≤f.Period / (f.Count / d):=Y0e h1.1 (by omega)
  omega
 have hfl:Z19 f.Period (w64 (f.Count.tdiv d)) = some (f.Period / (f.Count / d),f.Period % (f.Count / d),0):=by
  rw [htd,Z1 (show _ by omega),Z2v hl.period (by unfold In64;omega),Z4I hm]
 unfold Zx.b0
 rw [nz?_ok (by omega),hfl]
 simp only [Y0]
 by_cases hr:f.Period % (f.Count / d) = 0
 ·rw [Z4d hr,cond_false];obtain ⟨r,h1,h2⟩:=canon_turn_eq hl hs hd hle hq
  rw [h1];cases r with
  | true =>
   left
   refine ⟨⟨hd,hdn,hr,h2.1 rfl⟩,?_⟩;have hcut:cut? f.Core 0 d = some (f.Core.take d.toNat):=by
    unfold cut?;rw [if_pos ⟨by omega,by omega,by omega⟩]
    rfl
   simp only [Y0,YQ,cond_false,hcut];have:=copy_loop (x4:=f.Core.take d.toNat) (by have:=hl.core;simp only [YT];have h:=YL 24 (Nat.min_le_right d.toNat f.Core.length);omega) (fun l hl' => (hl.sets l (Yo hl')).1)
   rw [this]
   rfl
  | false =>
   right
   exact ⟨fun g => (by have:=h2.2 g.turn;cases this),rfl⟩
 ·right
  refine ⟨fun g => hr g.rest,?_⟩
  rw [Z78 hr]
  rfl
theorem least_good {f:Form} (h0:0 < f.Count):∃ d,Good f d∧∀ d',Good f d'→d≤d':=by
 have:∃ n:Nat,Good f n:=⟨f.Count.toNat,by rw [Y0T (by omega)];exact good_self h0⟩
 obtain ⟨n,hn⟩:=this
 induction n using Nat.strongRecOn with
 | _ n ih =>
  by_cases h:∃ m:Nat,m < n∧Good f m
  ·obtain ⟨m,h1,h2⟩:=h
   exact ih m h1 h2
  ·refine ⟨n,hn,fun d' hd' => ?_⟩
   apply Classical.byContradiction;intro hlt;have:=hd'.pos
   exact h ⟨d'.toNat,by omega,by rw [Y0T (by omega)];exact hd'⟩
theorem canon_bare_eq {f:Form} (hl:Lim f):Z3b f = Z3F f:=by
 unfold Z3b Z3F
 rfl
theorem canon_core_eq {f:Form} (hl:Lim f) (hs:Shape f):(Bare f∧Zx f = some (Form.mk 0 0 [] [])) ∨
  (¬ Bare f∧0 < f.Count∧∃ d,Good f d∧(∀ d',Good f d'→d≤d')∧Zx f = some (Form.mk (f.Period / (f.Count / d)) d (f.Core.take d.toNat) [])):=by
 have hcl:(f.Core.length:Int) < 4611686018427387904:=Z24 (b:=23) hl.core
 have hcnt:=hs.count
 obtain ⟨b,h1,h2⟩:=Z6u hl
 unfold Zx
 rw [canon_bare_eq hl,h1]
 cases b with
 | true => exact .inl ⟨h2.1 rfl,rfl⟩
 | false =>
  right
  have hnb:¬ Bare f:=fun h => by have:=h2.2 h;cases this
  have h0:0 < f.Count:=by
   rcases Nat.eq_zero_or_pos f.Core.length with h | h
   ·exact absurd (fun l hl' => by rw [List.length_eq_zero_iff.1 h] at hl';cases hl') hnb
   ·omega
  obtain ⟨d,hg,hmin⟩:=least_good h0
  refine ⟨hnb,h0,d,hg,hmin,?_⟩;have hdn:d≤f.Count:=Y13 h0 hg.dvd
  have hd1:=hg.pos
  have hloop:loopO (Z05.s0 f.Count (Z2w (Zx.b0 f))) (1,(([],0,0),0)) = some (.ret ((f.Core.take d.toNat,f.Period / (f.Count / d),d),1)):=by
   refine Z0s (I:=fun s r => r = .ret ((f.Core.take d.toNat,f.Period / (f.Count / d),d),1)∧∃ k:Int,1≤k∧k≤d∧s = (k,(([],0,0),0))) (fun s => (d - s.1).toNat) ?_ ⟨rfl,1,by omega,hd1,rfl⟩
   rintro s r ⟨rfl,k,k1,k2,rfl⟩;unfold Z05.s0;rw [ZC (show k≤f.Count by omega),cond_true,nz?_ok (by omega)]
   simp only [Y0]
   by_cases hkd:k ∣ f.Count
   ·rw [Z6O (show f.Count.tmod k = 0 from Int.tmod_eq_zero_of_dvd hkd),cond_true]
    rcases core_b0_eq hl hs k1 hkd h0 with ⟨g,e⟩ | ⟨g,e⟩
    ·have:k = d:=by have:=hmin k g;omega
     subst this
     right
     simp only [Z2w,if_true,e,YA,Y0]
     rfl
    ·left
     have hne:k ≠ d:=fun h => g (h ▸ hg)
     refine ⟨(k + 1,(([],0,0),0)),?_,⟨trivial,k + 1,by omega,by omega,rfl⟩,by simp;omega⟩
     simp only [Z2w,if_true,e,YA,Y0];rw [Z1 (show _ by omega)]
     rfl
   ·left
    have hne:k ≠ d:=fun h => hkd (h ▸ hg.dvd)
    refine ⟨(k + 1,(([],0,0),0)),?_,⟨trivial,k + 1,by omega,by omega,rfl⟩,by simp;omega⟩
    rw [Z3L (fun h => hkd (Int.dvd_of_tmod_eq_zero h)),cond_false]
    simp only [Y0,cond_false];rw [Z1 (show _ by omega)]
  unfold Z05;rw [hloop]
  rfl
end Go.Dn

namespace Go.Dn
open Go
def Turn (h:Int→List Span) (d q:Int):Prop:=∀ i,h (i + d) = (h i).map (ZY q)
theorem Turn.neg {h:Int→List Span} {d q:Int} (t:Turn h d q):Turn h (-d) (-q):=fun i => by
 have:=t (i + -d)
 rw [show i + -d + d = i by omega] at this
 rw [this,Z1X,Int.add_right_neg,Z5Q]
theorem Turn.add {h:Int→List Span} {d q d' q':Int} (t:Turn h d q) (t':Turn h d' q'):Turn h (d + d') (q + q'):=fun i => by
 rw [show i + (d + d') = (i + d) + d' by omega,t',t,Z1X]
theorem Turn.zero (h:Int→List Span):Turn h 0 0:=fun i => by rw [Int.add_zero,Z5Q]
theorem Turn.nat {h:Int→List Span} {d q:Int} (t:Turn h d q):∀ k:Nat,Turn h (k * d) (k * q)
 | 0 => by simpa using Turn.zero h
 | k + 1 => by
  have:=(Turn.nat t k).add t
  push_cast
  rw [Y0G,Y19,Y0G,Y19];exact this
theorem Turn.mul {h:Int→List Span} {d q:Int} (t:Turn h d q) (k:Int):Turn h (k * d) (k * q):=by
 rcases Int.natAbs_eq k with e | e
 ·rw [e];exact t.nat _
 ·rw [e,Int.neg_mul,Int.neg_mul];exact (t.nat _).neg
theorem Turn.agree {h h':Int→List Span} {d q a:Int} (t:Turn h d q) (t':Turn h' d q) (hd:0 < d) (he:∀ i,a≤i→i < a + d→h i = h' i):h = h':=by
 funext i
 have e:i = ((i - a) % d + a) + (i - a) / d * d:=by
  have:=Yw (i - a) d
  rw [Yt] at this;omega
 have h1:=Ym (i - a) (show d ≠ 0 by omega)
 have h2:=Ys (i - a) hd
 rw [e,t.mul,t'.mul,he _ (by omega) (by omega)]
noncomputable def csz (f:Form) (i:Int):List Span:=if f.Count = 0 then [] else cs f i
theorem Z6x {f:Form} (h0:0 < f.Count):csz f = cs f:=by funext i;exact if_neg (by omega)
theorem ZAQ {f:Form} {i:Int} (h:¬ Z12 f i):ZH f i = csz f i:=by
 unfold csz
 by_cases h0:f.Count = 0
 ·rw [if_pos h0,Z2M h h0]
 ·rw [if_neg h0,Z2I h h0];rfl
theorem csz_bare {f:Form} (hs:Shape f) (hb:Bare f) (i:Int):csz f i = []:=by
 unfold csz
 by_cases h0:f.Count = 0
 ·rw [if_pos h0]
 ·rw [if_neg h0];unfold cs;rw [hb _ (Z0H hs h0 i).2];rfl
def Z3N (f c:Form):Prop:=(Bare f∧c = Form.mk 0 0 [] [])∨(¬ Bare f∧0 < f.Count∧∃ d,Good f d∧(∀ d',Good f d'→d≤d')∧c = Form.mk (f.Period / (f.Count / d)) d (f.Core.take d.toNat) [])
theorem canon_core_ok {f:Form} (hl:Lim f) (hs:Shape f):∃ c,Zx f = some c∧Z3N f c:=by
 rcases canon_core_eq hl hs with ⟨h1,h2⟩ | ⟨h1,h2,d,h3,h4,h5⟩
 ·exact ⟨_,h2,.inl ⟨h1,rfl⟩⟩
 ·exact ⟨_,h5,.inr ⟨h1,h2,d,h3,h4,rfl⟩⟩
theorem Z3N.odd {f c:Form} (h:Z3N f c):c.Odd = []:=by
 rcases h with ⟨_,rfl⟩ | ⟨_,_,d,_,_,rfl⟩ <;> rfl
theorem Z3N.csz {f c:Form} (hs:Shape f) (h:Z3N f c):csz c = csz f:=by
 rcases h with ⟨hb,rfl⟩ | ⟨hb,h0,d,hg,_,rfl⟩
 ·funext i;rw [csz_bare hs hb];rfl
 ·have hd:=hg.pos
  have hdn:d≤f.Count:=Y13 h0 hg.dvd
  have hcnt:=hs.count
  rw [Z6x h0,Z6x (show 0 < (Form.mk (f.Period / (f.Count / d)) d (f.Core.take d.toNat) []).Count by show 0 < d;omega)]
  refine Turn.agree (a:=0) (d:=d) (q:=f.Period / (f.Count / d)) (Z8B (f:=Form.mk (f.Period / (f.Count / d)) d (f.Core.take d.toNat) []) (show d ≠ 0 by omega)) hg.turn (by omega) (fun i i0 i1 => ?_)
  rw [Z6Y i0 (show i < d by omega),Z6Y i0 (by omega)]
  show (f.Core.take d.toNat).getD i.toNat [] = _
  rw [Yf,Yf,List.getElem?_take_of_lt (by omega)]
theorem Z3N.shape {f c:Form} (hs:Shape f) (h:Z3N f c):Shape c:=by
 rcases h with ⟨hb,rfl⟩ | ⟨hb,h0,d,hg,_,rfl⟩
 ·exact ⟨rfl,by simp,by simp,by simp,by simp,fun j k a b _ h => by simp at h⟩
 ·have hd:=hg.pos
  have hdn:d≤f.Count:=Y13 h0 hg.dvd
  have hcnt:=hs.count
  have hm:0 < f.Count / d:=Y0v h0 (by omega) hg.dvd
  have hp:0 < f.Period:=by
   have:=hs.per;have:=hs.zero
   rcases Y1A 0 f.Period with h | h
   ·exact h
   ·have:f.Period = 0:=by omega
    have:=hs.zero.2 this
    omega
  have hq:0 < f.Period / (f.Count / d):=Y0v hp (by omega) (Y06 hg.rest)
  have hq2:f.Period / (f.Count / d)≤f.Period:=Y0H _ (by omega)
  refine ⟨?_,?_,?_,?_,by simp,fun j k a b _ h => by simp at h⟩
  ·simp only [YT];omega
  ·simp only;omega
  ·simp only;have:=hs.per;omega
  ·intro l hl';exact hs.core l (Yo hl')
theorem Z3N.lim {f c:Form} (hl:Lim f) (hs:Shape f) (h:Z3N f c):Lim c:=by
 have hsc:=h.shape hs
 have hn:c.Core.length≤f.Core.length∧∀ l ∈ c.Core,l ∈ f.Core:=by
  rcases h with ⟨hb,rfl⟩ | ⟨hb,h0,d,hg,_,rfl⟩
  ·exact ⟨YS _,fun l hl' => by cases hl'⟩
  ·exact ⟨by simp only [YT];omega,fun l hl' => Yo hl'⟩
 have hc:=hl.core
 have h24:=YL 24 hn.1
 have hp:=hsc.per
 have hcnt:=hsc.count
 have hcl:(f.Core.length:Int) < 4611686018427387904:=Z24 (b:=23) hl.core
 exact ⟨by omega,fun l hl' => hl.sets l (hn.2 l hl'),by rw [h.odd];simp [Z0g],by rw [h.odd];simp,by unfold In64;omega,by unfold In64;omega⟩
theorem Z3N.ZH {f c:Form} (hs:Shape f) (h:Z3N f c) (i:Int):ZH c i = Go.Dn.csz f i:=by
 rw [ZAQ (by rintro ⟨g,hg,_⟩;rw [h.odd] at hg;cases hg),h.csz hs]
theorem ZBp {f c:Form} (hl:Lim f) (hs:Shape f) (h:Z3N f c) {g:Granule} (hg:g ∈ f.Odd):∃ r,Z3B c g = some r∧(r = true ↔ csz f g.Index = g.Ticks):=by
 obtain ⟨hr,ht⟩:=hs.odd g hg
 have hlc:=h.lim hl hs
 have hsc:=h.shape hs
 unfold Z3B
 rw [Z1I hlc hsc (Z0M ht)]
 by_cases hf:fits c g.Index
 ·rw [if_pos ⟨ht,hf⟩];obtain ⟨r,h1,h2⟩:=spans_Same_eq (a:=Go.Dn.ZH c g.Index) (b:=g.Ticks) (Z8K hlc hsc _)
  refine ⟨r,?_,?_⟩
  ·simp only [Y0];rw [Z6O rfl,cond_true,h1];rfl
  ·rw [h2,h.ZH hs]
 ·rw [if_neg (fun h' => hf h'.2)]
  refine ⟨false,rfl,⟨(fun h' => nomatch h'),fun e => absurd (fun s hs' => ?_) hf⟩⟩
  rw [h.ZH hs,e] at hs';obtain ⟨k,hk⟩:=YB hs'
  have:=Z3X.1 hr k s hk
  exact ⟨this.1,this.2.1⟩
open Classical in
noncomputable def oddly (f:Form) (g:Granule):Bool:=decide (¬ csz f g.Index = g.Ticks)
noncomputable def canonF (f c:Form):Form:=Form.mk c.Period c.Count c.Core (f.Odd.filter (oddly f))
theorem Z8g {f:Form} (hl:Lim f) (hs:Shape f):∃ c,Z3N f c∧Zt f = some (canonF f c):=by
 obtain ⟨c,h1,hc⟩:=canon_core_ok hl hs
 refine ⟨c,hc,?_⟩
 unfold Zt
 rw [h1]
 simp only [Y0]
 have hol:(f.Odd.length:Int) < 4611686018427387904:=Z24 (b:=31) hl.odd
 have hr:=Z0g
 have hro:=Z1F
 have:loopO (Zt.s0 f c) (0,[]) = some (f.Odd.filter (oddly f)):=by
  refine Z0s (I:=fun s r => r = f.Odd.filter (oddly f)∧∃ k:Nat,k≤f.Odd.length∧s = ((k:Int),(f.Odd.take k).filter (oddly f))) (fun s => f.Odd.length - s.1.toNat) ?_ ⟨rfl,0,YS _,rfl⟩
  rintro s r ⟨rfl,k,hk,rfl⟩;unfold Zt.s0
  by_cases hlt:k < f.Odd.length
  ·left
   have hmem:=YE hlt
   obtain ⟨r,p1,p2⟩:=ZBp hl hs hc hmem
   have htk:f.Odd.take (k + 1) = f.Odd.take k ++ [f.Odd[k]]:=(Yc hlt).symm
   have hlen:=(hl.ticks _ hmem).2.1
   unfold Len at hlen;refine ⟨((k:Int) + 1,(f.Odd.take (k + 1)).filter (oddly f)),?_,⟨rfl,k + 1,hlt,by push_cast;rfl⟩,by simp;omega⟩
   rw [ZC (show (k:Int) < f.Odd.length by omega),cond_true,at?_nat hlt]
   simp only [Y0,p1];rw [Z1 (show _ by omega),htk,Y0Z]
   cases r with
   | true =>
    have:oddly f f.Odd[k] = false:=by unfold oddly;rw [decide_eq_false_iff_not];exact fun h => h (p2.1 rfl)
    simp only [YQ,cond_false,Y0,List.filter_cons,this,Y9,if_false,List.filter_nil,YP]
   | false =>
    have:oddly f f.Odd[k] = true:=by unfold oddly;rw [decide_eq_true_iff];exact fun h => by have:=p2.2 h;cases this
    have hcp:clone? 16 f.Odd[k].Ticks = some f.Odd[k].Ticks:=by unfold clone?;rw [if_pos (by omega)]
    have hfl:((f.Odd.take k).filter (oddly f)).length≤k:=by
     have:=Y0c (oddly f) (f.Odd.take k)
     simp only [YT] at this;omega
    have hap:app? 32 ((f.Odd.take k).filter (oddly f)) [Granule.mk f.Odd[k].Index f.Odd[k].Ticks] = some ((f.Odd.take k).filter (oddly f) ++ [f.Odd[k]]):=by
     rw [app?_ok (by simp only [Yj,YX];have h3:=hl.odd;have:=YL 32 (show ((f.Odd.take k).filter (oddly f)).length + 1≤f.Odd.length by omega);omega)]
    simp only [Yq,cond_true,Y0,hcp,hap,List.filter_cons,this,if_true,List.filter_nil]
  ·right
   have:k = f.Odd.length:=by omega
   subst this;rw [ZB (show ¬ ((f.Odd.length:Int) < f.Odd.length) by omega),cond_false,Yg]
 rw [this]
 rfl
end Go.Dn

namespace Go.Dn
open Go
theorem ext_of {α:Type} {a b:List α} (hl:a.length = b.length) (h:∀ (k:Nat) x y,a[k]? = some x→b[k]? = some y→x = y):a = b:=by
 apply List.ext_getElem hl
 intro k h1 h2
 exact h k _ _ (Y2 h1) (Y2 h2)
theorem granule_ext {x y:Granule}:x = y ↔ x.Index = y.Index∧x.Ticks = y.Ticks:=by
 obtain ⟨a,b⟩:=x
 obtain ⟨c,d⟩:=y
 simp
theorem form_ext {a b:Form}:a = b ↔ a.Period = b.Period∧a.Count = b.Count∧a.Core = b.Core∧a.Odd = b.Odd:=by
 obtain ⟨a1,a2,a3,a4⟩:=a
 obtain ⟨b1,b2,b3,b4⟩:=b
 simp
theorem alike_eq {a b:List Span} (ha:Len a):∃ r,Zg a b = some r∧(r = true ↔ a = b):=by
 have hl:(a.length:Int) < 9223372036854775807:=by have:=Z0g;unfold Len at ha;omega
 unfold Zg
 by_cases hlen:a.length = b.length
 ·rw [Z4d (by omega),cond_false]
  rcases ZAF (a:=a) (b:=b) (step:=Zg.s0 a b) (eq:=fun x y => some (decide (y = x))) (fun p q => p = q) hl hlen (fun k p q hp hq => ⟨_,rfl,by rw [decide_eq_true_iff];exact ⟨Eq.symm,Eq.symm⟩⟩) (fun s => by
   unfold Zg.s0;simp only [span_beq]
   rfl) with ⟨h1,h2⟩ | ⟨h1,h2⟩
  ·rw [h1];exact ⟨true,rfl,⟨fun _ => ext_of hlen h2,fun _ => rfl⟩⟩
  ·rw [h1];exact ⟨false,rfl,⟨(fun h => nomatch h),fun e => absurd (fun k p q hp hq => by rw [e,hq] at hp;exact (Option.some.inj hp).symm) h2⟩⟩
 ·rw [Z78 (by omega),cond_true]
  exact ⟨false,rfl,⟨(fun h => nomatch h),fun e => absurd (congrArg List.length e) hlen⟩⟩
theorem alikeForms_eq {a b:Form} (hl:Lim a):∃ r,ZA a b = some r∧(r = true ↔ a = b):=by
 have hc:(a.Core.length:Int) < 4611686018427387904:=Z24 (b:=23) hl.core
 have ho:(a.Odd.length:Int) < 4611686018427387904:=Z24 (b:=31) hl.odd
 unfold ZA
 rw [form_ext]
 by_cases hp:a.Period = b.Period∧a.Count = b.Count∧a.Core.length = b.Core.length∧a.Odd.length = b.Odd.length
 ·obtain ⟨p1,p2,p3,p4⟩:=hp
  rw [Z4d p1,Z4d p2,Z4d (show (a.Core.length:Int) = b.Core.length by omega),Z4d (show (a.Odd.length:Int) = b.Odd.length by omega)]
  simp only [Y0o,cond_false]
  rcases ZAF (a:=a.Core) (b:=b.Core) (step:=ZA.s0 a b) (eq:=Zg) (fun p q => p = q) (by omega) p3 (fun k p q hp hq => alike_eq (hl.sets p (Y6 hp)).1) (fun s => rfl) with ⟨h1,h2⟩ | ⟨h1,h2⟩
  ·rw [h1];simp only [Y0,Jx.elim];have ec:=ext_of p3 h2
   rcases ZAF (a:=a.Odd) (b:=b.Odd) (step:=ZA.s1 a b) (eq:=fun x y => bif x.Index != y.Index then some false else Zg x.Ticks y.Ticks) (fun p q => p = q) (by omega) p4 (fun k p q hp hq => by
    rw [granule_ext]
    by_cases hi:p.Index = q.Index
    ·rw [Z4d hi,cond_false];obtain ⟨r,q1,q2⟩:=alike_eq (b:=q.Ticks) (hl.ticks p (Y6 hp)).2.1
     exact ⟨r,q1,by rw [q2];exact ⟨fun e => ⟨hi,e⟩,fun e => e.2⟩⟩
    ·rw [Z78 hi,cond_true];exact ⟨false,rfl,⟨(fun h => nomatch h),fun e => absurd e.1 hi⟩⟩) (fun s => by
    unfold ZA.s1
    rcases e1:at? a.Odd s with _ | x
    ·rfl
    rcases e2:at? b.Odd s with _ | y
    ·rfl
    simp only [Y0];cases x.Index != y.Index with
    | true => rfl
    | false =>
     simp only [cond_false]
     rcases Zg x.Ticks y.Ticks with _ | r
     ·rfl
     ·rfl) with ⟨h3,h4⟩ | ⟨h3,h4⟩
   ·rw [h3];exact ⟨true,rfl,⟨fun _ => ⟨p1,p2,ec,ext_of p4 h4⟩,fun _ => rfl⟩⟩
   ·rw [h3];exact ⟨false,rfl,⟨(fun h => nomatch h),fun e => absurd (fun k p q hp hq => by rw [e.2.2.2,hq] at hp;exact (Option.some.inj hp).symm) h4⟩⟩
  ·rw [h1];exact ⟨false,rfl,⟨(fun h => nomatch h),fun e => absurd (fun k p q hp hq => by rw [e.2.2.1,hq] at hp;exact (Option.some.inj hp).symm) h2⟩⟩
 ·refine ⟨false,?_,⟨(fun h => nomatch h),fun e => absurd ⟨e.1,e.2.1,by rw [e.2.2.1],by rw [e.2.2.2]⟩ hp⟩⟩
  have:((((a.Period != b.Period) || (a.Count != b.Count)) || ((a.Core.length:Int) != (b.Core.length:Int))) || ((a.Odd.length:Int) != (b.Odd.length:Int))) = true:=by
   simp only [Yb,bne_iff_ne,ne_eq];apply Classical.byContradiction;intro hn;apply hp;refine ⟨?_,?_,?_,?_⟩ <;> apply Classical.byContradiction <;> intro h <;> apply hn
   ·exact .inl (.inl (.inl h))
   ·exact .inl (.inl (.inr h))
   ·exact .inl (.inr (by omega))
   ·exact .inr (by omega)
  rw [this];rfl
end Go.Dn

namespace Go.Dn
open Go
theorem Z9z {l:List Granule}:Inc l ↔ l.Pairwise (fun a b => a.Index < b.Index):=by
 rw [Y0N]
 constructor
 ·intro h i j hi hj hij;exact h i j _ _ hij (Y2 hi) (Y2 hj)
 ·intro h j k a b hjk ha hb;obtain ⟨h1,rfl⟩:=List.getElem?_eq_some_iff.1 ha
  obtain ⟨h2,rfl⟩:=List.getElem?_eq_some_iff.1 hb
  exact h j k h1 h2 hjk
theorem Inc.filter {l:List Granule} (h:Inc l) (p:Granule→Bool):Inc (l.filter p):=Z9z.2 ((Z9z.1 h).filter p)
theorem canonF_mem {f c:Form} {g:Granule}:g ∈ (canonF f c).Odd ↔ g ∈ f.Odd∧oddly f g = true:=List.mem_filter
theorem canonF_lim {f c:Form} (hl:Lim f) (hs:Shape f) (h:Z3N f c):Lim (canonF f c):=by
 have:=h.lim hl hs
 refine ⟨this.core,this.sets,?_,fun g hg => hl.ticks g (canonF_mem.1 hg).1,this.count,this.period⟩
 have h1:(canonF f c).Odd.length≤f.Odd.length:=Y0c _ _
 have:=hl.odd
 have:=YL 32 h1
 omega
theorem csz_order {f:Form} (hs:Shape f) (ht:Turns f) {i k:Int} (hik:i < k) (ni:csz f i ≠ []) (nk:csz f k ≠ []):lstT (csz f i) < fstT (csz f k):=by
 have h0:f.Count ≠ 0:=fun h => ni (by unfold csz;rw [if_pos h])
 unfold csz at ni nk ⊢
 rw [if_neg h0] at ni nk ⊢
 rw [if_neg h0]
 have n1:Z0f f i ≠ []:=fun h => ni (by unfold cs;rw [h];rfl)
 have n2:Z0f f k ≠ []:=fun h => nk (by unfold cs;rw [h];rfl)
 have:=ZBs hs ht h0 hik n1 n2
 unfold cs
 rw [(Z8G _ n1).1,(Z8G _ n2).2]
 exact this
end Go.Dn

namespace Go.Dn
open Go
end Go.Dn

namespace Go.Dn
open Go
theorem shift_ne {l:List Span} (hn:l ≠ []) {a b:Int} (h:l.map (ZY a) = l.map (ZY b)):a = b:=by
 cases l with
 | nil => exact absurd rfl hn
 | cons s l =>
  simp only [Y0V,List.cons.injEq,ZY,Span.mk.injEq] at h;omega
theorem Turn.uniq {h:Int→List Span} {d q q':Int} (t:Turn h d q) (t':Turn h d q') {i:Int} (hn:h i ≠ []):q = q':=shift_ne hn ((t i).symm.trans (t' i))
theorem ZCM {f:Form} (h0:0 < f.Count):Turn (cs f) f.Count f.Period:=Z8B (by omega)
theorem cs_some {f:Form} (hs:Shape f) (hb:¬ Bare f) (h0:0 < f.Count) (a:Int):∃ i,a≤i∧i < a + f.Count∧cs f i ≠ []:=by
 apply Classical.byContradiction
 intro hn
 apply hb
 have hz:cs f = fun _ => []:=Turn.agree (a:=a) (ZCM h0) (fun i => rfl) h0 (fun i i0 i1 => Classical.byContradiction fun h => hn ⟨i,i0,i1,h⟩)
 intro l hl
 obtain ⟨k,hk⟩:=YB hl
 have hkl:=(List.getElem?_eq_some_iff.1 hk).1
 have hcnt:=hs.count
 have:=congrFun hz (k:Int)
 rw [Z6Y (by omega) (by omega),Yf,Y0J,hk] at this
 exact this
def NearF (f:Form) (m:Int):Prop:=∀ g ∈ f.Odd,-m≤g.Index∧g.Index≤m
end Go.Dn

namespace Go.Dn
open Go
end Go.Dn

namespace Go.Dn
open Go
theorem pigeon:∀ (l:List Int) (c:Nat→Int),(∀ a b,c a = c b→a = b)→∃ k,k≤l.length∧c k ∉ l
 | [],c,_ => ⟨0,YC _,by simp⟩
 | x :: l,c,hc => by
  by_cases h:∃ k0,c k0 = x
  ·obtain ⟨k0,rfl⟩:=h
   obtain ⟨k,h1,h2⟩:=pigeon l (fun k => if k < k0 then c k else c (k + 1)) (fun a b hab => by
    split at hab <;> split at hab <;> have:=hc _ _ hab <;> omega)
   split at h2
   ·rename_i hk;refine ⟨k,by simp;omega,?_⟩
    rw [Y12];rintro (h | h)
    ·have:=hc _ _ h;omega
    ·exact h2 h
   ·rename_i hk;refine ⟨k + 1,by simp;omega,?_⟩
    rw [Y12];rintro (h | h)
    ·have:=hc _ _ h;omega
    ·exact h2 h
  ·obtain ⟨k,h1,h2⟩:=pigeon l c hc
   refine ⟨k,by simp;omega,?_⟩
   rw [Y12];rintro (h' | h')
   ·exact h ⟨k,h'⟩
   ·exact h2 h'
theorem chain_dn {f:Form} (hl:Lim f) (hr:RightF f):∀ (n:Nat) (i j0:Int),(i - j0).toNat = n→j0 < i→Z3 i→Z3 j0→Z12 f i→¬ Z12 f j0→ZH f j0 ≠ [] →
  ∃ j,j0≤j∧j < i∧Z3 j∧¬ Z12 f j∧ZH f j ≠ []∧fits f j:=by
 have hs:=hr.shape
 intro n
 induction n using Nat.strongRecOn with
 | _ n ih =>
  intro i j0 hn hji ti tj oi oj nj;obtain ⟨g,hg,rfl⟩:=oi
  obtain ⟨j,hj,hij⟩:=ZCI hl hs (Z0M ti) hji tj nj
  obtain ⟨hi',_,hab⟩:=Z1Y hl hs (Z0M ti)
  obtain ⟨_,hlo,_,_⟩:=hr.beside g hg _ _ hj hab
  obtain ⟨fj,_⟩:=hlo rfl
  rcases hj with ⟨_,j1,j2,j3,j4⟩ | ⟨h,_⟩
  ·simp only at fj j1 j2 j3
   by_cases o:Z12 f j
   ·have:j ≠ j0:=fun e => oj (e ▸ o)
    obtain ⟨j',q1,q2,q3⟩:=ih (j - j0).toNat (by omega) j j0 rfl (by omega) j2 tj o oj nj
    exact ⟨j',q1,by omega,q3⟩
   ·exact ⟨j,hij,j1,j2,o,j3,fj⟩
  ·cases h
theorem chain_up {f:Form} (hl:Lim f) (hr:RightF f):∀ (n:Nat) (i j0:Int),(j0 - i).toNat = n→i < j0→Z3 i→Z3 j0→Z12 f i→¬ Z12 f j0→ZH f j0 ≠ [] →
  ∃ j,i < j∧j≤j0∧Z3 j∧¬ Z12 f j∧ZH f j ≠ []∧fits f j:=by
 have hs:=hr.shape
 intro n
 induction n using Nat.strongRecOn with
 | _ n ih =>
  intro i j0 hn hji ti tj oi oj nj;obtain ⟨g,hg,rfl⟩:=oi
  obtain ⟨j,hj,hij⟩:=ZC6 hl hs (Z0M ti) hji tj nj
  obtain ⟨lo',_,hun⟩:=Z2U hl hs (Z0M ti)
  obtain ⟨_,_,hhi,_⟩:=hr.beside g hg _ _ hun hj
  obtain ⟨fj,_⟩:=hhi rfl
  rcases hj with ⟨_,j1,j2,j3,j4⟩ | ⟨h,_⟩
  ·simp only at fj j1 j2 j3
   by_cases o:Z12 f j
   ·have:j ≠ j0:=fun e => oj (e ▸ o)
    obtain ⟨j',q1,q2,q3⟩:=ih (j0 - j).toNat (by omega) j j0 rfl (by omega) j2 tj o oj nj
    exact ⟨j',by omega,q2,q3⟩
   ·exact ⟨j,j1,hij,j2,o,j3,fj⟩
  ·cases h
theorem free_core {f:Form} (hs:Shape f) (hb:¬ Bare f) (h0:0 < f.Count) (ho:f.Odd.length≤8) (a:Int):∃ j,a≤j∧j < a + f.Count * 9∧¬ Z12 f j∧ZH f j ≠ []:=by
 obtain ⟨i,h1,h2,h3⟩:=cs_some hs hb h0 a
 obtain ⟨k,hk,hn⟩:=pigeon (f.Odd.map (·.Index)) (fun k => i + f.Count * k) (fun a b hab => by
  have h4:f.Count * (a:Int) = f.Count * b:=by omega
  have:=Int.eq_of_mul_eq_mul_left (by omega) h4
  omega)
 rw [YJ] at hk
 have hk9:(k:Int) + 1≤9:=by omega
 have hkc:f.Count * ((k:Int) + 1)≤f.Count * 9:=YU hk9 (by omega)
 rw [Y18,Int.mul_one] at hkc
 have hkn:0≤f.Count * (k:Int):=Yr (by omega) (by omega)
 have hno:¬ Z12 f (i + f.Count * k):=by
  rintro ⟨g,hg,he⟩;exact hn (List.mem_map.2 ⟨g,hg,he⟩)
 refine ⟨i + f.Count * k,by omega,by omega,hno,?_⟩
 rw [ZAQ hno,Z6x h0,Z97 (by omega)]
 intro h
 rw [List.map_eq_nil_iff] at h
 exact h3 h
theorem odd_near {f:Form} (hl:Lim f) (hr:RightF f) (hb:¬ Bare f) (h0:0 < f.Count) (hc:f.Count≤12) (ho:f.Odd.length≤8) {i:Int} (oi:Z12 f i) (ti:Z3 i) :
  ∃ j,i - 108≤j∧j≤i + 108∧¬ Z12 f j∧ZH f j ≠ []∧fits f j:=by
 have hs:=hr.shape
 have hc9:f.Count * 9≤108:=by omega
 unfold Z3 at ti
 by_cases hlow:0≤i
 ·obtain ⟨j0,h1,h2,h3,h4⟩:=free_core hs hb h0 ho (i - f.Count * 9)
  obtain ⟨j,q1,q2,q3,q4,q5,q6⟩:=chain_dn hl hr _ i j0 rfl (by omega) (by unfold Z3;omega) (by unfold Z3;omega) oi h3 h4
  exact ⟨j,by omega,by omega,q4,q5,q6⟩
 ·obtain ⟨j0,h1,h2,h3,h4⟩:=free_core hs hb h0 ho (i + 1)
  obtain ⟨j,q1,q2,q3,q4,q5,q6⟩:=chain_up hl hr _ i j0 rfl (by omega) (by unfold Z3;omega) (by unfold Z3;omega) oi h3 h4
  exact ⟨j,by omega,by omega,q4,q5,q6⟩
theorem perAt_fits {f:Form} (hs:Shape f) (h0:0 < f.Count) {j:Int} (hn:¬ Z12 f j) (ne:ZH f j ≠ []) (hf:fits f j) : -2199023255552≤Z17 f j∧Z17 f j≤2199023255552:=by
 unfold fits at hf
 rw [Z2I hn (by omega)] at hf ne
 obtain ⟨s,l,hsl⟩ : ∃ s l,Z0f f j = s :: l:=by
  cases h:Z0f f j with
  | nil => rw [h] at ne;exact absurd rfl ne
  | cons s l => exact ⟨s,l,rfl⟩
 have hmem:s ∈ Z0f f j:=by rw [hsl];exact YK
 have h1:=hf (ZY (Z17 f j) s) (List.mem_map.2 ⟨s,hmem,rfl⟩)
 have h2:=hs.core _ (Z0H hs (by omega) j).2
 obtain ⟨k,hk⟩:=YB hmem
 have h3:=Z3X.1 h2 k s hk
 unfold Z2H at h3
 obtain ⟨h3,_⟩:=h3
 obtain ⟨h1,_⟩:=h1
 unfold Z3 ZY at *
 simp only at h1
 omega
theorem ediv_near {n a b m:Int} (hn:0 < n) (h1:a - m≤b) (h2:b≤a + m) (hm:0≤m):a / n - m≤b / n∧b / n≤a / n + m:=by
 have e1:=Yw a n
 have e2:=Yw b n
 have a1:=Ym a (show n ≠ 0 by omega)
 have b1:=Ym b (show n ≠ 0 by omega)
 have a2:=Ys a hn
 have b2:=Ys b hn
 constructor
 ·apply Classical.byContradiction;intro h;have h3:b / n + m + 1≤a / n:=by omega
  have h4:n * (b / n + m + 1)≤n * (a / n):=YU h3 (by omega)
  have h5:m≤n * m:=by
   have:1 * m≤n * m:=YH (by omega) hm
   omega
  rw [Y18,Y18,Int.mul_one] at h4;omega
 ·apply Classical.byContradiction;intro h;have h3:a / n + m + 1≤b / n:=by omega
  have h4:n * (a / n + m + 1)≤n * (b / n):=YU h3 (by omega)
  have h5:m≤n * m:=by
   have:1 * m≤n * m:=YH (by omega) hm
   omega
  rw [Y18,Y18,Int.mul_one] at h4;omega
theorem perAt_odd {f:Form} (hl:Lim f) (hr:RightF f) (hb:¬ Bare f) (h0:0 < f.Count) (hc:f.Count≤12) (ho:f.Odd.length≤8) {i:Int} (oi:Z12 f i) (ti:Z3 i) :
  -140737488355328≤Z17 f i∧Z17 f i≤140737488355328:=by
 obtain ⟨j,h1,h2,h3,h4,h5⟩:=odd_near hl hr hb h0 hc ho oi ti
 have hp:=perAt_fits hr.shape h0 h3 h4 h5
 have hper:=hr.shape.per
 obtain ⟨q1,q2⟩:=ediv_near (n:=f.Count) (a:=j) (b:=i) (m:=108) h0 (by omega) (by omega) (by omega)
 unfold Z17 at hp ⊢
 have m1:(j / f.Count - 108) * f.Period≤i / f.Count * f.Period:=YH q1 hper.1
 have m2:i / f.Count * f.Period≤(j / f.Count + 108) * f.Period:=YH q2 hper.1
 rw [Int.sub_mul] at m1
 rw [Y0G] at m2
 omega
theorem anew_eq {l:List Span} (hl:Len l):Z2u l = some l:=by
 unfold Z2u new?
 have hr:=Z0g
 have hro:=Z1F
 unfold Len at hl
 rw [if_pos ⟨by omega,by omega⟩]
 simp only [Y0,Y5]
 unfold cpy
 simp
theorem anewForm_eq {f:Form} (hl:Lim f):Zc f = some f:=by
 have hr:=Z0g
 have hro:=Z1F
 have hcl:(f.Core.length:Int) < 4611686018427387904:=Z24 (b:=23) hl.core
 have hol:(f.Odd.length:Int) < 4611686018427387904:=Z24 (b:=31) hl.odd
 have h1:loopO (Zc.s0 f) (0,[]) = some f.Core:=by
  refine Z0s (I:=fun s r => r = f.Core∧∃ k:Nat,k≤f.Core.length∧s = ((k:Int),f.Core.take k)) (fun s => f.Core.length - s.1.toNat) ?_ ⟨rfl,0,YS _,rfl⟩
  rintro s r ⟨rfl,k,hk,rfl⟩;unfold Zc.s0
  by_cases hlt:k < f.Core.length
  ·left
   have htk:f.Core.take (k + 1) = f.Core.take k ++ [f.Core[k]]:=(Yc hlt).symm
   refine ⟨((k:Int) + 1,f.Core.take (k + 1)),?_,⟨rfl,k + 1,hlt,by push_cast;rfl⟩,by simp;omega⟩
   have hc:=hl.core
   rw [ZC (show (k:Int) < f.Core.length by omega),cond_true,at?_nat hlt]
   simp only [Y0,anew_eq (hl.sets _ (YE hlt)).1];rw [app?_ok (by simp only [YT,Yj,YX];omega),Z1 (show _ by omega),htk]
   rfl
  ·right
   have:k = f.Core.length:=by omega
   subst this;rw [ZB (by omega),cond_false,Yg]
 have h2:loopO (Zc.s1 f) (0,[]) = some f.Odd:=by
  refine Z0s (I:=fun s r => r = f.Odd∧∃ k:Nat,k≤f.Odd.length∧s = ((k:Int),f.Odd.take k)) (fun s => f.Odd.length - s.1.toNat) ?_ ⟨rfl,0,YS _,rfl⟩
  rintro s r ⟨rfl,k,hk,rfl⟩;unfold Zc.s1
  by_cases hlt:k < f.Odd.length
  ·left
   have htk:f.Odd.take (k + 1) = f.Odd.take k ++ [f.Odd[k]]:=(Yc hlt).symm
   refine ⟨((k:Int) + 1,f.Odd.take (k + 1)),?_,⟨rfl,k + 1,hlt,by push_cast;rfl⟩,by simp;omega⟩
   have hc:=hl.odd
   rw [ZC (show (k:Int) < f.Odd.length by omega),cond_true,at?_nat hlt]
   simp only [Y0,anew_eq (hl.ticks _ (YE hlt)).2.1];rw [app?_ok (by simp only [YT,Yj,YX];omega),Z1 (show _ by omega),htk]
   rfl
  ·right
   have:k = f.Odd.length:=by omega
   subst this;rw [ZB (by omega),cond_false,Yg]
 unfold Zc
 rw [h1,h2]
 rfl
end Go.Dn

namespace Go.Dn
open Go
theorem Z4Y {a b:Int} (ha:In64 a) (hb:0 < b) (hb2:In64 b):Z1H a b = some (a / b,a % b):=by
 unfold Z1H
 have hb0:b ≠ 0:=by omega
 rw [nz?_ok hb0]
 simp only [Y0]
 have hq:=tdiv_in ha hb0 (by omega)
 have hfd:a.fdiv b = a / b:=(Z41 hb).1
 have hfm:a.fmod b = a % b:=(Z41 hb).2
 by_cases hr:a.tmod b < 0
 ·have h1:a.tmod b ≠ 0:=by omega
  have h2:¬(a.tmod b < 0 ↔ b < 0):=fun h => by have:=h.1 hr;omega
  obtain ⟨e1,e2⟩:=floor_up hb0 h1 h2
  have hq1:=tdiv_in1 ha hb0 h1
  rw [ZC hr,cond_true];have e3:a / b = a.tdiv b - 1:=by rw [← hfd];exact e1
  have e4:a % b = a.tmod b + b:=by rw [← hfm];exact e2
  have hm:=tmod_in (a:=a) hb2 hb0
  have hm2:=Ys a hb
  have hm3:=Ym a hb0
  simp only [Y0];unfold In64 at *
  rw [Z1 (x:=a.tdiv b) (by omega),Z1 (x:=a.tdiv b - 1) (by omega),Z1 (x:=a.tmod b + b) (by omega),e3,e4]
 ·have h2:a.tmod b = 0∨(a.tmod b < 0 ↔ b < 0):=.inr ⟨fun h => absurd h hr,fun h => by omega⟩
  obtain ⟨e1,e2⟩:=ZCR hb0 h2
  rw [ZB hr,cond_false];have e3:a / b = a.tdiv b:=by rw [← hfd];exact e1
  have e4:a % b = a.tmod b:=by rw [← hfm];exact e2
  simp only [Y0];unfold In64 at *
  rw [Z1 (x:=a.tdiv b) (by omega),e3,e4]
theorem ref06_bare_eq {f:Form} (hl:Lim f):∃ b,Z0b f = some b∧(b = true ↔ Bare f):=by
 have hcl:(f.Core.length:Int) < 4611686018427387904:=Z24 (b:=23) hl.core
 unfold Z0b
 rcases Z1L (l:=f.Core) (step:=Z0b.s0 f) (fun k x => x = []) (no:=.ret false) (yes:=.go ()) (fun k x hk hp => by
  have hlt:=(List.getElem?_eq_some_iff.1 hk).1
  obtain ⟨hat,_⟩:=Z7Q hk
  unfold Z0b.s0;rw [ZC (show (k:Int) < f.Core.length by omega),cond_true,hat]
  simp only [Y0];cases x with
  | nil => exact .inl ⟨by rw [ZB (by simp),cond_false,Z1 (show _ by omega)],rfl⟩
  | cons s l => exact .inr ⟨by rw [ZC (by simp),cond_true],by simp⟩) (by
  unfold Z0b.s0;rw [ZB (by omega)];rfl) with ⟨h1,h2⟩ | ⟨h1,h2⟩
 ·rw [h1];refine ⟨true,rfl,⟨fun _ l hl' => ?_,fun _ => rfl⟩⟩
  obtain ⟨k,hk⟩:=YB hl'
  exact h2 k l hk
 ·rw [h1];exact ⟨false,rfl,⟨(fun h => nomatch h),fun hb => absurd (fun k x hk => hb x (Y6 hk)) h2⟩⟩
def Mid (x:Int):Prop:=-1000000000000000000≤x∧x≤1000000000000000000
theorem Z6B {a b:List Span} {x y:Int} (ha:RightL a) (hb:RightL b) (hl:Len a) (hx:Mid x) (hy:Mid y):∃ r,Z0D a x b y = some r∧(r = true ↔ a.map (ZY x) = b.map (ZY y)):=by
 have hl':(a.length:Int) < 9223372036854775807:=by have:=Z0g;unfold Len at hl;omega
 unfold Z0D
 by_cases hlen:a.length = b.length
 ·rw [Z4d (by omega),cond_false]
  have tk:∀ {l:List Span},RightL l→∀ (k:Nat) s,l[k]? = some s→Z3 s.From∧Z3 s.To:=fun {l} h k s hs => by
   have:=Z3X.1 h k s hs
   unfold Z2H at this;exact ⟨this.1,this.2.1⟩
  rcases Z1L (l:=a) (step:=Z0D.s0 a x b y) (fun k p => ∀ q,b[k]? = some q→ZY x p = ZY y q) (no:=.ret false) (yes:=.go ()) (fun k p hk hp => by
   have hlt:=(List.getElem?_eq_some_iff.1 hk).1
   obtain ⟨hat,_⟩:=Z7Q hk
   have hbt:at? b (k:Int) = some (b[k]'(by omega)):=at?_nat (by omega)
   have hbk:b[k]? = some (b[k]'(by omega)):=Y2 (by omega)
   obtain ⟨x1,x2⟩:=tk ha k p hk
   obtain ⟨y1,y2⟩:=tk hb k _ hbk
   generalize b[k]'(by omega) = q at hbt hbk y1 y2
   unfold Z3 at x1 x2 y1 y2;unfold Mid at hx hy;unfold Z0D.s0;rw [ZC (show (k:Int) < a.length by omega),cond_true,hat]
   simp only [Y0,hbt];rw [Z1 (x:=p.From + x) (by omega),Z1 (x:=q.From + y) (by omega),Z1 (x:=p.To + x) (by omega),Z1 (x:=q.To + y) (by omega),Z1 (x:=(k:Int) + 1) (by omega)]
   by_cases h1:p.From + x = q.From + y
   ·rw [Z4d h1,cond_false]
    by_cases h2:p.To + x = q.To + y
    ·rw [Z4d h2];exact .inl ⟨rfl,fun q' hq' => by rw [hbk] at hq';cases hq';unfold ZY;rw [h1,h2]⟩
    ·rw [Z78 h2];refine .inr ⟨rfl,fun h => h2 ?_⟩
     have:=h q hbk
     unfold ZY at this;simp only [Span.mk.injEq] at this;exact this.2
   ·rw [Z78 h1,cond_true];refine .inr ⟨rfl,fun h => h1 ?_⟩
    have:=h q hbk
    unfold ZY at this;simp only [Span.mk.injEq] at this;exact this.1) (by
   unfold Z0D.s0;rw [ZB (by omega)];rfl) with ⟨h1,h2⟩ | ⟨h1,h2⟩
  ·rw [h1];refine ⟨true,rfl,⟨fun _ => ?_,fun _ => rfl⟩⟩
   refine ext_of (by simpa using hlen) fun k p q hp hq => ?_
   rw [YR,Y1] at hp hq;obtain ⟨p',hp',rfl⟩:=hp
   obtain ⟨q',hq',rfl⟩:=hq
   exact h2 k p' hp' q' hq'
  ·rw [h1];refine ⟨false,rfl,⟨(fun h => nomatch h),fun e => absurd (fun k p hp q hq => ?_) h2⟩⟩
   have h3:(a.map (ZY x))[k]? = some (ZY x p):=by rw [YR,hp];rfl
   have h4:(b.map (ZY y))[k]? = some (ZY y q):=by rw [YR,hq];rfl
   rw [e,h4] at h3;exact (Option.some.inj h3).symm
 ·rw [Z78 (by omega),cond_true]
  exact ⟨false,rfl,⟨(fun h => nomatch h),fun e => absurd (by simpa using congrArg List.length e) hlen⟩⟩
theorem Z6j {f:Form} (hs:Shape f) (h0:0 < f.Count) (hc:In64 f.Count) {i:Int} (hi:In64 i) (hp:In64 (Z17 f i)):Z1a f i = some (Z0f f i,Z17 f i):=by
 unfold Z1a
 rw [Z4Y hi h0 hc]
 simp only [Y0]
 rw [(Z0H hs (by omega) i).1]
 simp only [Y0]
 show some (Z0f f i,w64 (Z17 f i)) = _
 rw [Z1 hp]
theorem ZAw {f:Form} (hs:Shape f) (h0:0 < f.Count) {i:Int} (h1:0≤i) (h2:i < 2 * f.Count):Mid (Z17 f i):=by
 have hp:=hs.per
 have q0:0≤i / f.Count:=Y0e h1 (by omega)
 have q1:i / f.Count < 2:=by
  apply Int.ediv_lt_of_lt_mul h0;omega
 unfold Z17 Mid
 have:i / f.Count = 0∨i / f.Count = 1:=by omega
 rcases this with h | h <;> rw [h] <;> omega
theorem Z7j {f:Form} (h0:0 < f.Count) {d:Int} (hd:1≤d):Good f d ↔ d ∣ f.Count∧f.Count ∣ f.Period * d∧TurnZ f d (f.Period * d / f.Count):=by
 have key:d ∣ f.Count→(f.Period % (f.Count / d) = 0 ↔ f.Count ∣ f.Period * d)∧(f.Period % (f.Count / d) = 0→f.Period * d / f.Count = f.Period / (f.Count / d)):=by
  rintro ⟨m,hm⟩;have hm0:0 < m:=by
   rcases Y1A 0 m with h | h
   ·exact h
   ·have:=Y0F (show 0≤d by omega) h
    omega
  have e1:f.Count / d = m:=by rw [hm];exact Yv m (by omega)
  rw [e1,hm];refine ⟨⟨fun h => ?_,fun h => ?_⟩,fun h => ?_⟩
  ·obtain ⟨q,hq⟩:=Y06 h
   exact ⟨q,by rw [hq,Yp,Yt q d,← Yp,Yt m d]⟩
  ·obtain ⟨q,hq⟩:=h
   have:f.Period = m * q:=by
    have h3:f.Period * d = (m * q) * d:=by rw [hq,Yt d m,Yp,Yt d q,Yp]
    exact Int.eq_of_mul_eq_mul_right (by omega) h3
   rw [this];exact Int.mul_emod_right m q
  ·obtain ⟨q,hq⟩:=Y06 h
   rw [hq,Yv q (by omega),Yp,Yt q d,← Yp,Yt m d]
   exact Yv q (by have:=Int.mul_pos (show 0 < d by omega) hm0;omega)
 constructor
 ·intro g;obtain ⟨k1,k2⟩:=key g.dvd
  exact ⟨g.dvd,k1.1 g.rest,by rw [k2 g.rest];exact g.turn⟩
 ·rintro ⟨h1,h2,h3⟩;obtain ⟨k1,k2⟩:=key h1
  have hr:=k1.2 h2
  exact ⟨hd,h1,hr,by rw [← k2 hr];exact h3⟩
theorem ZBh {f:Form} (hl:Lim f) (hs:Shape f) (h0:0 < f.Count) (hc:f.Count≤12) {d:Int} (hd:1≤d) (hdn:d≤f.Count):∃ r,Z0E f d = some r∧(r = true ↔ Good f d):=by
 have hp:=hs.per
 have hcnt:=hs.count
 have hpd:0≤f.Period * d∧f.Period * d≤13194139533312:=by
  have h1:f.Period * d≤f.Period * 12:=YU (by omega) hp.1
  have h2:0≤f.Period * d:=Yr hp.1 (by omega)
  omega
 have hw:w64 (f.Period * d) = f.Period * d:=Z1 (by omega)
 have hq:(f.Period * d).tdiv f.Count = f.Period * d / f.Count:=Y08 hpd.1
 have hq0:0≤f.Period * d / f.Count:=Y0e hpd.1 (by omega)
 have hq1:f.Period * d / f.Count≤f.Period * d:=Y0H _ hpd.1
 have ht:(f.Period * d).tmod f.Count = f.Period * d % f.Count:=Y0a hpd.1
 have ht2:f.Count.tmod d = f.Count % d:=Y0a (by omega)
 unfold Z0E
 rw [nz?_ok (by omega)]
 simp only [Y0]
 rw [Z7j h0 hd,ht2]
 by_cases h1:f.Count % d = 0
 ·rw [Z4d h1,cond_false,nz?_ok (by omega)]
  simp only [Y0];rw [hw,ht]
  by_cases h2:f.Period * d % f.Count = 0
  ·rw [Z4d h2,cond_false];have dv1:=Y06 h1
   have dv2:=Y06 h2
   have step:∀ k:Nat,(k:Int) < f.Count→∃ r,Z0E.s0 f d k = some (bif r then .inl ((k:Int) + 1) else .inr (.ret false))∧(r = true ↔ cs f ((k:Int) + d) = (cs f k).map (ZY (f.Period * d / f.Count))):=by
    intro k hk;have hm1:=ZAw hs h0 (i:=(k:Int)) (by omega) (by omega)
    have hm2:=ZAw hs h0 (i:=(k:Int) + d) (by omega) (by omega)
    have g1:=Z0H hs (by omega) (k:Int)
    have g2:=Z0H hs (by omega) ((k:Int) + d)
    have hm3:Mid (Z17 f k + f.Period * d / f.Count):=by
     have e:Z17 f (k:Int) = 0:=by unfold Z17;rw [Int.ediv_eq_zero_of_lt (by omega) hk,Int.zero_mul]
     rw [e];unfold Mid;omega
    obtain ⟨r,q1,q2⟩:=Z6B (x:=Z17 f k + f.Period * d / f.Count) (y:=Z17 f ((k:Int) + d)) (hs.core _ g1.2) (hs.core _ g2.2) (hl.sets _ g1.2).1 hm3 hm2
    refine ⟨r,?_,?_⟩
    ·unfold Z0E.s0;unfold Mid at hm1 hm2 hm3;rw [ZC hk,cond_true,Z6j hs h0 hl.count (by unfold In64;omega) (by unfold In64;omega),Z1 (x:=(k:Int) + d) (by omega)]
     simp only [Y0];rw [Z6j hs h0 hl.count (by unfold In64;omega) (by unfold In64;omega)]
     simp only [Y0];rw [nz?_ok (by omega),hw,hq]
     simp only [Y0];rw [Z1 (x:=f.Period * d / f.Count) (by omega),Z1 (x:=Z17 f k + f.Period * d / f.Count) (by omega),q1]
     simp only [Y0];cases r with
     | true => rw [YQ,cond_false,cond_true,Z1 (by omega)]
     | false => rw [Yq,cond_true,cond_false]
    ·rw [q2];unfold cs;rw [Z1X];exact eq_comm
   have hcl:(f.Core.length:Int) = f.Count:=hcnt.symm
   rcases Z1L (l:=f.Core) (step:=Z0E.s0 f d) (fun k x => cs f ((k:Int) + d) = (cs f k).map (ZY (f.Period * d / f.Count))) (no:=.ret false) (yes:=.go ()) (fun k x hk hp' => by
    have hlt:=(List.getElem?_eq_some_iff.1 hk).1
    obtain ⟨r,q1,q2⟩:=step k (by omega)
    cases r with
    | true => exact .inl ⟨q1,q2.1 rfl⟩
    | false => exact .inr ⟨q1,fun h => by have:=q2.2 h;cases this⟩) (by
    unfold Z0E.s0;rw [ZB (by omega)];rfl) with ⟨e1,e2⟩ | ⟨e1,e2⟩
   ·rw [e1];refine ⟨true,rfl,⟨fun _ => ⟨dv1,dv2,turn_of h0 fun i i0 i1 => ?_⟩,fun _ => rfl⟩⟩
    have h3:i.toNat < f.Core.length:=by omega
    have:=e2 i.toNat _ (Y2 h3)
    rwa [Y0T i0] at this
   ·rw [e1];exact ⟨false,rfl,⟨(fun h => nomatch h),fun h => absurd (fun (k:Nat) x _ => h.2.2 (k:Int)) e2⟩⟩
  ·rw [Z78 h2,cond_true];exact ⟨false,rfl,⟨(fun h => nomatch h),fun h => absurd (Int.emod_eq_zero_of_dvd h.2.1) h2⟩⟩
 ·rw [Z78 h1,cond_true];exact ⟨false,rfl,⟨(fun h => nomatch h),fun h => absurd (Int.emod_eq_zero_of_dvd h.1) h1⟩⟩
end Go.Dn

namespace Go.Dn
open Go
theorem good_per {f:Form} (h0:0 < f.Count) {d:Int} (g:Good f d):f.Period * d / f.Count = f.Period / (f.Count / d):=by
 have hd:=g.pos
 obtain ⟨m,hm⟩:=g.dvd
 have hm0:0 < m:=by
  rcases Y1A 0 m with h | h
  ·exact h
  ·have:=Y0F (show 0≤d by omega) h
   omega
 have e1:f.Count / d = m:=by rw [hm];exact Yv m (by omega)
 have hr:=g.rest
 rw [e1] at hr ⊢
 obtain ⟨q,hq⟩:=Y06 hr
 rw [hm,hq,Yv q (by omega),Yp,Yt q d,← Yp,Yt m d]
 exact Yv q (by have:=Int.mul_pos (show 0 < d by omega) hm0;omega)
theorem ref06_least {f:Form} (hl:Lim f) (hs:Shape f) (h0:0 < f.Count) (hc:f.Count≤12) {d:Int} (hg:Good f d) (hmin:∀ d',Good f d'→d≤d'):loopO (ZM.s0 f) 1 = some d:=by
 have hd:=hg.pos
 have hdn:d≤f.Count:=Y13 h0 hg.dvd
 refine Z0s (I:=fun s r => r = d∧1≤s∧s≤d) (fun s => (d - s).toNat) ?_ ⟨rfl,by omega,hd⟩
 rintro s r ⟨rfl,h1,h2⟩
 obtain ⟨q,q1,q2⟩:=ZBh hl hs h0 hc h1 (by omega)
 unfold ZM.s0
 rw [q1]
 simp only [Y0]
 by_cases h:s = r
 ·subst h;have:q = true:=q2.2 hg
  subst this
  right;rfl
 ·have:q = false:=by
   cases q with
   | false => rfl
   | true => have:=hmin s (q2.1 rfl);omega
  subst this
  left
  exact ⟨s + 1,by rw [Yq,cond_true,Z1 (by omega)],⟨(by first | rfl | trivial),by omega,by omega⟩,by omega⟩
theorem ref06_copy {f:Form} (hl:Lim f) (hs:Shape f) (h0:0 < f.Count) (hc:f.Count≤12) {d:Int} (hd:1≤d) (hdn:d≤f.Count) :
  loopO (ZM.s1 f d) (0,[]) = some (f.Core.take d.toNat,f.Period * d / f.Count):=by
 have hcnt:=hs.count
 have hp:=hs.per
 have hr:=Z0g
 have hro:=Z1F
 have hpd:0≤f.Period * d∧f.Period * d≤13194139533312:=by
  have h1:f.Period * d≤f.Period * 12:=YU (by omega) hp.1
  have h2:0≤f.Period * d:=Yr hp.1 (by omega)
  omega
 have hq0:0≤f.Period * d / f.Count:=Y0e hpd.1 (by omega)
 have hq1:f.Period * d / f.Count≤f.Period * d:=Y0H _ hpd.1
 refine Z0s (I:=fun s r => r = (f.Core.take d.toNat,f.Period * d / f.Count)∧∃ k:Nat,k≤d.toNat∧s = ((k:Int),f.Core.take k)) (fun s => d.toNat - s.1.toNat) ?_ ⟨rfl,0,YS _,rfl⟩
 rintro s r ⟨rfl,k,hk,rfl⟩
 unfold ZM.s1
 by_cases hlt:k < d.toNat
 ·left
  have hkl:k < f.Core.length:=by omega
  have htk:f.Core.take (k + 1) = f.Core.take k ++ [f.Core[k]]:=(Yc hkl).symm
  have hls:=(hl.sets _ (YE hkl)).1
  unfold Len at hls;refine ⟨((k:Int) + 1,f.Core.take (k + 1)),?_,⟨rfl,k + 1,hlt,by push_cast;rfl⟩,by simp;omega⟩
  rw [ZC (show (k:Int) < d by omega),cond_true,at?_nat hkl]
  simp only [Y0];rw [app?_ok (by simp only [YX];omega),Y02]
  simp only [Y0];rw [app?_ok (by simp only [YT,Yj,YX];omega),Z1 (show _ by omega),htk]
  rfl
 ·right
  have:(k:Int) = d:=by omega
  have e:k = d.toNat:=by omega
  rw [ZB (by omega),cond_false,Z1 (x:=f.Period * d) (by omega),Y08 hpd.1,Z1 (by omega),e]
theorem perAt_least {f:Form} (hs:Shape f) (h0:0 < f.Count) {d:Int} (g:Good f d) (o:List Granule) (i:Int) :
  Z17 f i≤Z17 (Form.mk (f.Period / (f.Count / d)) d (f.Core.take d.toNat) o) i∧Z17 (Form.mk (f.Period / (f.Count / d)) d (f.Core.take d.toNat) o) i≤Z17 f i + f.Period:=by
 have hd:=g.pos
 obtain ⟨m,hm⟩:=g.dvd
 have hm0:0 < m:=by
  rcases Y1A 0 m with h | h
  ·exact h
  ·have:=Y0F (show 0≤d by omega) h
   omega
 have e1:f.Count / d = m:=by rw [hm];exact Yv m (by omega)
 have hr:=g.rest
 rw [e1] at hr ⊢
 obtain ⟨q,hq⟩:=Y06 hr
 have hq2:f.Period / m = q:=by rw [hq];exact Yv q (by omega)
 have hq0:0≤q:=by rw [← hq2];exact Y0e hs.per.1 (by omega)
 unfold Z17
 simp only
 rw [hq2]
 have hi:=Yw i f.Count
 have r0:=Ym i (show f.Count ≠ 0 by omega)
 have r1:=Ys i h0
 have e2:i / d = m * (i / f.Count) + i % f.Count / d:=by
  have:i = i % f.Count + d * (m * (i / f.Count)):=by rw [← Yp,← hm];omega
  conv => lhs;rw [this]
  rw [Int.add_mul_ediv_left _ _ (by omega),Int.add_comm]
 have s0:0≤i % f.Count / d:=Y0e r0 (by omega)
 have s1:i % f.Count / d≤m:=by
  have:i % f.Count / d < m:=Int.ediv_lt_of_lt_mul (by omega) (by rw [Yt m d,← hm];exact r1)
  omega
 have t0:0≤i % f.Count / d * q:=Yr s0 hq0
 have t1:i % f.Count / d * q≤m * q:=YH s1 hq0
 rw [e2,Y0G,hq,Yt m (i / f.Count),Yp]
 omega
theorem ref06_odd {f:Form} (hl:Lim f) (hr:RightF f) (hc:f.Count≤12) (ho:f.Count = 0∨f.Odd.length≤8) {c:Form} (h:Z3N f c):loopO (ZM.s2 f (c.Core,c.Period,c.Count)) (0,[]) = some (f.Odd.filter (oddly f)):=by
 have hs:=hr.shape
 have hol:(f.Odd.length:Int) < 4611686018427387904:=Z24 (b:=31) hl.odd
 have hre:=Z0g
 have hro:=Z1F
 have hsc:=h.shape hs
 have hlc:=h.lim hl hs
 have hce:Form.mk c.Period c.Count c.Core [] = c:=by
  have:=h.odd
  obtain ⟨a1,a2,a3,a4⟩:=c
  simp only at this;subst this
  rfl
 have inner:∀ g ∈ f.Odd,∃ y7:List Span × Int,(bif (decide (c.Count > 0)) then (Z1a c g.Index).bind fun x7 => some (x7.1,x7.2) else some ([],0)) = some y7∧∃ r,Z0D y7.1 y7.2 g.Ticks 0 = some r∧(r = true ↔ csz f g.Index = g.Ticks):=by
  intro g hg;obtain ⟨hrt,hti⟩:=hs.odd g hg
  by_cases hcp:c.Count > 0
  ·rw [ZC hcp,cond_true]
   rcases h with ⟨hb,rfl⟩ | ⟨hb,h0,d,hgd,hmin,rfl⟩
   ·simp at hcp
   ·have hd:=hgd.pos
    have hper:=hs.per
    obtain ⟨p1,p2⟩:=perAt_odd hl hr hb h0 hc (by omega) ⟨g,hg,rfl⟩ hti
    obtain ⟨p3,p4⟩:=perAt_least hs h0 hgd [] g.Index
    have hg2:=Z0H hsc (show d ≠ 0 by omega) g.Index
    have hCO:Z3N f (Form.mk (f.Period / (f.Count / d)) d (f.Core.take d.toNat) []):=.inr ⟨hb,h0,d,hgd,hmin,rfl⟩
    rw [Z6j hsc hcp hlc.count (Z0M hti) (by unfold In64;omega)]
    refine ⟨_,rfl,?_⟩;obtain ⟨r,q1,q2⟩:=Z6B (x:=Z17 (Form.mk (f.Period / (f.Count / d)) d (f.Core.take d.toNat) []) g.Index) (y:=0) (hsc.core _ hg2.2) hrt (hlc.sets _ hg2.2).1 (by unfold Mid;omega) (by unfold Mid;omega)
    refine ⟨r,q1,?_⟩;rw [q2,Z5Q];have e:csz f g.Index = cs (Form.mk (f.Period / (f.Count / d)) d (f.Core.take d.toNat) []) g.Index:=by
     rw [← hCO.csz hs,Z6x hcp]
    rw [e];exact Iff.rfl
  ·rw [ZB hcp,cond_false];refine ⟨_,rfl,?_⟩;obtain ⟨r,q1,q2⟩:=Z6B (a:=[]) (x:=0) (y:=0) ⟨by simp,by simp⟩ hrt (by unfold Len;simp) (by unfold Mid;omega) (by unfold Mid;omega)
   refine ⟨r,q1,?_⟩;rw [q2,Z5Q];have e:csz f g.Index = []:=by
    rw [← h.csz hs];unfold csz;rw [if_pos (by have:=hsc.count;omega)]
   rw [e];simp
 refine Z0s (I:=fun s r => r = f.Odd.filter (oddly f)∧∃ k:Nat,k≤f.Odd.length∧s = ((k:Int),(f.Odd.take k).filter (oddly f))) (fun s => f.Odd.length - s.1.toNat) ?_ ⟨rfl,0,YS _,rfl⟩
 rintro s r ⟨rfl,k,hk,rfl⟩
 unfold ZM.s2
 by_cases hlt:k < f.Odd.length
 ·left
  have hmem:=YE hlt
  have hat:=at?_nat hlt
  obtain ⟨y7,p0,r,p1,p2⟩:=inner _ hmem
  have htk:f.Odd.take (k + 1) = f.Odd.take k ++ [f.Odd[k]]:=(Yc hlt).symm
  have hlen:=(hl.ticks _ hmem).2.1
  have hodl:=hl.odd
  unfold Len at hlen;refine ⟨((k:Int) + 1,(f.Odd.take (k + 1)).filter (oddly f)),?_,⟨rfl,k + 1,hlt,by push_cast;rfl⟩,by simp;omega⟩
  rw [ZC (show (k:Int) < f.Odd.length by omega),cond_true,Z1 (show _ by omega),htk,Y0Z]
  simp only [hat,hce,Y0];rw [p0];simp only [Y0,p1];cases r with
  | true =>
   have:oddly f f.Odd[k] = false:=by unfold oddly;rw [decide_eq_false_iff_not];exact fun h => h (p2.1 rfl)
   simp only [YQ,cond_false,Y0,List.filter_cons,this,Y9,if_false,List.filter_nil,YP]
  | false =>
   have:oddly f f.Odd[k] = true:=by unfold oddly;rw [decide_eq_true_iff];intro h;have:=p2.2 h;cases this
   have hfl:((f.Odd.take k).filter (oddly f)).length≤k:=Yd (Y0c _ _) (by rw [YT];omega)
   rw [Yq,cond_true,app?_ok (by simp only [YX];omega),Y02]
   simp only [Y0];rw [app?_ok (by simp only [Yj,YX];omega)]
   simp only [Y0,List.filter_cons,this,if_true,List.filter_nil]
 ·right
  have:k = f.Odd.length:=by omega
  subst this;rw [ZB (by omega),cond_false,Yg]
theorem Z7Y {f:Form} (hl:Lim f) (hr:RightF f) (hc:f.Count≤12) (ho:f.Count = 0∨f.Odd.length≤8):ZM f = Zt f:=by
 have hs:=hr.shape
 obtain ⟨c,hco,hcf⟩:=Z8g hl hs
 obtain ⟨b,b1,b2⟩:=ref06_bare_eq hl
 have hodd:=ref06_odd hl hr hc ho hco
 rw [hcf]
 unfold ZM canonF
 rw [b1]
 rcases hco with ⟨hb,rfl⟩ | ⟨hb,h0,d,hgd,hmin,rfl⟩
 ·have:b = true:=b2.2 hb
  subst this;simp only [Y0,YQ,cond_false];rw [hodd];rfl
 ·have:b = false:=by
   cases b with
   | false => rfl
   | true => exact absurd (b2.1 rfl) hb
  subst this;simp only [Y0,Yq,cond_true];rw [ref06_least hl hs h0 hc hgd hmin];simp only [Y0];rw [nz?_ok (by omega),ref06_copy hl hs h0 hc hgd.pos (Y13 h0 hgd.dvd),good_per h0 hgd]
  simp only [Y0];rw [hodd];rfl
theorem Z8m {f:Form} (hl:Lim f) (hr:RightF f) (hc:f.Count≤12) (ho:f.Odd.length≤8):ZM f = Zt f:=Z7Y hl hr hc (.inr ho)
end Go.Dn

namespace Go.Dn
open Go
theorem u64_id {a:Int} (h:0≤a∧a < 18446744073709551616):IntKind.u64.wrap a = a:=by rw [Z6R];omega
def Dig (x:Int):Prop:=0≤x∧x < 65536
structure Digs (d:Arr9_u32):Prop where
 h0:Dig d.d0
 h1:Dig d.d1
 h2:Dig d.d2
 h3:Dig d.d3
 h4:Dig d.d4
 h5:Dig d.d5
 h6:Dig d.d6
 h7:Dig d.d7
 h8:Dig d.d8
def lsz (d:Arr9_u32):Int:=d.d0 + 65536 * (d.d1 + 65536 * (d.d2 + 65536 * (d.d3 + 65536 * (d.d4 + 65536 * (d.d5 + 65536 * (d.d6 + 65536 * (d.d7 + 65536 * d.d8)))))))
def lval (x:epactref01_long):Int:=if x.minus = true then -lsz x.digits else lsz x.digits
end Go.Dn

namespace Go.Dn
open Go
structure Low (d:Arr9_u32):Prop where
 z4:d.d4 = 0
 z5:d.d5 = 0
 z6:d.d6 = 0
 z7:d.d7 = 0
 z8:d.d8 = 0
end Go.Dn

namespace Go.Dn
open Go
theorem gcd_ok {a b:Int} (ha:In64 a) (hb:In64 b):gcd? (a.natAbs:Int) b.natAbs = some ((Nat.gcd a.natAbs b.natAbs:Nat):Int):=by
 unfold gcd?
 rw [if_pos (by unfold In64 at *;omega)]
 rfl
theorem gcd_lt {a b:Int} (ha:In64 a) (hb:In64 b):Nat.gcd a.natAbs b.natAbs≤9223372036854775808:=by
 unfold In64 at *
 by_cases h:a = 0
 ·subst h;simp;omega
 ·exact Yd (Nat.gcd_le_left _ (by omega)) (by omega)
def lcmS (a b:Int):Int × Int:=if a = 0∨b = 0 then (0,0) else fitS (((a.natAbs / Nat.gcd a.natAbs b.natAbs:Nat):Int) * b.natAbs)
theorem ZBH {a b:Int} (ha:In64 a) (hb:In64 b):Z6H a b = some (lcmS a b):=by
 have:=gcd_lt ha hb
 unfold Z6H lcmS
 rw [Z51 ha,Z51 hb]
 by_cases h0:a = 0∨b = 0
 ·rw [if_pos h0];have:(((a.natAbs:Int) == 0) || ((b.natAbs:Int) == 0)) = true:=by simp;omega
  rw [this,cond_true]
 rw [if_neg h0]
 have h1:(((a.natAbs:Int) == 0) || ((b.natAbs:Int) == 0)) = false:=by simp;omega
 rw [h1,cond_false,gcd_ok ha hb]
 simp only [Y0]
 have gp:0 < Nat.gcd a.natAbs b.natAbs:=Nat.gcd_pos_of_pos_left _ (by omega)
 rw [nz?_ok (by omega)]
 simp only [Y0]
 have hd:((a.natAbs:Int)).tdiv ((Nat.gcd a.natAbs b.natAbs:Nat):Int) = ((a.natAbs / Nat.gcd a.natAbs b.natAbs:Nat):Int):=by
  rw [Y08 (by omega)];rfl
 have hle:a.natAbs / Nat.gcd a.natAbs b.natAbs≤a.natAbs:=Nat.div_le_self _ _
 rw [hd]
 generalize a.natAbs / Nat.gcd a.natAbs b.natAbs = q at *
 rw [u64_id (a:=(q:Int)) (by unfold In64 at ha;omega),mul64_eq (by unfold Z77;unfold In64 at ha;omega) (inU_abs hb)]
 simp only
 have hnn:0≤(q:Int) * b.natAbs:=Yr (by omega) (by omega)
 generalize (q:Int) * b.natAbs = p at *
 by_cases hp:p / 18446744073709551616 = 0
 ·rw [Z4d hp,cond_false,Z85 _ (by unfold Z77;omega)]
  have:p % 18446744073709551616 = p:=by omega
  rw [this];rfl
 ·rw [Z78 hp,cond_true,fitS_not (by unfold In64;omega)]
end Go.Dn

namespace Go.Dn
open Go
noncomputable def Z5G (f:Form) (m:Int):Form:=Form.mk f.Period f.Count ((List.range f.Core.length).map fun (j:Nat) => csz f ((j:Int) - m)) (f.Odd.map fun g => Granule.mk (g.Index + m) g.Ticks)
theorem raw_eq {f:Form} (hl:Lim f) (hs:Shape f) {i:Int} (hi:In64 i):(Z1e f i = some (csz f i,0)∧(∀ s ∈ csz f i,Z3 s.From∧Z3 s.To)∧Len (csz f i))∨Z1e f i = some ([],20):=by
 unfold Z1e
 have hcnt:=hs.count
 have len0:Len ([] : List Span):=by show ([] : List Span).length * 16≤reachBytes;simp
 by_cases h0:f.Count = 0
 ·rw [Z6O h0,cond_true];have:csz f i = []:=if_pos h0
  rw [this];exact .inl ⟨rfl,by simp,len0⟩
 ·have hp:0 < f.Count:=by omega
  rw [Z3L h0,cond_false,Z2v hi hl.count,Z4I hp];simp only [Y0];obtain ⟨c1,c2⟩:=Z0H hs h0 i
  rw [c1];simp only [Y0];have hcsz:csz f i = (Z0f f i).map (ZY (i / f.Count * f.Period)):=by rw [Z6x hp];rfl
  by_cases hn:Z0f f i = []
  ·rw [hcsz,hn];exact .inl ⟨rfl,by simp,len0⟩
  ·have hlen:¬ ((Z0f f i).length:Int) = 0:=by have:=List.length_pos_iff.2 hn;omega
   rw [Z3L hlen,cond_false];have hq:In64 (i / f.Count):=by
    unfold In64 at hi ⊢;have q1:i / f.Count≤9223372036854775807:=Int.ediv_le_of_le_mul hp (by
     have:(9223372036854775807:Int) * 1≤9223372036854775807 * f.Count:=YU (by omega) (by decide)
     omega)
    have q2 : -9223372036854775808≤i / f.Count:=Y0d hp (by
     have:(9223372036854775808:Int) * 1≤9223372036854775808 * f.Count:=YU (by omega) (by decide)
     omega)
    exact ⟨q2,q1⟩
   rw [Z4i hq hl.period]
   rcases fit_or (i / f.Count * f.Period) with ⟨f1,f2⟩ | ⟨f1,f2⟩
   ·rw [f2];simp only [bne_self_eq_false,Y0o,cond_false]
    rcases Z4V (hl.sets _ c2).1 (hl.sets _ c2).2 f1 with ⟨m1,m2⟩ | ⟨m1,m2⟩
    ·rw [m2]
     left
     rw [hcsz];refine ⟨rfl,fun s hs' => ?_,by unfold Len;rw [YJ];exact (hl.sets _ c2).1⟩
     obtain ⟨x,hx,rfl⟩:=List.mem_map.1 hs'
     exact m1 x hx
    ·rw [m2];exact .inr rfl
   ·rw [f2];exact .inr rfl
structure Bnd (f:Form):Prop where
 core:f.Core.length≤12
 odd:f.Odd.length≤8
 sets:∀ l ∈ f.Core,l.length≤720
 ticks:∀ g ∈ f.Odd,g.Ticks.length≤720
theorem le_sum {α:Type} (g:α→Nat):∀ {l:List α} {x:α},x ∈ l→g x≤(l.map g).sum
 | y :: l,x,h => by
  rw [Y0V,List.sum_cons]
  rcases List.mem_cons.1 h with rfl | h
  ·omega
  ·have:=le_sum g h;omega
theorem sum_le {α:Type} (g:α→Nat) {b:Nat}:∀ {l:List α},(∀ x ∈ l,g x≤b)→(l.map g).sum≤l.length * b
 | [],_ => by simp
 | y :: l,h => by
  rw [Y0V,List.sum_cons,Yj,Yu];have h1:=h y YK
  have h2:=sum_le g (l:=l) (b:=b) fun x hx => h x (YN _ hx)
  omega
theorem SmallF.bnd {f:Form} (h:SmallF f):Bnd f:=by
 obtain ⟨h1,h2,h3⟩:=h
 unfold Z4e at h3
 refine ⟨h1,h2,fun l hl => ?_,fun g hg => ?_⟩
 ·have:=le_sum List.length hl;omega
 ·have:=le_sum (fun g:Granule => g.Ticks.length) hg;omega
theorem Bnd.short {f:Form} (h:Bnd f):¬ Z22 f:=by
 have h1:=sum_le List.length h.sets
 have h2:=sum_le (fun g:Granule => g.Ticks.length) h.ticks
 have h3:=h.core
 have h4:=h.odd
 unfold Z22 Z4e
 have h5:f.Core.length * 720≤12 * 720:=YL _ h3
 have h6:f.Odd.length * 720≤8 * 720:=YL _ h4
 omega
theorem csz_len {f:Form} (hs:Shape f) (h:Bnd f) (i:Int):(csz f i).length≤720:=by
 unfold csz
 by_cases h0:f.Count = 0
 ·rw [if_pos h0];simp
 ·rw [if_neg h0];unfold cs;rw [YJ];exact h.sets _ (Z0H hs h0 i).2
theorem shiftF_bnd {f:Form} (hs:Shape f) (h:Bnd f) (m:Int):Bnd (Z5G f m):=by
 refine ⟨?_,?_,fun l hl => ?_,fun g hg => ?_⟩
 ·show ((List.range f.Core.length).map _).length≤12
  rw [YJ,Y0S];exact h.core
 ·show (f.Odd.map _).length≤8
  rw [YJ];exact h.odd
 ·obtain ⟨j,_,rfl⟩:=List.mem_map.1 hl
  exact csz_len hs h _
 ·obtain ⟨x,hx,rfl⟩:=List.mem_map.1 hg
  exact h.ticks x hx
end Go.Dn

namespace Go.Dn
open Go
theorem Z57 {i:Int}:Zo i = decide (Z3 i):=by
 unfold Zo Z3
 rw [← Bool.decide_and]
theorem right13_eq {f:Form} (hl:Lim f):∃ b,Z1u f = some b∧(b = true ↔ SmallF f∧RightF f):=by
 unfold Z1u
 obtain ⟨b,hb,hbs⟩:=Z8V hl
 rw [hb]
 simp only [Y0]
 cases b with
 | false => exact ⟨false,rfl,fun h => (by cases h),fun h => by have:=hbs.2 h.1;cases this⟩
 | true =>
  have hsm:=hbs.1 rfl
  have hnl:¬ Z22 f:=by unfold Z22;have:=hsm.1;have:=hsm.2.1;have:=hsm.2.2;omega
  rw [cond_true]
  rcases Z4Z hl with ⟨h,_⟩ | ⟨_,h1,h2⟩ | ⟨_,h1,h2⟩
  ·exact absurd h hnl
  ·rw [h2];exact ⟨true,rfl,fun _ => ⟨hsm,h1⟩,fun _ => rfl⟩
  ·rw [h2];exact ⟨false,rfl,fun h => (by cases h),fun h => absurd h.2 h1⟩
theorem shift_core {f:Form} (hl:Lim f) (hs:Shape f) (hb:Bnd f) {m:Int} (hm:Z3 m) :
  loopO (ZL.s0 f m) (0,[]) = some (.ret (Form.mk 0 0 [] [],20))∨(loopO (ZL.s0 f m) (0,[]) = some (.go (Z5G f m).Core)∧∀ l ∈ (Z5G f m).Core,Len l∧Sp64 l):=by
 have hcnt:=hs.count
 have hfew:=hb.core
 unfold Z3 at hm
 obtain ⟨r,q1,q2⟩:=Z0Y (step:=ZL.s0 f m)
  (fun s => ∃ k:Nat,k≤f.Core.length∧s = ((k:Int),(List.range k).map fun (j:Nat) => csz f ((j:Int) - m))∧∀ j:Nat,j < k→Len (csz f ((j:Int) - m))∧Sp64 (csz f ((j:Int) - m)))
  (fun s => f.Core.length - s.1.toNat)
  (fun r => r = .ret (Form.mk 0 0 [] [],20)∨(r = .go (Z5G f m).Core∧∀ l ∈ (Z5G f m).Core,Len l∧Sp64 l)) (by
   rintro s ⟨k,hk,rfl,hall⟩;unfold ZL.s0;simp only
   by_cases hlt:k < f.Core.length
   ·rw [ZC (show (k:Int) < f.Count by omega),cond_true,Z1 (x:=(k:Int) - m) (by omega)]
    rcases raw_eq hl hs (i:=(k:Int) - m) (by unfold In64;omega) with ⟨e,t1,t2⟩ | e
    ·left
     rw [e];simp only [Y0,bne_self_eq_false,cond_false];rw [app?_ok (by
      have:=Z1F
      simp only [YG,YJ,Y0S,YI];omega)]
     simp only [Y0];rw [Z1 (x:=(k:Int) + 1) (by omega)]
     refine ⟨_,rfl,⟨k + 1,hlt,?_,fun j hj => ?_⟩,by simp only;omega⟩
     ·rw [List.range_succ,Yx];push_cast;rfl
     ·by_cases hjk:j = k
      ·subst hjk;refine ⟨t2,fun s hs' => ?_⟩
       have:=t1 s hs'
       unfold Z3 at this;unfold In64;omega
      ·exact hall j (by omega)
    ·right
     rw [e];exact ⟨_,rfl,.inl rfl⟩
   ·right
    obtain rfl:k = f.Core.length:=by omega
    rw [ZB (show ¬ ((f.Core.length:Int) < f.Count) by omega),cond_false]
    refine ⟨_,rfl,.inr ⟨rfl,fun l hl' => ?_⟩⟩
    obtain ⟨j,hj,rfl⟩:=List.mem_map.1 hl'
    exact hall j (List.mem_range.1 hj)) (0,[]) ⟨0,YS _,rfl,fun j hj => absurd hj (Y0f _)⟩
 rcases q2 with rfl | ⟨rfl,h⟩
 ·exact .inl q1
 ·exact .inr ⟨q1,h⟩
theorem shift_odd {f:Form} (hl:Lim f) (hs:Shape f) (hb:Bnd f) {m:Int} (hm:Z3 m) :
  loopO (ZL.s1 f m) (0,[]) = some (.ret (Form.mk 0 0 [] [],20))∨(loopO (ZL.s1 f m) (0,[]) = some (.go (Z5G f m).Odd)∧∀ g ∈ f.Odd,Z3 (g.Index + m)):=by
 have hfew:=hb.odd
 unfold Z3 at hm
 obtain ⟨r,q1,q2⟩:=Z0Y (step:=ZL.s1 f m)
  (fun s => ∃ k:Nat,k≤f.Odd.length∧s = ((k:Int),(f.Odd.take k).map fun g => Granule.mk (g.Index + m) g.Ticks)∧∀ g ∈ f.Odd.take k,Z3 (g.Index + m))
  (fun s => f.Odd.length - s.1.toNat)
  (fun r => r = .ret (Form.mk 0 0 [] [],20)∨(r = .go (Z5G f m).Odd∧∀ g ∈ f.Odd,Z3 (g.Index + m))) (by
   rintro s ⟨k,hk,rfl,hall⟩;unfold ZL.s1;simp only
   by_cases hlt:k < f.Odd.length
   ·have hmem:=YE hlt
    have htk:f.Odd.take (k + 1) = f.Odd.take k ++ [f.Odd[k]]:=(Yc hlt).symm
    have hti:=(hs.odd _ hmem).2
    unfold Z3 at hti;rw [ZC (show (k:Int) < f.Odd.length by omega),cond_true,at?_nat hlt]
    simp only [Y0];rw [Z1 (x:=f.Odd[k].Index + m) (by omega),Z57]
    by_cases hr:Z3 (f.Odd[k].Index + m)
    ·left
     rw [ZC hr];simp only [YQ,cond_false];have h60:=hb.ticks _ hmem
     rw [app?_ok (by
      have:=Z1F
      simp only [YX];omega)]
     simp only [Y0,Y02];rw [app?_ok (by
      have:=Z1F
      simp only [YG,YJ,YT,YI];omega)]
     simp only [Y0];rw [Z1 (x:=(k:Int) + 1) (by omega)]
     refine ⟨_,rfl,⟨k + 1,hlt,?_,fun g hg => ?_⟩,by simp only;omega⟩
     ·rw [htk,Yx];push_cast;rfl
     ·rw [htk] at hg
      rcases List.mem_append.1 hg with hg | hg
      ·exact hall g hg
      ·rw [YD] at hg;subst hg;exact hr
    ·right
     rw [ZB hr];exact ⟨_,rfl,.inl rfl⟩
   ·right
    obtain rfl:k = f.Odd.length:=by omega
    rw [ZB (by omega),cond_false]
    rw [Yg] at hall ⊢;exact ⟨_,rfl,.inr ⟨rfl,hall⟩⟩) (0,[]) ⟨0,YS _,rfl,by simp⟩
 rcases q2 with rfl | ⟨rfl,h⟩
 ·exact .inl q1
 ·exact .inr ⟨q1,h⟩
end Go.Dn

namespace Go.Dn
open Go
def seam (x s:Span):List Span:=if s.From = x.To + 1 then [⟨x.From,s.To⟩] else [x,s]
def glue (out l:List Span):List Span :=
 match out.getLast?,l with
 | some x,s :: l' => out.dropLast ++ (seam x s ++ l')
 | _,_ => out ++ l
theorem Z7l (a:List Span):glue a [] = a:=by
 unfold glue
 cases h:a.getLast? <;> simp
theorem Z7V (b:List Span):glue [] b = b:=by
 unfold glue
 cases b <;> simp
theorem Z56 (a:List Span) (x s:Span) (l:List Span):glue (a ++ [x]) (s :: l) = a ++ (seam x s ++ l):=by
 unfold glue
 simp
theorem Z8L {a:List Span} (h:a ≠ []):∃ b x,a = b ++ [x]:=⟨a.dropLast,a.getLast h,(List.dropLast_concat_getLast h).symm⟩
def gl (h:Int→List Span) (a:Int):Nat→List Span
 | 0 => []
 | n + 1 => glue (gl h a n) (h (a + n))
theorem glue_len (a b:List Span):(glue a b).length≤a.length + b.length:=by
 by_cases ha:a = []
 ·subst ha;rw [Z7V];simp
 ·obtain ⟨a',x,rfl⟩:=Z8L ha
  cases b with
  | nil => rw [Z7l];simp
  | cons s l =>
   rw [Z56];unfold seam
   split <;> simp <;> omega
end Go.Dn

namespace Go.Dn
open Go
def Z15 (l:List Span):Prop:=∀ s ∈ l,Z3 s.From∧Z3 s.To
theorem glue_ticks {a b:List Span} (ha:Z15 a) (hb:Z15 b):Z15 (glue a b):=by
 by_cases h:a = []
 ·subst h;rw [Z7V];exact hb
 ·obtain ⟨a',x,rfl⟩:=Z8L h
  cases b with
  | nil => rw [Z7l];exact ha
  | cons s l =>
   rw [Z56];intro t ht;have hx:=ha x (by simp)
   have hs:=hb s (by simp)
   rcases List.mem_append.1 ht with h1 | h1
   ·exact ha t (YZ _ h1)
   ·rcases List.mem_append.1 h1 with h2 | h2
    ·unfold seam at h2
     split at h2
     ·rw [YD] at h2;subst h2;exact ⟨hx.1,hs.2⟩
     ·rcases List.mem_cons.1 h2 with rfl | h2
      ·exact hx
      ·rw [YD] at h2;subst h2;exact hs
    ·exact hb t (YN _ h2)
theorem at?_last {a:List Span} {x:Span}:at? (a ++ [x]) (((a ++ [x]).length:Int) - 1) = some x:=by
 have h:=at?_nat (l:=a ++ [x]) (k:=a.length) (by simp)
 have e:(((a ++ [x]).length:Int) - 1) = (a.length:Int):=by simp
 rw [e,h]
 simp
theorem b0_eq {out l:List Span} {e:Int} (ho:out.length≤4000000) (hl:l.length≤4000000) (to:Z15 out) (tl:Z15 l):Za.b0 (out,e) (l,0) = some ((glue out l,e),0):=by
 have hr:=Z1F
 unfold Za.b0
 simp only [bne_self_eq_false,cond_false]
 by_cases h:out = []
 ·subst h;rw [ZB (show ¬ ((([] : List Span).length:Int) > 0) by simp)]
  simp only [Y0Y,cond_false,Y0];rw [app?_ok (by simp only [YX];omega)]
  simp only [Y0,Jx.elim,Z7V,Y02]
 ·obtain ⟨a',x,rfl⟩:=Z8L h
  have hlen:((a' ++ [x]).length:Int) = a'.length + 1:=by simp
  have hlenN:(a' ++ [x]).length = a'.length + 1:=by simp
  cases l with
  | nil =>
   rw [ZB (show ¬ ((([] : List Span).length:Int) > 0) by simp)]
   simp only [Bool.and_false,cond_false,Y0];rw [app?_ok (by simp only [YX];omega)]
   simp only [Y0,Jx.elim,Z7l,YP]
  | cons s l =>
   have hll:(s :: l).length = l.length + 1:=rfl
   have tx:=to x (by simp)
   unfold Z3 at tx;rw [ZC (show ((a' ++ [x]).length:Int) > 0 by omega),ZC (show (((s :: l).length:Nat):Int) > 0 by rw [hll];omega)]
   simp only [Y0E,cond_true];have e1:at? (s :: l) 0 = some s:=rfl
   have e2:at? (a' ++ [x]) (w64 (((a' ++ [x]).length:Int) - 1)) = some x:=by rw [Z1 (by omega),at?_last]
   rw [e1];simp only [Y0];rw [e2];simp only [Y0];rw [Z1 (x:=x.To + 1) (by omega)]
   by_cases hc:s.From = x.To + 1
   ·rw [Z6O hc];simp only [cond_true];have e3:cut? (s :: l) 1 (((s :: l).length:Nat):Int) = some l:=by
     unfold cut?;rw [if_pos (by rw [hll];omega)]
     simp
    rw [e3];simp only [Y0];have e4:(a' ++ [x]).set (w64 (((a' ++ [x]).length:Int) - 1)).toNat (Span.mk x.From s.To) = a' ++ [Span.mk x.From s.To]:=by
     rw [Z1 (by omega),hlen,show ((a'.length:Int) + 1 - 1).toNat = a'.length by omega]
     simp
    rw [e4,app?_ok (by
     have:(a' ++ [Span.mk x.From s.To]).length = a'.length + 1:=by simp
     omega)]
    simp only [Y0,Jx.elim,Z56];unfold seam;rw [if_pos hc]
    simp
   ·rw [Z3L hc];simp only [cond_false,Y0];rw [app?_ok (by omega)]
    simp only [Y0,Jx.elim,Z56];unfold seam;rw [if_neg hc]
    simp
theorem Z7w {h:Int→List Span} {a:Int} {B:Nat}:∀ {n:Nat},(∀ j:Nat,j < n→(h (a + j)).length≤B∧Z15 (h (a + j)))→(gl h a n).length≤n * B∧Z15 (gl h a n)
 | 0,_ => ⟨by simp [gl],fun s hs => by cases hs⟩
 | n + 1,hh => by
  obtain ⟨h1,h2⟩:=Z7w (n:=n) fun j hj => hh j (by omega)
  obtain ⟨h3,h4⟩:=hh n (by omega)
  refine ⟨?_,glue_ticks h2 h4⟩;have:=glue_len (gl h a n) (h (a + n))
  show (glue (gl h a n) (h (a + n))).length≤(n + 1) * B
  rw [Yu];omega
theorem Z5x {tell:Int→Option (List Span × Int)} {h:Int→List Span} {a:Int} {m B:Nat} (hm:m * B≤4000000) (hm2:m≤4000000) (hB:B≤4000000) (ha : -4611686018427387904≤a∧a≤4611686018427387904)
  (ht:∀ j:Nat,j < m→(tell (a + j) = some (h (a + j),0)∧(h (a + j)).length≤B∧Z15 (h (a + j)))∨tell (a + j) = some ([],20)) :
  (Za tell a m = some (gl h a m,0)∧∀ j:Nat,j < m→(h (a + j)).length≤B∧Z15 (h (a + j))∧tell (a + j) = some (h (a + j),0)) ∨
  (Za tell a m = some ([],20)∧∃ j:Nat,j < m∧tell (a + j) = some ([],20)):=by
 obtain ⟨r,q1,q2⟩:=Z0Y (step:=Z0d.s0 m tell a (Z2w Za.b0))
  (fun s => ∃ k:Nat,k≤m∧s = ((k:Int),((gl h a k,0),0))∧∀ j:Nat,j < k→(h (a + j)).length≤B∧Z15 (h (a + j))∧tell (a + j) = some (h (a + j),0))
  (fun s => m - s.1.toNat)
  (fun r => (r = .go ((gl h a m,0),0)∧∀ j:Nat,j < m→(h (a + j)).length≤B∧Z15 (h (a + j))∧tell (a + j) = some (h (a + j),0))∨((∃ o,r = .ret ((o,20),1))∧∃ j:Nat,j < m∧tell (a + j) = some ([],20))) (by
   rintro s ⟨k,hk,rfl,hall⟩;unfold Z0d.s0;simp only
   by_cases hlt:k < m
   ·rw [ZC (show (k:Int) < m by omega),cond_true,Z1 (x:=a + (k:Int)) (by omega)]
    rcases ht k hlt with ⟨t1,t2,t3⟩ | t1
    ·left
     rw [t1];obtain ⟨g1,g2⟩:=Z7w (B:=B) (n:=k) fun j hj => ⟨(hall j hj).1,(hall j hj).2.1⟩
     have hkB:k * B≤m * B:=YL _ hk
     simp only [Y0,Z2w,if_true];rw [b0_eq (by omega) (by omega) g2 t3]
     simp only [YA,Y0,beq_self_eq_true,YQ,cond_false];rw [Z1 (x:=(k:Int) + 1) (by omega)]
     refine ⟨_,rfl,⟨k + 1,hlt,by push_cast;rfl,fun j hj => ?_⟩,by simp only;omega⟩
     by_cases hjk:j = k
     ·subst hjk;exact ⟨t2,t3,t1⟩
     ·exact hall j (by omega)
    ·right
     rw [t1];exact ⟨_,rfl,.inr ⟨⟨_,rfl⟩,k,hlt,t1⟩⟩
   ·right
    obtain rfl:k = m:=by omega
    rw [ZB (by omega),cond_false]
    exact ⟨_,rfl,.inl ⟨rfl,hall⟩⟩) (0,(([],0),0)) ⟨0,YS _,rfl,fun j hj => absurd hj (Y0f _)⟩
 unfold Za Z0d
 simp only [Y0]
 rw [q1]
 rcases q2 with ⟨rfl,h1⟩ | ⟨⟨o,rfl⟩,h1⟩
 ·exact .inl ⟨rfl,h1⟩
 ·exact .inr ⟨rfl,h1⟩
end Go.Dn

namespace Go.Dn
open Go
structure BndB (f:Form) (B:Nat):Prop where
 core:f.Core.length≤12
 odd:f.Odd.length≤8
 sets:∀ l ∈ f.Core,l.length≤B
 ticks:∀ g ∈ f.Odd,g.Ticks.length≤B
theorem Bnd.b {f:Form} (h:Bnd f):BndB f 720:=⟨h.core,h.odd,h.sets,h.ticks⟩
theorem BndB.small {f:Form} {B:Nat} (h:BndB f B) (hB:B≤720):Bnd f:=⟨h.core,h.odd,fun l hl => Yd (h.sets l hl) hB,fun g hg => Yd (h.ticks g hg) hB⟩
theorem csz_lenB {f:Form} {B:Nat} (hs:Shape f) (h:BndB f B) (i:Int):(csz f i).length≤B:=by
 unfold csz
 by_cases h0:f.Count = 0
 ·rw [if_pos h0];simp
 ·rw [if_neg h0];unfold cs;rw [YJ];exact h.sets _ (Z0H hs h0 i).2
theorem setAt_lenB {f:Form} {B:Nat} (hs:Shape f) (h:BndB f B) (i:Int):(ZH f i).length≤B:=by
 by_cases ho:Z12 f i
 ·obtain ⟨x,hx,rfl⟩:=ho
  rw [Z1Q hs.inc hx];exact h.ticks x hx
 ·rw [ZAQ ho];exact csz_lenB hs h i
theorem rounds_eq {f:Form} (hs:Shape f) (h12:f.Core.length≤12) (h0:0 < f.Count) {m:Nat} (m1:1≤m) (m2:m≤6000):∃ u v:Nat,Z0j f m = some ((v:Int),f.Count * u)∧f.Count * (u:Int) = v * m∧1≤u∧u≤m∧1≤v∧v≤12:=by
 have hcnt:=hs.count
 unfold Z0j
 rw [Z3L (show ¬ f.Count = 0 by omega),cond_false,ZBH (by unfold In64;omega) (by unfold In64;omega)]
 simp only [Y0]
 obtain ⟨c,hc⟩ : ∃ c:Nat,f.Count = c:=⟨f.Core.length,hcnt⟩
 rw [hc] at h0 ⊢
 have hcl:c≤12:=by omega
 unfold lcmS
 rw [if_neg (by omega)]
 simp only [Int.natAbs_natCast]
 have g0:0 < Nat.gcd c m:=Nat.gcd_pos_of_pos_left _ (by omega)
 obtain ⟨v,hv⟩:=Nat.gcd_dvd_left c m
 obtain ⟨u,hu⟩:=Nat.gcd_dvd_right c m
 generalize Nat.gcd c m = g at *
 have e1:c / g = v:=by rw [hv];exact Nat.mul_div_cancel_left v g0
 rw [e1]
 have v1:1≤v:=by
  rcases Nat.eq_zero_or_pos v with h | h
  ·rw [h] at hv;omega
  ·exact h
 have u1:1≤u:=by
  rcases Nat.eq_zero_or_pos u with h | h
  ·rw [h] at hu;omega
  ·exact h
 have vle:v≤c:=by rw [hv];exact Nat.le_mul_of_pos_left v g0
 have ule:u≤m:=by rw [hu];exact Nat.le_mul_of_pos_left u g0
 have e2:v * m = c * u:=by rw [hu,hv];exact (by rw [Nat.mul_comm v,Nat.mul_assoc,Nat.mul_comm u,← Nat.mul_assoc])
 have hb:v * m≤12 * 6000:=Y09 (by omega) m2
 have e3:((v:Int) * (m:Int)) = ((v * m:Nat):Int):=by push_cast;rfl
 rw [e3,Z9f (by unfold In64;omega)]
 simp only
 rw [nz?_ok (show (m:Int) ≠ 0 by omega)]
 simp only [Y0]
 have e4:((v * m:Nat):Int).tdiv (m:Int) = (v:Int):=by
  push_cast
  exact Int.mul_tdiv_cancel _ (by omega)
 rw [e4,Z1 (by omega)]
 refine ⟨u,v,?_,?_,u1,ule,v1,by omega⟩
 ·rw [e2];push_cast;rfl
 ·have:=congrArg (fun n:Nat => (n:Int)) e2
  push_cast at this
  exact this.symm
theorem sum_loop {f:Form} {B:Nat} (h12:f.Core.length≤12) (hB:B≤8640) (hs:∀ l ∈ f.Core,l.length≤B):∃ z,loopO (ZS.s0 f) (0,0) = some z∧0≤z∧z≤12 * B:=by
 obtain ⟨r,q1,q2⟩:=Z0Y (step:=ZS.s0 f) (fun s => ∃ (k z:Nat),k≤f.Core.length∧s = ((z:Int),(k:Int))∧z≤k * B) (fun s => f.Core.length - s.2.toNat) (fun r => 0≤r∧r≤12 * B) (by
  rintro s ⟨k,z,hk,rfl,hz⟩;unfold ZS.s0;simp only
  by_cases hlt:k < f.Core.length
  ·left
   rw [ZC (show (k:Int) < f.Core.length by omega),cond_true,at?_nat hlt]
   simp only [Y0];have hk12:k * B≤12 * B:=YL _ (by omega)
   have hlen:=hs _ (YE hlt)
   rw [Z1 (x:=(k:Int) + 1) (by omega),Z1 (x:=(z:Int) + (f.Core[k].length:Int)) (by omega)]
   exact ⟨_,rfl,⟨k + 1,z + f.Core[k].length,hlt,by push_cast;rfl,by rw [Yu];omega⟩,by simp only;omega⟩
  ·right
   have hk12:k * B≤12 * B:=YL _ (by omega)
   rw [ZB (by omega),cond_false]
   exact ⟨_,rfl,by omega,by omega⟩) (0,0) ⟨0,0,YS _,rfl,by simp⟩
 exact ⟨r,q1,q2⟩
noncomputable def Z5W (f:Form) (m v:Nat):List (List Span):=(List.range v).map fun (i:Nat) => gl (csz f) ((i:Int) * m) m
theorem raw_tell {f:Form} {B:Nat} (hl:Lim f) (hs:Shape f) (hb:BndB f B) {i:Int} (hi:In64 i):(ZV i f = some (csz f i,0)∧(csz f i).length≤B∧Z15 (csz f i))∨ZV i f = some ([],20):=by
 unfold ZV
 rcases raw_eq hl hs hi with ⟨e,t,_⟩ | e
 ·rw [e];exact .inl ⟨rfl,csz_lenB hs hb i,t⟩
 ·rw [e];exact .inr rfl
theorem get_tell {f:Form} {B:Nat} (hl:Lim f) (hs:Shape f) (hb:BndB f B) {i:Int} (hi:In64 i):(ZQ i f = some (ZH f i,0)∧(ZH f i).length≤B∧Z15 (ZH f i))∨ZQ i f = some ([],20):=by
 unfold ZQ
 rw [Z1I hl hs hi]
 by_cases h:Z3 i∧fits f i
 ·rw [if_pos h];exact .inl ⟨rfl,setAt_lenB hs hb i,h.2⟩
 ·rw [if_neg h];exact .inr rfl
theorem plain_core {f:Form} {B:Nat} (hl:Lim f) (hs:Shape f) (hb:BndB f B) {m u v:Nat} {p:Int} (m1:1≤m) (m2:m≤200) (hB:B≤8640) (hv:v≤12) (hp:(Zn f.Period (w64 ((f.Count * (u:Int)).tdiv f.Count))).1 = p) :
  (loopO (ZS.s1 f m ((v:Int),f.Count * u)) (0,[]) = some (.go (Z5W f m v,p))∧∀ l ∈ Z5W f m v,l.length≤m * B∧Z15 l)∨(loopO (ZS.s1 f m ((v:Int),f.Count * u)) (0,[]) = some (.ret 20)∧∃ i j:Nat,i < v∧j < m∧ZV ((i:Int) * m + j) f = some ([],20)):=by
 have hmB:m * B≤200 * 8640:=Y09 m2 hB
 obtain ⟨r,q1,q2⟩:=Z0Y (step:=ZS.s1 f m ((v:Int),f.Count * u))
  (fun s => ∃ k:Nat,k≤v∧s = ((k:Int),Z5W f m k)∧∀ l ∈ Z5W f m k,l.length≤m * B∧Z15 l)
  (fun s => v - s.1.toNat)
  (fun r => (r = .go (Z5W f m v,p)∧∀ l ∈ Z5W f m v,l.length≤m * B∧Z15 l)∨(r = .ret 20∧∃ i j:Nat,i < v∧j < m∧ZV ((i:Int) * m + j) f = some ([],20))) (by
   rintro s ⟨k,hk,rfl,hall⟩;unfold ZS.s1;simp only
   by_cases hlt:k < v
   ·have hkm:(k:Int) * m≤12 * 200:=by
     have:k * m≤12 * 200:=Y09 (by omega) m2
     have e:(k:Int) * m = ((k * m:Nat):Int):=by push_cast;rfl
     rw [e];omega
    have hkm0:0≤(k:Int) * m:=Yr (by omega) (by omega)
    rw [ZC (show (k:Int) < v by omega),cond_true,Z1 (x:=(k:Int) * m) (by omega)]
    rcases Z5x (tell:=fun z0 => ZV z0 f) (h:=csz f) (a:=(k:Int) * m) (m:=m) (B:=B) (by omega) (by omega) (by omega) (by omega) (fun j hj => raw_tell hl hs hb (by unfold In64;omega)) with ⟨g1,g2⟩ | ⟨g1,j,g2,g3⟩
    ·left
     rw [g1];simp only [Y0,bne_self_eq_false,cond_false];have hlen:(Z5W f m k).length = k:=by unfold Z5W;rw [YJ,Y0S]
     rw [app?_ok (by
      have:=Z1F
      simp only [YI];omega)]
     simp only [Y0];rw [Z1 (x:=(k:Int) + 1) (by omega)]
     have e:Z5W f m k ++ [gl (csz f) ((k:Int) * m) m] = Z5W f m (k + 1):=by unfold Z5W;rw [List.range_succ,Yx];rfl
     refine ⟨_,rfl,⟨k + 1,hlt,by rw [e];push_cast;rfl,fun l hl' => ?_⟩,by simp only;omega⟩
     rw [← e] at hl'
     rcases List.mem_append.1 hl' with h | h
     ·exact hall l h
     ·rw [YD] at h;subst h;exact Z7w (B:=B) (n:=m) fun j hj => ⟨(g2 j hj).1,(g2 j hj).2.1⟩
    ·right
     rw [g1];exact ⟨_,rfl,.inr ⟨rfl,k,j,hlt,g2,g3⟩⟩
   ·right
    obtain rfl:k = v:=by omega
    rw [ZB (by omega),cond_false,hp]
    exact ⟨_,rfl,.inl ⟨rfl,hall⟩⟩) (0,[]) ⟨0,YS _,rfl,by simp [Z5W]⟩
 rcases q2 with ⟨rfl,h⟩ | ⟨rfl,h⟩
 ·exact .inl ⟨q1,h⟩
 ·exact .inr ⟨q1,h⟩
structure PlainG (f:Form) (m B:Nat) (g:Form):Prop where
 odd:g.Odd = []
 zero:f.Count = 0→g = Form.mk 0 0 [] []
 some:0 < f.Count→∃ u v:Nat,f.Count * (u:Int) = v * m∧1≤u∧u≤m∧1≤v∧v≤12∧g = Form.mk (f.Period * u) v (Z5W f m v) []
 sets:∀ l ∈ g.Core,l.length≤m * B∧Z15 l
 few:g.Core.length≤12
theorem plain_eq {f:Form} {B:Nat} (hl:Lim f) (hs:Shape f) (hb:BndB f B) {m:Nat} (m1:1≤m) (m2:m≤200) (hB:B≤8640) :
  ∃ g e,ZS f m = some (g,e)∧(e = 0→PlainG f m B g):=by
 unfold ZS
 have hcnt:=hs.count
 have hper:=hs.per
 have hcore:=hb.core
 by_cases h0:f.Count = 0
 ·have:Z0j f m = some (0,0):=by unfold Z0j;rw [Z6O h0];rfl
  rw [this];refine ⟨_,_,rfl,fun _ => ⟨rfl,fun _ => rfl,fun h => by omega,by simp,by simp⟩⟩
 ·obtain ⟨u,v,r1,r2,u1,u2,v1,v2⟩:=rounds_eq hs hcore (by omega) m1 (by omega)
  rw [r1];simp only [Y0];rw [Z3L (show ¬ (v:Int) = 0 by omega),cond_false]
  obtain ⟨z,hz,_⟩:=sum_loop (B:=B) hcore hB hb.sets
  rw [hz];simp only [Y0];rw [nz?_ok h0];simp only [Y0];have ediv:(f.Count * (u:Int)).tdiv f.Count = u:=Int.mul_tdiv_cancel_left _ h0
  by_cases hbig:w64 (z * w64 ((f.Count * (u:Int)).tdiv f.Count)) > 60000
  ·rw [ZC hbig];exact ⟨_,_,rfl,fun h => by cases h⟩
  ·rw [ZB hbig];simp only [cond_false];have hmul:Zn f.Period (w64 ((f.Count * (u:Int)).tdiv f.Count)) = (f.Period * u,0):=by
    rw [ediv,Z1 (x:=(u:Int)) (by omega),Z4i (by unfold In64;omega) (by unfold In64;omega)]
    apply Z9f;have h1:0≤f.Period * (u:Int):=Yr hper.1 (by omega)
    have h2:f.Period * (u:Int)≤1099511627776 * u:=YH hper.2 (by omega)
    unfold In64;omega
   rw [hmul];simp only [bne_self_eq_false,Y0R]
   by_cases hp:f.Period * (u:Int) > 1099511627776
   ·rw [ZC hp];exact ⟨_,_,rfl,fun h => by cases h⟩
   ·rw [ZB hp];simp only [cond_false]
    rcases plain_core hl hs hb (m:=m) (u:=u) (v:=v) (p:=f.Period * u) m1 m2 hB v2 (by rw [hmul]) with ⟨c1,c2⟩ | ⟨c1,_⟩
    ·rw [c1];refine ⟨_,_,rfl,fun _ => ⟨rfl,fun h => absurd h h0,fun _ => ⟨u,v,r2,u1,u2,v1,v2,rfl⟩,c2,?_⟩⟩
     show (Z5W f m v).length≤12
     unfold Z5W;rw [YJ,Y0S];exact v2
    ·rw [c1];exact ⟨_,_,rfl,fun h => by cases h⟩
end Go.Dn

namespace Go.Dn
open Go
structure OddsG (f:Form) (m B k:Nat) (O:List Granule):Prop where
 of:∀ g ∈ O,∃ x ∈ f.Odd.take k,g.Index = x.Index / m
 all:∀ x ∈ f.Odd.take k,∃ g ∈ O,g.Index = x.Index / m
 tick:∀ g ∈ O,g.Ticks = gl (ZH f) (g.Index * m) m∧g.Ticks.length≤m * B∧Z15 g.Ticks
 inc:O.Pairwise (fun a b => a.Index < b.Index)
 len:O.length≤k
theorem last_at {α:Type} {a:List α} {x:α} (h:a.length≤1000):at? (a ++ [x]) (w64 (((a ++ [x]).length:Int) - 1)) = some x:=by
 have h:=at?_nat (l:=a ++ [x]) (k:=a.length) (by simp)
 have e:(((a ++ [x]).length:Int) - 1) = (a.length:Int):=by simp
 rw [e,Z1 (by omega),h]
 simp
theorem odds_loop {f:Form} {B:Nat} (hl:Lim f) (hs:Shape f) (hb:BndB f B) {m:Nat} (m1:1≤m) (m2:m≤200) (hB:B≤8640) :
  (∃ O,loopO (Zj.s0 f m) (0,[]) = some (.go O)∧OddsG f m B f.Odd.length O) ∨
  (loopO (Zj.s0 f m) (0,[]) = some (.ret (Form.mk 0 0 [] [],20))∧∃ x ∈ f.Odd,∃ j:Nat,j < m∧ZQ (x.Index / m * m + j) f = some ([],20)):=by
 have hmB:m * B≤200 * 8640:=Y09 m2 hB
 have hodd:=hb.odd
 have hm0:(0:Int) < m:=by omega
 obtain ⟨r,q1,q2⟩:=Z0Y (step:=Zj.s0 f m)
  (fun s => ∃ (k:Nat) (O:List Granule),k≤f.Odd.length∧s = ((k:Int),O)∧OddsG f m B k O)
  (fun s => f.Odd.length - s.1.toNat)
  (fun r => (∃ O,r = .go O∧OddsG f m B f.Odd.length O)∨(r = .ret (Form.mk 0 0 [] [],20)∧∃ x ∈ f.Odd,∃ j:Nat,j < m∧ZQ (x.Index / m * m + j) f = some ([],20))) (by
   rintro s ⟨k,O,hk,rfl,hO⟩;unfold Zj.s0;simp only
   by_cases hlt:k < f.Odd.length
   ·have hmem:=YE hlt
    have htk:f.Odd.take (k + 1) = f.Odd.take k ++ [f.Odd[k]]:=(Yc hlt).symm
    have hti:=(hs.odd _ hmem).2
    have hbefore:∀ y ∈ f.Odd.take k,y.Index < f.Odd[k].Index:=fun y hy => by
     obtain ⟨j,hj,rfl⟩:=Y03 hy
     rw [List.getElem_take];rw [YT] at hj;exact hs.inc j k _ _ (by omega) (Y2 (by omega)) (Y2 hlt)
    unfold Z3 at hti;rw [ZC (show (k:Int) < f.Odd.length by omega),cond_true,at?_nat hlt]
    simp only [Y0];generalize f.Odd[k] = x at *
    rw [Z2v (by unfold In64;omega) (by unfold In64;omega),Z4I hm0]
    simp only [Y0];have q1:=Yw x.Index m
    have q2:=Ym x.Index (show (m:Int) ≠ 0 by omega)
    have q3:=Ys x.Index hm0
    have hcond:∃ b:Bool,(bif (decide ((O.length:Int) > 0)) then (at? O (w64 ((O.length:Int) - 1))).bind fun x4 => some (x4.Index == x.Index / m) else some false) = some b ∧
      (b = true→∃ g ∈ O,g.Index = x.Index / m)∧(b = false→∀ g ∈ O,g.Index < x.Index / m):=by
     by_cases hn:O = []
     ·subst hn;exact ⟨false,rfl,fun h => (by cases h),fun _ g hg => by cases hg⟩
     ·have hb1:O = O.dropLast ++ [O.getLast hn]:=(List.dropLast_concat_getLast hn).symm
      have hlen:=hO.len
      have hp:=hO.inc
      have hle:∀ g ∈ O,g.Index≤x.Index / m:=fun g hg => by
       obtain ⟨y,hy,e⟩:=hO.of g hg
       rw [e];exact Int.ediv_le_ediv hm0 (Y0z (hbefore y hy))
      generalize O.dropLast = a at *
      generalize O.getLast hn = z at *
      subst hb1;have ha:a.length≤1000:=by rw [YG] at hlen;omega
      rw [ZC (show (((a ++ [z]).length:Nat):Int) > 0 by simp),cond_true,last_at ha]
      simp only [Y0];refine ⟨_,rfl,fun h => ⟨z,by simp,by simpa using h⟩,fun h g hg => ?_⟩
      have hz:z.Index ≠ x.Index / m:=by simpa using h
      have hz2:=hle z (by simp)
      rw [List.pairwise_append] at hp
      rcases List.mem_append.1 hg with h1 | h1
      ·have:=hp.2.2 g h1 z (by simp);omega
      ·rw [YD] at h1;subst h1;omega
    obtain ⟨b,b1,b2,b3⟩:=hcond
    rw [b1];simp only [Y0];cases b with
    | true =>
     left
     obtain ⟨g,g1,g2⟩:=b2 rfl
     simp only [cond_true,Y0,Jx.elim];rw [Z1 (x:=(k:Int) + 1) (by omega)]
     refine ⟨_,rfl,⟨k + 1,O,hlt,by push_cast;rfl,?_,?_,hO.tick,hO.inc,by have:=hO.len;omega⟩,by simp only;omega⟩
     ·intro y hy;obtain ⟨w,w1,w2⟩:=hO.of y hy
      exact ⟨w,by rw [htk];exact YZ _ w1,w2⟩
     ·intro y hy;rw [htk] at hy
      rcases List.mem_append.1 hy with h | h
      ·exact hO.all y h
      ·rw [YD] at h;subst h;exact ⟨g,g1,g2⟩
    | false =>
     have b4:=b3 rfl
     simp only [cond_false];have hqm:x.Index / m * m = x.Index - x.Index % m:=by rw [Yt];omega
     rw [Z1 (x:=x.Index / m * m) (by omega)]
     rcases Z5x (tell:=fun z0 => ZQ z0 f) (h:=ZH f) (a:=x.Index / m * m) (m:=m) (B:=B) (by omega) (by omega) (by omega) (by omega) (fun j hj => get_tell hl hs hb (by unfold In64;omega)) with ⟨g1,g2⟩ | ⟨g1,j,g2,g3⟩
     ·left
      rw [g1];simp only [Y0,bne_self_eq_false,cond_false];have hlen:=hO.len
      rw [app?_ok (by
       have:=Z1F
       simp only [YI];omega)]
      simp only [Y0,Jx.elim];rw [Z1 (x:=(k:Int) + 1) (by omega)]
      obtain ⟨f1,f2⟩:=Z7w (h:=ZH f) (a:=x.Index / m * m) (B:=B) (n:=m) fun j hj => ⟨(g2 j hj).1,(g2 j hj).2.1⟩
      refine ⟨_,rfl,⟨k + 1,_,hlt,by push_cast;rfl,?_,?_,?_,?_,by rw [YG,YI];omega⟩,by simp only;omega⟩
      ·intro y hy
       rcases List.mem_append.1 hy with h | h
       ·obtain ⟨w,w1,w2⟩:=hO.of y h
        exact ⟨w,by rw [htk];exact YZ _ w1,w2⟩
       ·rw [YD] at h;subst h;exact ⟨x,by rw [htk];exact Yk _ (List.mem_singleton.2 rfl),rfl⟩
      ·intro y hy;rw [htk] at hy
       rcases List.mem_append.1 hy with h | h
       ·obtain ⟨g,g3,g4⟩:=hO.all y h
        exact ⟨g,YZ _ g3,g4⟩
       ·rw [YD] at h;subst h;exact ⟨_,Yk _ (List.mem_singleton.2 rfl),rfl⟩
      ·intro y hy
       rcases List.mem_append.1 hy with h | h
       ·exact hO.tick y h
       ·rw [YD] at h;subst h;exact ⟨rfl,f1,f2⟩
      ·rw [List.pairwise_append];refine ⟨hO.inc,by simp,fun a ha c hc => ?_⟩
       rw [YD] at hc;subst hc;exact b4 a ha
     ·right
      rw [g1];exact ⟨_,rfl,.inr ⟨rfl,x,hmem,j,g2,g3⟩⟩
   ·right
    obtain rfl:k = f.Odd.length:=by omega
    rw [ZB (by omega),cond_false]
    exact ⟨_,rfl,.inl ⟨O,rfl,hO⟩⟩) (0,[]) ⟨0,[],YS _,rfl,by simp,by simp,by simp,by simp,by simp⟩
 rcases q2 with ⟨O,rfl,h⟩ | ⟨rfl,h⟩
 ·exact .inl ⟨O,q1,h⟩
 ·exact .inr ⟨q1,h⟩
end Go.Dn

namespace Go.Dn
open Go
structure GroupG (f:Form) (m B:Nat) (F:Form):Prop where
 csz:∀ i,csz F i = gl (csz f) (i * m) m
 set:∀ i,ZH F i = gl (ZH f) (i * m) m
 bnd:BndB F (m * B)
theorem quot_tick {n p:Int} (hp:0 < p) (hn:Z3 n):Z3 (n / p):=by
 unfold Z3 at *
 constructor
 ·exact Y0d hp (by
   have:(1099511627776:Int) * 1≤1099511627776 * p:=YU (by omega) (by decide)
   omega)
 ·exact Int.ediv_le_of_le_mul hp (by
   have:(1099511627776:Int) * 1≤1099511627776 * p:=YU (by omega) (by decide)
   omega)
end Go.Dn

namespace Go.Dn
open Go
def insG:Bool→List Int→Int→List Int
 | p,[],x => if p then [] else [x]
 | p,y :: l,x => if y = x then y :: insG true l x else if p then y :: insG true l x else if x < y then x :: y :: insG true l x else y :: insG false l x
theorem Z3h:∀ (l:List Int) (x:Int),insG true l x = l
 | [],x => rfl
 | y :: l,x => by simp [insG,Z3h l x]
theorem insG_cons (p:Bool) (y:Int) (l:List Int) (x:Int):insG p (y :: l) x = if y = x then y :: l else if p then y :: l else if x < y then x :: y :: l else y :: insG false l x:=by
 rw [insG,Z3h]
theorem ZAH:∀ (l:List Int) (x z:Int),z ∈ insG false l x ↔ z ∈ l∨z = x
 | [],x,z => by simp [insG]
 | y :: l,x,z => by
  unfold insG;rw [Z3h]
  split
  ·rename_i h;subst h
   constructor
   ·intro h1;exact .inl h1
   ·intro h1
    rcases h1 with h1 | h1
    ·exact h1
    ·rw [h1];exact YK
  ·simp only [Y9,if_false]
   split
   ·simp only [Y12]
    constructor
    ·rintro (h | h | h)
     ·exact .inr h
     ·exact .inl (.inl h)
     ·exact .inl (.inr h)
    ·rintro ((h | h) | h)
     ·exact .inr (.inl h)
     ·exact .inr (.inr h)
     ·exact .inl h
   ·simp [ZAH l x z,or_assoc]
theorem Z7z:∀ (l:List Int) (x:Int),l.Pairwise (· < ·)→(insG false l x).Pairwise (· < ·)
 | [],x,_ => by simp [insG]
 | y :: l,x,h => by
  unfold insG;rw [Z3h];rw [List.pairwise_cons] at h
  split
  ·exact List.pairwise_cons.2 h
  ·rename_i hne;simp only [Y9,if_false]
   split
   ·rename_i hlt;refine List.pairwise_cons.2 ⟨?_,List.pairwise_cons.2 h⟩;intro z hz
    rcases List.mem_cons.1 hz with hz | hz
    ·omega
    ·have:=h.1 z hz;omega
   ·refine List.pairwise_cons.2 ⟨?_,Z7z l x h.2⟩;intro z hz
    rcases (ZAH l x z).1 hz with hz | hz
    ·exact h.1 z hz
    ·omega
theorem insG_len:∀ (p:Bool) (l:List Int) (x:Int),(insG p l x).length≤l.length + 1
 | p,[],x => by unfold insG;split <;> simp
 | p,y :: l,x => by
  have h1:=insG_len false l x
  unfold insG;rw [Z3h]
  split
  ·simp
  ·split
   ·simp
   ·split <;> simp <;> omega
theorem insert_eq {l:List Int} (hl:l.length≤1000000000) (x:Int):Zv l x = some (insG false l x):=by
 have hr:=Z1F
 unfold Zv
 have key:=Z0Y (step:=Zv.s0 l x) (I:=fun s => ∃ (k:Nat),s.2.1 = (k:Int)∧k≤l.length∧s.2.2 ++ insG s.1 (l.drop k) x = insG false l x∧s.2.2.length≤k + (if s.1 then 1 else 0)) (fun s => l.length - s.2.1.toNat)
  (fun r => (r.1 = true∧r.2 = insG false l x)∨(r.1 = false∧r.2 ++ [x] = insG false l x∧r.2.length≤l.length + 1)) ?_ (false,0,[]) ⟨0,rfl,YS _,rfl,by simp⟩
 ·obtain ⟨⟨p,out⟩,e,h⟩:=key
  rw [e,Y0]
  rcases h with ⟨h1,h2⟩ | ⟨h1,h2,h3⟩
  ·simp only at h1 h2;subst h1;simp only [YQ,cond_false,Y0,h2]
  ·simp only at h1 h2 h3;subst h1;simp only [Yq,cond_true];rw [app?_ok (by simp;omega)]
   simp only [Y0,h2]
 ·rintro ⟨p,i,out⟩ ⟨k,hk,hkl,hinv,hlen⟩;simp only at hk hinv hlen;subst hk;unfold Zv.s0;simp only [];have hw:w64 ((k:Int) + 1) = ((k + 1:Nat):Int):=by rw [Z1 (by omega)];push_cast;rfl
  by_cases hlt:k < l.length
  ·rw [ZC (by omega),cond_true,at?_nat hlt]
   have hd:l.drop k = l[k] :: l.drop (k + 1):=Y10 hlt
   rw [hd] at hinv;generalize l[k] = y at hinv;simp only [Y0];rw [insG_cons] at hinv;have hp01:(if p = true then 1 else 0:Nat)≤1:=by split <;> omega
   have hmeas:∀ z:Bool × List Int,l.length - ((z.1,w64 ((k:Int) + 1),z.2):Bool × Int × List Int).2.1.toNat < l.length - ((p,(k:Int),out):Bool × Int × List Int).2.1.toNat:=by
    intro z;simp only [hw,Y0J];omega
   by_cases hyx:y = x
   ·rw [if_pos hyx] at hinv;rw [Z6O hyx,cond_true];simp only [Y0,YQ,cond_false];rw [app?_ok (by simp;omega)]
    refine .inl ⟨_,rfl,⟨k + 1,hw,hlt,?_,by simp;omega⟩,hmeas (true,_)⟩
    simp only [Y0];rw [Z3h,Yi];exact hinv
   ·rw [if_neg hyx] at hinv;rw [Z3L hyx,cond_false];cases p with
    | true =>
     rw [if_pos rfl] at hinv;simp only [Y0,YQ,cond_false];rw [app?_ok (by simp;omega)]
     refine .inl ⟨_,rfl,⟨k + 1,hw,hlt,?_,by simp;omega⟩,hmeas (true,_)⟩
     simp only [Y0];rw [Z3h,Yi];exact hinv
    | false =>
     rw [if_neg (by simp)] at hinv
     simp only [Y0,Yq,cond_true]
     by_cases hlt2:x < y
     ·rw [if_pos hlt2] at hinv;rw [ZC hlt2,cond_true,app?_ok (by simp;omega)]
      simp only [Y0];rw [app?_ok (by simp;omega)]
      refine .inl ⟨_,rfl,⟨k + 1,hw,hlt,?_,?_⟩,hmeas (true,_)⟩
      ·simp only [Y0];rw [Z3h,Yi,Yi];exact hinv
      ·simp only [Y0,YG,YI];simp only [Y9,if_false] at hlen;simp;omega
     ·rw [if_neg hlt2] at hinv;simp only [Y9,if_false] at hlen;rw [ZB hlt2,cond_false];simp only [Y0];rw [app?_ok (by simp;omega)]
      refine .inl ⟨_,rfl,⟨k + 1,hw,hlt,?_,by simp;omega⟩,hmeas (false,_)⟩
      simp only [Y0];rw [Yi];exact hinv
  ·have:k = l.length:=by omega
   subst this;rw [ZB (by omega),cond_false]
   refine .inr ⟨_,rfl,?_⟩;simp only [List.drop_length] at hinv;cases p with
   | true => exact .inl ⟨rfl,by simpa [insG] using hinv⟩
   | false => exact .inr ⟨rfl,by simpa [insG] using hinv,by simp only [Y9,if_false] at hlen;show out.length≤_;omega⟩
end Go.Dn

namespace Go.Dn
open Go
def hasT (l:List Span) (t:Int):Prop:=∃ u ∈ l,u.From≤t∧t≤u.To
def midT (l:List Span):Prop:=∀ u ∈ l,-4611686018427387904≤u.From∧u.From≤4611686018427387904∧-4611686018427387904≤u.To∧u.To≤4611686018427387904
theorem Z6m {l:List Span} (hl:l.length≤1000000000) (t:Int):(Z00 l t = some true∧hasT l t)∨(Z00 l t = some false∧¬ hasT l t):=by
 unfold Z00
 have key:=Z1L (l:=l) (step:=Z00.s0 l t) (good:=fun _ u => ¬ (u.From≤t∧t≤u.To)) (yes:=.go ()) (no:=.ret true) ?_ ?_
 ·rcases key with ⟨h1,h2⟩ | ⟨h1,h2⟩
  ·rw [h1];refine .inr ⟨rfl,?_⟩;rintro ⟨u,hu,hh⟩;obtain ⟨k,hk⟩:=YB hu
   exact h2 k u hk hh
  ·rw [h1];refine .inl ⟨rfl,Classical.byContradiction fun hn => h2 fun k u hk hh => hn ⟨u,Y6 hk,hh⟩⟩
 ·intro k u hk _;obtain ⟨hlt,rfl⟩:=List.getElem?_eq_some_iff.1 hk
  unfold Z00.s0;rw [ZC (by omega),cond_true,at?_nat hlt]
  generalize l[k] = u;simp only [Y0];rw [Z1 (by omega)]
  by_cases h1:u.From≤t
  ·rw [ZC h1,cond_true,Y0]
   by_cases h2:t≤u.To
   ·rw [ZC h2,cond_true];exact .inr ⟨rfl,fun h => h ⟨h1,h2⟩⟩
   ·rw [ZB h2,cond_false];exact .inl ⟨rfl,fun h => h2 h.2⟩
  ·rw [ZB h1,cond_false,Y0,cond_false];exact .inl ⟨rfl,fun h => h1 h.1⟩
 ·unfold Z00.s0;rw [ZB (by omega),cond_false]
def isPl (l:List Span) (z:Int):Prop:=∃ u ∈ l,z = u.From∨z = u.To + 1
theorem ZB0 {a:List Span} (ha:a.length≤100000000) (hm:midT a) {P0:List Int} (h0:P0.Pairwise (· < ·)) (hl:P0.length≤300000000) :
  ∃ P,loopO (Zk.s0 a) (P0,0) = some P∧P.Pairwise (· < ·)∧(∀ z,z ∈ P ↔ z ∈ P0∨isPl a z)∧P.length≤P0.length + 2 * a.length:=by
 have key:=Z0Y (step:=Zk.s0 a) (I:=fun s => ∃ (k:Nat) (P:List Int),s = (P,(k:Int))∧k≤a.length∧P.Pairwise (· < ·)∧(∀ z,z ∈ P ↔ z ∈ P0∨isPl (a.take k) z)∧P.length≤P0.length + 2 * k) (fun s => a.length - s.2.toNat)
  (fun P => P.Pairwise (· < ·)∧(∀ z,z ∈ P ↔ z ∈ P0∨isPl a z)∧P.length≤P0.length + 2 * a.length) ?_ (P0,0) ⟨0,P0,rfl,YS _,h0,fun z => by simp [isPl],by omega⟩
 ·exact key
 ·rintro _ ⟨k,P,rfl,hk,hs,hmem,hlen⟩;unfold Zk.s0;simp only []
  by_cases hlt:k < a.length
  ·rw [ZC (by omega),cond_true,at?_nat hlt]
   have hb:=hm _ (YE hlt)
   have htk:a.take (k + 1) = a.take k ++ [a[k]]:=by rw [List.take_add_one,Y2 hlt];rfl
   simp only [Y0];rw [Z1 (x:=a[k].To + 1) (by omega)]
   have l1:=insG_len false P a[k].From
   have l2:=insG_len false (insG false P a[k].From) (a[k].To + 1)
   rw [insert_eq (by omega),Y0,insert_eq (by omega),Y0]
   have hw:w64 ((k:Int) + 1) = ((k + 1:Nat):Int):=by rw [Z1 (by omega)];push_cast;rfl
   rw [hw];refine .inl ⟨_,rfl,⟨k + 1,_,rfl,hlt,Z7z _ _ (Z7z _ _ hs),fun z => ?_,by omega⟩,by simp only [Y0J];omega⟩
   rw [ZAH,ZAH,hmem,htk];unfold isPl
   constructor
   ·rintro (((h | ⟨u,hu,h⟩) | h) | h)
    ·exact .inl h
    ·exact .inr ⟨u,YZ _ hu,h⟩
    ·exact .inr ⟨a[k],Yk _ (List.mem_singleton.2 rfl),.inl h⟩
    ·exact .inr ⟨a[k],Yk _ (List.mem_singleton.2 rfl),.inr h⟩
   ·rintro (h | ⟨u,hu,h⟩)
    ·exact .inl (.inl (.inl h))
    ·rcases List.mem_append.1 hu with hu | hu
     ·exact .inl (.inl (.inr ⟨u,hu,h⟩))
     ·rw [List.mem_singleton.1 hu] at h
      rcases h with h | h
      ·exact .inl (.inr h)
      ·exact .inr h
  ·have:k = a.length:=by omega
   subst this;rw [ZB (by omega),cond_false]
   rw [Yg] at hmem;exact .inr ⟨P,rfl,hs,hmem,hlen⟩
theorem places_eq {a b:List Span} (ha:a.length≤100000000) (hb:b.length≤100000000) (ma:midT a) (mb:midT b) :
  ∃ P,Zk a b = some P∧P.Pairwise (· < ·)∧(∀ z,z ∈ P ↔ isPl a z∨isPl b z)∧P.length≤2 * a.length + 2 * b.length:=by
 obtain ⟨P,e1,s1,m1,l1⟩:=ZB0 ha ma (P0:=[]) List.Pairwise.nil (by simp)
 obtain ⟨Q,e2,s2,m2,l2⟩:=ZB0 hb mb s1 (by simp at l1;omega)
 have e2':loopO (Zk.s1 b) (P,0) = some Q:=e2
 unfold Zk
 rw [e1,Y0,e2',Y0]
 refine ⟨Q,rfl,s2,fun z => ?_,by simp at l1;omega⟩
 rw [m2,m1];simp
end Go.Dn

namespace Go.Dn
open Go
theorem right_before {l:List Span} {k:Nat} {t:Int} (hg:∀ (j:Nat) (y:Span),j < k→l[j]? = some y→Z2H l j y) (hk:k ≠ 0) (hkl:k - 1 < l.length) (ht:l[k - 1].To < t):hasT (l.take k) (t - 1) ↔ l[k - 1].To + 1 = t:=by
 have mono:∀ (j:Nat) (y:Span),j < k→l[j]? = some y→y.To≤l[k - 1].To:=by
  have key:∀ (d j:Nat) (y:Span),j + d = k - 1→l[j]? = some y→y.To≤l[k - 1].To:=by
   intro d
   induction d with
   | zero =>
    intro j y hj hy;have:j = k - 1:=by omega
    subst this;rw [Y2 hkl,Y5] at hy;rw [hy];exact Y04 _
   | succ d ih =>
    intro j y hj hy;have hlt:j + 1 < l.length:=by omega
    have h1:=ih (j + 1) l[j + 1] (by omega) (Y2 hlt)
    obtain ⟨_,_,h2,h3⟩:=hg (j + 1) l[j + 1] (by omega) (Y2 hlt)
    have:=h3 y (by omega) (by simpa using hy)
    omega
  exact fun j y hj hy => key (k - 1 - j) j y (by omega) hy
 constructor
 ·rintro ⟨u,hu,h1,h2⟩;obtain ⟨j,hj⟩:=YB hu
  rw [YW] at hj
  split at hj
  ·rename_i hjk;have:=mono j u hjk hj
   omega
  ·cases hj
 ·intro h;refine ⟨l[k - 1],?_,?_,by omega⟩
  ·exact Y6 (i:=k - 1) (by rw [YW,if_pos (by omega)];exact Y2 hkl)
  ·obtain ⟨_,_,h3,_⟩:=hg (k - 1) _ (by omega) (Y2 hkl)
   omega
theorem Z7v {l:List Span} (hl:l.length≤1000000000) (h64:Sp64 l):(Z03 l = some true∧RightL l)∨(Z03 l = some false∧¬ RightL l):=by
 rw [Z3X]
 unfold Z03
 have key:=Z1L (l:=l) (step:=Z03.s0 l) (good:=Z2H l) (yes:=.go ()) (no:=.ret false) ?_ ?_
 ·rcases key with ⟨h1,h2⟩ | ⟨h1,h2⟩
  ·rw [h1];exact .inl ⟨rfl,h2⟩
  ·rw [h1];exact .inr ⟨rfl,h2⟩
 ·intro k s hk hprev;obtain ⟨hkl,rfl⟩:=List.getElem?_eq_some_iff.1 hk
  have h64k:=h64 l[k] (YE hkl)
  unfold In64 at h64k;unfold Z03.s0;rw [ZC (show (k:Int) < (l.length:Int) by omega),cond_true]
  simp only [at?_nat hkl,Y0]
  by_cases h1:Z3 l[k].From∧Z3 l[k].To∧l[k].From≤l[k].To
  ·have h1':=h1
   unfold Z3 at h1';rw [ZB (show ¬ l[k].From > l[k].To by omega),cond_false,ZB (show ¬ l[k].From < -1099511627776 by omega)]
   simp only [Y0,cond_false];rw [ZB (show ¬ l[k].To > 1099511627776 by omega)]
   simp only [Y0,cond_false]
   by_cases h0:k = 0
   ·subst h0;rw [ZB (show ¬ ((0:Nat):Int) > 0 by omega)]
    simp only [cond_false,Y0];rw [Z1 (by omega)]
    exact .inl ⟨rfl,h1.1,h1.2.1,h1.2.2,fun p h => absurd rfl h⟩
   ·have hkl1:k - 1 < l.length:=by omega
    have ek:w64 ((k:Int) - 1) = ((k - 1:Nat):Int):=by rw [Z1 (by omega)];omega
    rw [ZC (show (k:Int) > 0 by omega),cond_true,ek,at?_nat hkl1]
    simp only [Y0];have Z7j:Z2H l k l[k] ↔ l[k - 1].To + 2≤l[k].From:=by
     constructor
     ·intro h;exact h.2.2.2 _ h0 (Y2 hkl1)
     ·intro h;refine ⟨h1.1,h1.2.1,h1.2.2,fun p _ hp => ?_⟩
      rw [Y2 hkl1,Y5] at hp;rw [← hp];exact h
    by_cases h2:l[k].From≤l[k - 1].To
    ·rw [ZC h2,cond_true];exact .inr ⟨rfl,fun h => by have:=Z7j.1 h;omega⟩
    ·have hcut:cut? l 0 (k:Int) = some (l.take k):=by
      unfold cut?;rw [if_pos ⟨by omega,by omega,by omega⟩,Y0J]
      rfl
     rw [ZB h2,cond_false,hcut];simp only [Y0];rw [Z1 (x:=l[k].From - 1) (by omega)]
     have hb:=right_before hprev h0 hkl1 (t:=l[k].From) (by omega)
     rcases Z6m (l:=l.take k) (by rw [YT];omega) (l[k].From - 1) with ⟨e,h⟩ | ⟨e,h⟩
     ·rw [e];exact .inr ⟨rfl,fun hg => by have:=Z7j.1 hg;have:=hb.1 h;omega⟩
     ·rw [e];simp only [Y0,cond_false];rw [Z1 (by omega)]
      exact .inl ⟨rfl,Z7j.2 (by
       apply Classical.byContradiction;intro hn;exact h (hb.2 (by omega)))⟩
  ·have hno:¬ Z2H l k l[k]:=fun h => h1 ⟨h.1,h.2.1,h.2.2.1⟩
   refine .inr ⟨?_,hno⟩;unfold Z3 at h1
   by_cases q1:l[k].From > l[k].To
   ·rw [ZC q1];rfl
   ·rw [ZB q1,cond_false]
    by_cases q2:l[k].From < -1099511627776
    ·rw [ZC q2];rfl
    ·rw [ZB q2];simp only [Y0,cond_false];rw [ZC (show l[k].To > 1099511627776 by omega)]
     rfl
 ·unfold Z03.s0;rw [ZB (by omega),cond_false]
def Z7q (a b:List Span):Prop:=∀ x ∈ a,∀ y ∈ b,x.To < y.From
theorem Z81 {a b:List Span} (ha:a.length≤1000000000) (hb:b.length≤1000000000):(ZP a b = some true∧Z7q a b)∨(ZP a b = some false∧¬ Z7q a b):=by
 unfold ZP
 have inner:∀ (k:Nat) (hk:k < a.length),(loopO (ZP.s1 a b (k:Int)) 0 = some (.go ())∧∀ y ∈ b,a[k].To < y.From)∨(loopO (ZP.s1 a b (k:Int)) 0 = some (.ret false)∧¬ ∀ y ∈ b,a[k].To < y.From):=fun k hk => by
  have key:=Z1L (l:=b) (step:=ZP.s1 a b (k:Int)) (good:=fun _ y => a[k].To < y.From) (yes:=.go ()) (no:=.ret false) ?_ ?_
  ·rcases key with ⟨h1,h2⟩ | ⟨h1,h2⟩
   ·refine .inl ⟨h1,fun y hy => ?_⟩
    obtain ⟨j,hj⟩:=YB hy
    exact h2 j y hj
   ·exact .inr ⟨h1,fun h => h2 fun j y hj => h y (Y6 hj)⟩
  ·intro j y hj _;obtain ⟨hjl,rfl⟩:=List.getElem?_eq_some_iff.1 hj
   unfold ZP.s1;rw [ZC (show (j:Int) < (b.length:Int) by omega),cond_true,at?_nat hk,Y0,at?_nat hjl,Y0]
   by_cases h:a[k].To < b[j].From
   ·rw [ZB (by omega),cond_false,Z1 (by omega)]
    exact .inl ⟨rfl,h⟩
   ·rw [ZC (by omega),cond_true]
    exact .inr ⟨rfl,h⟩
  ·unfold ZP.s1;rw [ZB (by omega),cond_false]
 have key:=Z1L (l:=a) (step:=ZP.s0 a b) (good:=fun _ x => ∀ y ∈ b,x.To < y.From) (yes:=.go ()) (no:=.ret false) ?_ ?_
 ·rcases key with ⟨h1,h2⟩ | ⟨h1,h2⟩
  ·rw [h1];refine .inl ⟨rfl,fun x hx y hy => ?_⟩
   obtain ⟨j,hj⟩:=YB hx
   exact h2 j x hj y hy
  ·rw [h1];exact .inr ⟨rfl,fun h => h2 fun j x hj y hy => h x (Y6 hj) y hy⟩
 ·intro k x hk _;obtain ⟨hkl,rfl⟩:=List.getElem?_eq_some_iff.1 hk
  unfold ZP.s0;rw [ZC (show (k:Int) < (a.length:Int) by omega),cond_true]
  rcases inner k hkl with ⟨e,h⟩ | ⟨e,h⟩
  ·rw [e];simp only [Y0,Jx.elim];rw [Z1 (by omega)]
   exact .inl ⟨rfl,h⟩
  ·rw [e];exact .inr ⟨rfl,h⟩
 ·unfold ZP.s0;rw [ZB (by omega),cond_false]
theorem Z9L {l:List Span} (h:RightL l) {s:Span} (hs:s ∈ l):fstT l≤s.From∧s.From≤s.To∧s.To≤lstT l:=by
 induction l generalizing s with
 | nil => cases hs
 | cons a l ih =>
  have h0:=h.ok 0 a rfl
  cases l with
  | nil =>
   rw [YD] at hs;subst hs;exact ⟨Y04 _,h0.2.2,Y04 _⟩
  | cons b l =>
   have hg:=h.gap 0 a b rfl rfl
   have e1:fstT (a :: b :: l) = a.From:=rfl
   have e2:lstT (a :: b :: l) = lstT (b :: l):=by unfold lstT;simp
   have e3:fstT (b :: l) = b.From:=rfl
   have hb:=ih h.tail (s:=b) YK
   rw [e1,e2]
   rcases List.mem_cons.1 hs with rfl | hs
   ·refine ⟨Y04 _,h0.2.2,?_⟩;omega
   ·have:=ih h.tail hs
    omega
theorem Z1P {a b:List Span} (ha:RightL a) (hb:RightL b):Z7q a b ↔ Z3M a b:=by
 constructor
 ·intro h x hx y hy;exact h x (Y0h hx) y (List.mem_of_mem_head? hy)
 ·intro h x hx y hy;have hna:a ≠ []:=fun e => by rw [e] at hx;cases hx
  have hnb:b ≠ []:=fun e => by rw [e] at hy;cases hy
  have h2:=(Z2L hna hnb).1 h
  have h3:=Z9L ha hx
  have h4:=Z9L hb hy
  omega
theorem ZBv {l:List Span} {b:Int} (hl:l.length≤1000000) (hr:∀ s ∈ l,Z3 s.From∧Z3 s.To∧s.From≤s.To) (hb:In64 b) :
  Z0Q l b = some (if ∀ s ∈ l,Z3 (s.From + b)∧Z3 (s.To + b) then (l.map (ZY b),0) else ([],20)):=by
 unfold Z0Q
 have key:=Z0Y (step:=Z0Q.s0 l b) (I:=fun s => ∃ k:Nat,s = ((k:Int),(l.take k).map (ZY b))∧k≤l.length∧∀ j (h:j < l.length),j < k→Z3 (l[j].From + b)∧Z3 (l[j].To + b)) (fun s => l.length - s.1.toNat)
  (fun r => (r = .go (l.map (ZY b))∧∀ s ∈ l,Z3 (s.From + b)∧Z3 (s.To + b))∨(r = .ret ([],20)∧¬ ∀ s ∈ l,Z3 (s.From + b)∧Z3 (s.To + b))) ?_ (0,[]) ⟨0,rfl,YS _,fun j _ hj => absurd hj (Y0f _)⟩
 ·obtain ⟨r,e,⟨rfl,h⟩ | ⟨rfl,h⟩⟩:=key
  ·rw [e,if_pos h];rfl
  ·rw [e,if_neg h];rfl
 ·rintro _ ⟨k,rfl,hk,hd⟩;unfold Z0Q.s0;simp only []
  by_cases hlt:k < l.length
  ·have hs:=hr l[k] (YE hlt)
   unfold Z3 at hs;unfold In64 at hb;rw [ZC (show (k:Int) < (l.length:Int) by omega),cond_true]
   simp only [at?_nat hlt,Y0];rw [Z1 (x:=1099511627776 - l[k].To) (by omega),Z1 (x:=-1099511627776 - l[k].From) (by omega)]
   by_cases h1:b > 1099511627776 - l[k].To
   ·rw [ZC h1];simp only [cond_true,Y0];exact .inr ⟨_,rfl,.inr ⟨rfl,fun h => by have:=h _ (YE hlt);unfold Z3 at this;omega⟩⟩
   ·rw [ZB h1];simp only [cond_false,Y0]
    by_cases h2:b < -1099511627776 - l[k].From
    ·rw [ZC h2,cond_true];exact .inr ⟨_,rfl,.inr ⟨rfl,fun h => by have:=h _ (YE hlt);unfold Z3 at this;omega⟩⟩
    ·rw [ZB h2,cond_false,Z1 (x:=l[k].From + b) (by omega),Z1 (x:=l[k].To + b) (by omega),app?_ok (by rw [Z1F,YJ,YT,YI];omega)]
     simp only [Y0];refine .inl ⟨_,rfl,⟨k + 1,?_,hlt,fun j hj hjk => ?_⟩,?_⟩
     ·rw [Z1 (by omega),← Yc hlt,Yx]
      push_cast
      rfl
     ·rcases YF j k with h | h
      ·exact hd j hj h
      ·have:j = k:=by omega
       subst this;unfold Z3;omega
     ·simp only [];rw [Z1 (by omega)];omega
  ·have:k = l.length:=by omega
   subst this;rw [ZB (by omega),cond_false,Yg]
   refine .inr ⟨_,rfl,.inl ⟨rfl,fun s hs => ?_⟩⟩
   obtain ⟨j,hj⟩:=YB hs
   obtain ⟨hjl,rfl⟩:=List.getElem?_eq_some_iff.1 hj
   exact hd j hjl hjl
end Go.Dn

namespace Go.Dn
open Go
theorem Z6q {f:Form} (h:¬ Z22 f):f.Core.length≤6000∧f.Odd.length≤6000∧(∀ l ∈ f.Core,l.length≤60000)∧∀ g ∈ f.Odd,g.Ticks.length≤60000:=by
 unfold Z22 at h
 have hs:Z4e f≤60000:=by omega
 unfold Z4e at hs
 have le:∀ {α:Type} (g:α→Nat) {l:List α} {x:α},x ∈ l→g x≤(l.map g).sum:=by
  intro α g l x hx
  induction l with
  | nil => cases hx
  | cons a l ih =>
   rw [Y0V,List.sum_cons]
   rcases List.mem_cons.1 hx with rfl | hx
   ·omega
   ·have:=ih hx;omega
 refine ⟨by omega,by omega,fun l hl => ?_,fun g hg => ?_⟩
 ·have:=le List.length hl;omega
 ·have:=le (fun g:Granule => g.Ticks.length) hg;omega
theorem setX_loop {f:Form} (holen:(f.Odd.length:Int) < 4611686018427387904) {i:Int}:(loopO (Z0T.s0 f i) 0 = some (.go ())∧¬ Z12 f i)∨∃ g ∈ f.Odd,g.Index = i∧loopO (Z0T.s0 f i) 0 = some (.ret (g.Ticks,0)):=by
 obtain ⟨r,q1,q2⟩:=Z0Y (step:=Z0T.s0 f i) (fun s => ∃ k:Nat,k≤f.Odd.length∧s = (k:Int)∧∀ g ∈ f.Odd.take k,g.Index ≠ i) (fun s => f.Odd.length - s.toNat)
  (fun r => (r = .go ()∧¬ Z12 f i)∨∃ g ∈ f.Odd,g.Index = i∧r = .ret (g.Ticks,0)) (by
   rintro s ⟨k,hk,rfl,hall⟩;unfold Z0T.s0
   by_cases hlt:k < f.Odd.length
   ·rw [ZC (show (k:Int) < f.Odd.length by omega),cond_true,at?_nat hlt]
    simp only [Y0]
    by_cases he:f.Odd[k].Index = i
    ·right
     rw [Z6O he,cond_true];exact ⟨_,rfl,.inr ⟨f.Odd[k],YE hlt,he,rfl⟩⟩
    ·left
     rw [Z3L he,cond_false,Z1 (by omega)]
     refine ⟨_,rfl,⟨k + 1,hlt,by push_cast;rfl,?_⟩,by omega⟩
     intro g hg;rw [(Yc hlt).symm] at hg
     rcases List.mem_append.1 hg with h1 | h1
     ·exact hall g h1
     ·rw [YD] at h1;subst h1;exact he
   ·right
    obtain rfl:k = f.Odd.length:=by omega
    rw [ZB (by omega),cond_false]
    rw [Yg] at hall;exact ⟨_,rfl,.inl ⟨rfl,fun ⟨g,hg,e⟩ => hall g hg e⟩⟩) 0 ⟨0,YS _,rfl,by simp⟩
 rcases q2 with ⟨rfl,h2⟩ | ⟨g,g1,g2,rfl⟩
 ·exact .inl ⟨q1,h2⟩
 ·exact .inr ⟨g,g1,g2,q1⟩
theorem div_in {i c:Int} (hi:In64 i) (hc:0 < c):In64 (i / c):=by
 unfold In64 at *
 constructor
 ·apply Y0d hc;omega
 ·by_cases hn:0≤i
  ·have:=Y0H c hn;omega
  ·have:=Int.ediv_neg_of_neg_of_pos (show i < 0 by omega) hc;omega
theorem setX {f:Form} (hl:Lim f) (hs:Shape f) {i:Int} (hi:In64 i):∃ l q,Z0T f i = some (l,q)∧ZH f i = l.map (ZY (q * f.Period))∧RightL l∧In64 q∧(l ≠ []→q ≠ 0→0 < f.Period)∧(l = []∨l ∈ f.Core∨∃ g ∈ f.Odd,l = g.Ticks):=by
 have holen:(f.Odd.length:Int) < 4611686018427387904:=Z24 (b:=31) hl.odd
 have hcnt:=hs.count
 have hper:=hs.per
 have hz:=hs.zero
 unfold Z0T
 rcases setX_loop (i:=i) holen with ⟨q1,ho⟩ | ⟨g,g1,rfl,q1⟩
 ·rw [q1];simp only [Y0,Jx.elim]
  by_cases h0:f.Count = 0
  ·rw [Z6O h0,cond_true];exact ⟨[],0,rfl,by rw [Z2M ho h0];rfl,⟨by simp,by simp⟩,by unfold In64;omega,fun h => absurd rfl h,.inl rfl⟩
  ·have hp:0 < f.Count:=by omega
   rw [Z3L h0,cond_false,Z4Y hi hp hl.count];simp only [Y0];rw [(Z0H hs h0 i).1];have hm:=(Z0H hs h0 i).2
   exact ⟨Z0f f i,i / f.Count,rfl,Z2I ho h0,hs.core _ hm,div_in hi hp,fun _ _ => by omega,.inr (.inl hm)⟩
 ·rw [q1];exact ⟨g.Ticks,0,rfl,by rw [Z1Q hs.inc g1,Int.zero_mul,Z5Q],(hs.odd g g1).1,by unfold In64;omega,fun _ h => absurd rfl h,.inr (.inr ⟨g,g1,rfl⟩)⟩
theorem tailX {l:List Span} {q P:Int} (hP:0 < P) (hP2:P≤1099511627776) (hne:l ≠ []) (hlen:l.length≤1000000) (hr:RightL l) (hq:In64 q) :
  ((bif (decide (q > (w64 ((w64 ((2199023255552:Int).tdiv P)) + 1)))) then some true else (nz? P).bind fun u2 => some (decide (q < (w64 ((w64 ((-2199023255552:Int).tdiv P)) - 1))))).bind fun (y1:Bool) =>
   (bif y1 then some (([] : List Span),(20:Int)) else (Z0Q l (w64 (q * P))).bind fun x3 => some (x3.1,x3.2))) = some (if ∀ s ∈ l,Z3 (s.From + q * P)∧Z3 (s.To + q * P) then (l.map (ZY (q * P)),0) else ([],20)):=by
 have d1:2≤(2199023255552:Int) / P∧(2199023255552:Int) / P≤2199023255552:=by
  constructor
  ·apply Y0d hP;omega
  ·exact Y0H _ (by omega)
 have e1:(2199023255552:Int).tdiv P = 2199023255552 / P:=Y08 (by omega)
 have e2:(-2199023255552:Int).tdiv P = -(2199023255552 / P):=by rw [Int.neg_tdiv,e1]
 have hz1:(2199023255552:Int) / P * P≤2199023255552:=Int.ediv_mul_le _ (by omega)
 have hz2:2199023255552 < (2199023255552 / P + 1) * P:=Int.lt_ediv_add_one_mul_self _ hP
 rw [e1,e2]
 generalize (2199023255552:Int) / P = z at d1 hz1 hz2
 obtain ⟨s0,hs0⟩:=Y11 _ hne
 have htk:∀ s ∈ l,Z3 s.From∧Z3 s.To∧s.From≤s.To:=fun s hs => by
  obtain ⟨k,hk⟩:=YB hs
  exact hr.ok k s hk
 have h0:=htk s0 hs0
 unfold Z3 at h0
 rw [Y0G,Y19] at hz2
 rw [Z1 (x:=z) (by omega),Z1 (x:=z + 1) (by omega),Z1 (x:=-z) (by omega),Z1 (x:=-z - 1) (by omega),nz?_ok (by omega)]
 by_cases c1:q > z + 1
 ·rw [ZC c1,cond_true,if_neg]
  ·rfl
  ·intro h;have:=(h s0 hs0).1
   unfold Z3 at this;have hm:=YH (show z + 2≤q by omega) (show 0≤P by omega)
   rw [Y0G] at hm;omega
 ·rw [ZB c1,cond_false];simp only [Y0]
  by_cases c2:q < -z - 1
  ·rw [ZC c2,cond_true,if_neg];intro h;have:=(h s0 hs0).2
   unfold Z3 at this;have hm:=YH (show q≤-z - 2 by omega) (show 0≤P by omega)
   have e3:(-z - 2) * P = -(z * P) - 2 * P:=by rw [Int.sub_mul,Int.neg_mul]
   rw [e3] at hm;omega
  ·rw [ZB c2,cond_false];have b1:=YH (show q≤z + 1 by omega) (show 0≤P by omega)
   have b2:=YH (show -z - 1≤q by omega) (show 0≤P by omega)
   have e3:(-z - 1) * P = -(z * P) - P:=by rw [Int.sub_mul,Int.neg_mul,Y19]
   rw [e3] at b2;rw [Y0G,Y19] at b1;have hin:In64 (q * P):=by unfold In64;omega
   unfold In64 at hin;rw [Z1 (by omega),ZBv hlen htk hin]
   split <;> rfl
theorem fits_map {l:List Span} {b:Int} {f:Form} {i:Int} (hset:ZH f i = l.map (ZY b)):fits f i ↔ ∀ s ∈ l,Z3 (s.From + b)∧Z3 (s.To + b):=by
 unfold fits
 rw [hset]
 constructor
 ·intro h s hs;exact h (ZY b s) (List.mem_map.2 ⟨s,hs,rfl⟩)
 ·intro h s hs;obtain ⟨s,hs',rfl⟩:=List.mem_map.1 hs
  exact h s hs'
theorem Z4T {f:Form} (hl:Lim f) (hs:Shape f) (hnl:¬ Z22 f) {i:Int} (hi:In64 i):Z0h f i = Z0F f i:=by
 obtain ⟨_,_,n1,n2⟩:=Z6q hnl
 rw [Z1I hl hs hi]
 have hper:=hs.per
 unfold Z0h
 by_cases ht:Z3 i
 ·have ht':=ht
  unfold Z3 at ht';rw [ZB (show ¬ i < -1099511627776 by omega),ZB (show ¬ i > 1099511627776 by omega)]
  simp only [Y0o,cond_false];obtain ⟨l,q,e,hset,hr,hq,hpos,hwh⟩:=setX hl hs hi
  have hlen:l.length≤60000:=by
   rcases hwh with rfl | h | ⟨g,h,rfl⟩
   ·simp
   ·exact n1 l h
   ·exact n2 g h
  have hf:=fits_map hset
  rw [e];simp only [Y0]
  by_cases hc:l = []∨q = 0
  ·have:(((l.length:Int) == 0) || (q == 0)) = true:=by
    rcases hc with rfl | rfl <;> simp
   have hfit:fits f i:=hf.2 fun s hsm => by
    rcases hc with rfl | rfl
    ·cases hsm
    ·obtain ⟨k,hk⟩:=YB hsm
     have:=hr.ok k s hk
     rw [Int.zero_mul]
     simpa using ⟨this.1,this.2.1⟩
   rw [this,cond_true,app?_ok (by rw [Z1F];simp only [YX];omega),if_pos ⟨ht,hfit⟩,hset]
   simp only [Y0,Y02]
   rcases hc with rfl | rfl
   ·rfl
   ·rw [Int.zero_mul,Z5Q]
  ·have hne:l ≠ []:=fun h => hc (.inl h)
   have hq0:q ≠ 0:=fun h => hc (.inr h)
   have hlp:=List.length_pos_iff.2 hne
   have:(((l.length:Int) == 0) || (q == 0)) = false:=by
    rw [Z3L (by omega),Z3L hq0];rfl
   have hp0:=hpos hne hq0
   rw [this,cond_false,nz?_ok (by omega)]
   simp only [Y0];have:=tailX hp0 hper.2 hne (by omega) hr hq
   rw [nz?_ok (by omega)] at this
   simp only [Y0] at this;rw [this]
   by_cases hfit:fits f i
   ·rw [if_pos (hf.1 hfit),if_pos ⟨ht,hfit⟩,hset]
   ·rw [if_neg (fun h => hfit (hf.2 h)),if_neg (fun h => hfit h.2)]
 ·have:((decide (i < (-1099511627776))) || (decide (i > 1099511627776))) = true:=by
   unfold Z3 at ht
   simp
   omega
  rw [this,cond_true,if_neg (fun h => ht h.1)]
theorem ref05_Has_all {f:Form} (hl:Lim f) (hs:Shape f) {i:Int} (hi:In64 i):Z33 f i = some (decide (ZH f i ≠ [])):=by
 obtain ⟨l,q,e,hset,_⟩:=setX hl hs hi
 unfold Z33
 rw [e]
 simp only [Y0]
 congr 1
 rw [hset]
 cases l with
 | nil => rfl
 | cons a l => simp
def dst (i b k:Int):Int:=(k - i) * b
def NextS (f:Form) (i b:Int) (r:Int × Bool):Prop:=(r.2 = true∧0≤dst i b r.1∧Z3 r.1∧ZH f r.1 ≠ []∧∀ k,0≤dst i b k→Z3 k→ZH f k ≠ []→dst i b r.1≤dst i b k)∨(r.2 = false∧r.1 = 0∧∀ k,0≤dst i b k→Z3 k→ZH f k = [])
theorem next_odd {f:Form} (hs:Shape f) (holen:f.Odd.length≤6000) {i b:Int} (hi:Z3 i) (hb:b = 1∨b = -1):∃ fd at',loopO (ZU.s0 f i b) (false,0,0) = some (fd,at') ∧
  ((fd = false∧at' = 0∧∀ g ∈ f.Odd,g.Ticks ≠ []→dst i b g.Index < 0)∨(fd = true∧0≤dst i b at'∧Z3 at'∧ZH f at' ≠ []∧∀ g ∈ f.Odd,g.Ticks ≠ []→0≤dst i b g.Index→dst i b at'≤dst i b g.Index)):=by
 have key:=Z0Y (step:=ZU.s0 f i b) (I:=fun s => ∃ (fd:Bool) (at':Int) (k:Nat),s = (fd,at',(k:Int))∧k≤f.Odd.length ∧
   ((fd = false∧at' = 0∧∀ j (h:j < f.Odd.length),j < k→f.Odd[j].Ticks ≠ []→dst i b f.Odd[j].Index < 0)∨(fd = true∧0≤dst i b at'∧Z3 at'∧ZH f at' ≠ []∧∀ j (h:j < f.Odd.length),j < k→f.Odd[j].Ticks ≠ []→0≤dst i b f.Odd[j].Index→dst i b at'≤dst i b f.Odd[j].Index)))
  (fun s => f.Odd.length - s.2.2.toNat)
  (fun r => (r.1 = false∧r.2 = 0∧∀ g ∈ f.Odd,g.Ticks ≠ []→dst i b g.Index < 0)∨(r.1 = true∧0≤dst i b r.2∧Z3 r.2∧ZH f r.2 ≠ []∧∀ g ∈ f.Odd,g.Ticks ≠ []→0≤dst i b g.Index→dst i b r.2≤dst i b g.Index)) ?_ (false,0,0) ⟨false,0,0,rfl,YS _,.inl ⟨rfl,rfl,fun j _ hj => absurd hj (Y0f _)⟩⟩
 ·obtain ⟨⟨fd,at'⟩,e,h⟩:=key
  exact ⟨fd,at',e,h⟩
 ·rintro _ ⟨fd,at',k,rfl,hk,hI⟩;unfold ZU.s0;simp only []
  by_cases hlt:k < f.Odd.length
  ·have hm:f.Odd[k] ∈ f.Odd:=YE hlt
   have htk:=(hs.odd _ hm).2
   have hsa:=Z1Q hs.inc hm
   unfold Z3 at htk hi;have hw:w64 ((w64 (f.Odd[k].Index - i)) * b) = dst i b f.Odd[k].Index:=by
    rw [Z1 (x:=f.Odd[k].Index - i) (by omega)]
    unfold dst
    rcases hb with rfl | rfl <;> rw [Z1 (by omega)]
   rw [ZC (show (k:Int) < (f.Odd.length:Int) by omega),cond_true,at?_nat hlt]
   simp only [Y0];rw [hw];have hlen:decide ((f.Odd[k].Ticks.length:Int) > 0) = decide (f.Odd[k].Ticks ≠ []):=by
    cases f.Odd[k].Ticks with
    | nil => rfl
    | cons a l => simp
   rw [hlen]
   rcases hI with ⟨rfl,rfl,hall⟩ | ⟨rfl,h1,h2,h3,h4⟩
   ·simp only [Yq,Bool.true_or,Bool.and_true]
    by_cases hc:f.Odd[k].Ticks ≠ []∧dst i b f.Odd[k].Index ≥ 0
    ·rw [ZC hc.1,ZC hc.2];simp only [Y0E,cond_true,Y0];refine .inl ⟨_,rfl,⟨true,f.Odd[k].Index,k + 1,?_,hlt,.inr ⟨rfl,hc.2,(hs.odd _ hm).2,by rw [hsa];exact hc.1,fun j hj hjk hne h0 => ?_⟩⟩,?_⟩
     ·rw [Z1 (by omega)];push_cast;rfl
     ·rcases YF j k with h | h
      ·have:=hall j hj h hne;omega
      ·have:j = k:=by omega
       subst this;exact Y04 _
     ·simp only [];rw [Z1 (by omega)];omega
    ·have:(decide (f.Odd[k].Ticks ≠ []) && decide (dst i b f.Odd[k].Index ≥ 0)) = false:=by
      rw [Y0p]
      by_cases hn:f.Odd[k].Ticks ≠ []
      ·exact .inr (ZB fun h => hc ⟨hn,h⟩)
      ·exact .inl (ZB hn)
     rw [this];simp only [cond_false,Y0];refine .inl ⟨_,rfl,⟨false,0,k + 1,?_,hlt,.inl ⟨rfl,rfl,fun j hj hjk hne => ?_⟩⟩,?_⟩
     ·rw [Z1 (by omega)];push_cast;rfl
     ·rcases YF j k with h | h
      ·exact hall j hj h hne
      ·have:j = k:=by omega
       subst this;apply Classical.byContradiction;intro hn;exact hc ⟨hne,by omega⟩
     ·simp only [];rw [Z1 (by omega)];omega
   ·have h2':=h2
    unfold Z3 at h2';have hw2:w64 ((w64 (f.Odd[k].Index - at')) * b) = dst i b f.Odd[k].Index - dst i b at':=by
     rw [Z1 (x:=f.Odd[k].Index - at') (by omega)]
     unfold dst
     rcases hb with rfl | rfl <;> rw [Z1 (by omega)] <;> omega
    rw [hw2];simp only [YQ,Y0R]
    by_cases hc:(f.Odd[k].Ticks ≠ []∧dst i b f.Odd[k].Index ≥ 0)∧dst i b f.Odd[k].Index - dst i b at' < 0
    ·rw [ZC hc.1.1,ZC hc.1.2,ZC hc.2];simp only [Y0E,cond_true,Y0];refine .inl ⟨_,rfl,⟨true,f.Odd[k].Index,k + 1,?_,hlt,.inr ⟨rfl,hc.1.2,(hs.odd _ hm).2,by rw [hsa];exact hc.1.1,fun j hj hjk hne h0 => ?_⟩⟩,?_⟩
     ·rw [Z1 (by omega)];push_cast;rfl
     ·rcases YF j k with h | h
      ·have:=h4 j hj h hne h0;omega
      ·have:j = k:=by omega
       subst this;exact Y04 _
     ·simp only [];rw [Z1 (by omega)];omega
    ·have:((decide (f.Odd[k].Ticks ≠ []) && decide (dst i b f.Odd[k].Index ≥ 0)) && decide (dst i b f.Odd[k].Index - dst i b at' < 0)) = false:=by
      rw [Bool.eq_false_iff];intro h;simp only [Y8,decide_eq_true_eq] at h;exact hc h
     rw [this];simp only [cond_false,Y0];refine .inl ⟨_,rfl,⟨true,at',k + 1,?_,hlt,.inr ⟨rfl,h1,h2,h3,fun j hj hjk hne h0 => ?_⟩⟩,?_⟩
     ·rw [Z1 (by omega)];push_cast;rfl
     ·rcases YF j k with h | h
      ·exact h4 j hj h hne h0
      ·have:j = k:=by omega
       subst this;apply Classical.byContradiction;intro hn;exact hc ⟨⟨hne,h0⟩,by omega⟩
     ·simp only [];rw [Z1 (by omega)];omega
  ·have:k = f.Odd.length:=by omega
   subst this;rw [ZB (by omega),cond_false]
   refine .inr ⟨_,rfl,?_⟩;have mem:∀ g ∈ f.Odd,∃ j,∃ h:j < f.Odd.length,f.Odd[j] = g:=fun g hg => by
    obtain ⟨j,hj⟩:=YB hg
    obtain ⟨hjl,rfl⟩:=List.getElem?_eq_some_iff.1 hj
    exact ⟨j,hjl,rfl⟩
   rcases hI with ⟨h1,h2,hall⟩ | ⟨h0,h1,h2,h3,h4⟩
   ·refine .inl ⟨h1,h2,fun g hg hne => ?_⟩
    obtain ⟨j,hj,rfl⟩:=mem g hg
    exact hall j hj hj hne
   ·refine .inr ⟨h0,h1,h2,h3,fun g hg hne h5 => ?_⟩
    obtain ⟨j,hj,rfl⟩:=mem g hg
    exact h4 j hj hj hne h5
end Go.Dn
