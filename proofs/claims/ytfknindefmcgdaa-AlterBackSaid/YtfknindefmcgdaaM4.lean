/- Part 4 of what the row stands on. -/
import Derived.Test.YtfknindefmcgdaaM3
set_option linter.unusedVariables false
set_option linter.unusedSimpArgs false
namespace Go.Dn
open Go Go.Proofs
set_option maxRecDepth 100000
set_option maxHeartbeats 4000000
theorem Z92 {l:(List Span)} {by':Int} {r:(List Span) × Int} (h:Z0C l by' = some r):Fn CX 43 [(vl Span.cs l),(vi by')] (.tup [(vl Span.cs r.1),(vi r.2)]):=by
 refine Fn.go Try.func43 V fun σ H => ?_;unfold Z0C at h;refine .tR 2 V H fun b1 σ H => (.a1 .nils V V (.aV V (.na H fun H => (.tR 1 V H fun b2 σ H => (.a1 .nils V V (.na H fun H => (.then (.tR 3 V H fun b3 σ H => ?_))))))));refine .mV V (.nV V (.mV V (.na H fun H => (.inBlock ?_))));replace H:=H.pushNil 59 2 true;obtain ⟨y1,hj1,h⟩:=bs h;obtain ⟨n1,hj1⟩:=ZR.1 hj1;refine .mono (Runs.loopO hj1 (fun s2 e σ => ∃ (w3:PV),ZE e [(1,(vi by')),(6,w3),(13,(vl Span.cs l)),(14,(vi (l.length:Int))),(15,(vi s2.1))]∧Hs σ [.sl w3 59 2 (s2.2.map Span.cs) true]) (fun y1 x e σ => (∃ a1,∃ (w4:PV),y1 = (.go a1)∧x = .exit 0∧ZE e [(6,w4)]∧Hs σ [.sl w4 59 2 (a1.map Span.cs) true])∨(∃ r',y1 = (.ret r')∧x = .ret∧Ends CX Try.f43.results.toList (.tup [(vl Span.cs r'.1),(vi r'.2)]) x e σ)) ⟨.nils,EI V,H⟩ ?_) ?_
 ·intro s2 e σ hI z h;obtain ⟨w3,he,H⟩:=hI;obtain ⟨e,rfl⟩:=he.ex;unfold Z0C.s0 at h;refine .tR 1 V H fun b4 σ H => (.iV V (.na H fun H => (.then ?_)));refine .wh h V ?_ ?_ <;> intro h
  ·refine .skip (.then (.inBlock (.tR 4 V H fun b5 σ H => ?_)));obtain ⟨x1,q1,h⟩:=bs h;refine .jV q1 V (.qV [(.int .i64 x1.From),(.int .i64 x1.To)] V (.alc (cs:=[(vi 0),(vi 0)]) H V V fun σ H => (.sV [(vi x1.From),(vi x1.To)] H 0 V fun σ H => (.na H fun H => (.tR 9 V H fun b6 σ H => (.fV H 0 V (.lV H 0 V (.mV V ?_))))))));refine .cV (ZBi V) V (.m1 (.tup [(vi (Zc x1.From by').1),(vi (Zc x1.From by').2)]) V V (.xV V (.xV V (.aV V (.aV V (.na H fun H => (.tR 9 V H fun b7 σ H => (.fV H 0 V ?_))))))));refine .lV H 0 V (.mV V (.cV (ZBi V) V (.m1 (.tup [(vi (Zc x1.To by').1),(vi (Zc x1.To by').2)]) V V (.xV V (.xV V (.aV V (.aV V (.na H fun H => ?_))))))));refine .then (.tR 16 V H fun b8 σ H => (.mV V (.iV V (.mV V ?_))));refine .md H 3 [(38,(vb ((((Zc x1.From by').2) != 0) || (((Zc x1.To by').2) != 0)))),(1,(vi by')),(6,w3),(9,(vi (Zc x1.From by').1)),(11,(vi (Zc x1.To by').1)),(13,(vl Span.cs l)),(14,(vi (l.length:Int))),(15,(vi s2.1))] [.sl w3 59 2 (s2.2.map Span.cs) true] rfl ?_ fun e σ H => ?_
   ·refine .split V V ?_ ?_ <;> intro hc2
    ·refine .ps 2 V (.kT V (.nil ?_));exact ⟨⟨or_T hc2,V,V,V,V,V,V,V,U⟩,(H.erase 0).wk (by omega)⟩
    ·refine .mV V (.iV V (.kF V (.nil ?_)));exact ⟨⟨or_F hc2,V,V,V,V,V,V,V,U⟩,(H.erase 0).wk (by omega)⟩
   refine .mV V ?_;refine .md H 4 [(43,(vb (((((Zc x1.From by').2) != 0) || (((Zc x1.To by').2) != 0)) || (!(Z0l ((Zc x1.From by').1)))))),(1,(vi by')),(6,w3),(9,(vi (Zc x1.From by').1)),(11,(vi (Zc x1.To by').1)),(13,(vl Span.cs l)),(14,(vi (l.length:Int))),(15,(vi s2.1))] [.sl w3 59 2 (s2.2.map Span.cs) true] rfl ?_ fun e σ H => ?_
   ·refine .split V V ?_ ?_ <;> intro hc3
    ·refine .ps 3 V (.kT V (.nil ?_));exact ⟨⟨or_T hc3,V,V,V,V,V,V,V,U⟩,H.wk (by omega)⟩
    ·refine .mV V (.cV (Z4n V) V (.tV V (.kF V (.nil ?_))));exact ⟨⟨or_F hc3,V,V,V,V,V,V,V,U⟩,H.wk (by omega)⟩
   refine .mV V ?_;refine .md H 4 [(48,(vb ((((((Zc x1.From by').2) != 0) || (((Zc x1.To by').2) != 0)) || (!(Z0l ((Zc x1.From by').1)))) || (!(Z0l ((Zc x1.To by').1)))))),(1,(vi by')),(6,w3),(9,(vi (Zc x1.From by').1)),(11,(vi (Zc x1.To by').1)),(13,(vl Span.cs l)),(14,(vi (l.length:Int))),(15,(vi s2.1))] [.sl w3 59 2 (s2.2.map Span.cs) true] rfl ?_ fun e σ H => ?_
   ·refine .split V V ?_ ?_ <;> intro hc4
    ·refine .ps 3 V (.kT V (.nil ?_));exact ⟨⟨or_T hc4,V,V,V,V,V,V,V,U⟩,H.wk (by omega)⟩
    ·refine .mV V (.cV (Z4n V) V (.tV V (.kF V (.nil ?_))));exact ⟨⟨or_F hc4,V,V,V,V,V,V,V,U⟩,H.wk (by omega)⟩
   refine .na H fun H => ?_;refine .wh h V ?_ ?_ <;> intro h
   ·refine .tR 2 V H fun b9 σ H => (.a1 .nils V V (.aV V (.na H fun H => (.ret ?_))));obtain rfl:=sj h;exact ⟨nofun,(.inr ⟨_,V,V,(Ends.H (xs:=[.nils,(vi 20)]) (.inr V) H (.tmp (v:=.nils) V (.tmp (v:=(vi 20)) V .nil)) (.two (.cons (.c .n) (.cons (.c (.v _)) .nil))))⟩)⟩
   refine .skip (.ZJ 7 V H fun b10 σ H => (.m1 w3 V V (.mV V (.mV V (.bV [(vi (Zc x1.From by').1),(vi (Zc x1.To by').1)] V (.Z3o (sz:=2) ([(Span.mk ((Zc x1.From by').1) ((Zc x1.To by').1))].map Span.cs) H (by omega) (by omega) V V V V V V V V V fun σ H => ?_))))));obtain ⟨x2,q2,h⟩:=bs h;refine .Z3Z (c:=Span.cs) (v:=w3) (w:=(.buf (b10 + 4) 1 2)) (xs:=s2.2) (ys:=[(Span.mk ((Zc x1.From by').1) ((Zc x1.To by').1))]) H (by omega) (by omega) 1 V V V (.s 0 V) q2 V V V V V nofun V fun w5 σ H => (.a1 w5 V V (.na H fun H => (.ZJ 2 V H fun b11 σ H => (.iV V (.mV V (.na H fun H => ?_))))));obtain rfl:=sj h;exact ⟨V,w5,EI V,(H.erase 0)⟩
  refine .exit ?_;obtain rfl:=sj h;exact ⟨nofun,(.inl ⟨_,w3,V,V,EI V,H⟩)⟩
 ·rintro x e σ (⟨a2,w6,rfl,rfl,he,H⟩ | ⟨r',rfl,rfl,hE⟩)
  ·replace h:=jgo h;obtain ⟨e,rfl⟩:=he.ex;refine .tR 3 V H fun b12 σ H => (.m1 w6 V V (.a1 w6 V V (.aV V (.na H fun H => (.ret ?_)))));obtain rfl:=sj h;exact (Ends.H (xs:=[w6,(vi 0)]) (.inr V) H (.tmp (v:=w6) V (.tmp (v:=(vi 0)) V .nil)) (.two (.cons (.c (.s 0 V)) (.cons (.c (.v _)) .nil))))
  ·replace h:=jret h;obtain rfl:=sj h;exact hE
theorem Z2U {f:Form} {i:Int} {r:(List Span) × Int} (h:Z01 f i = some r):Fn CX 15 [(.agg (vs (Form.cs f))),(vi i)] (.tup [(vl Span.cs r.1),(vi r.2)]):=by
 refine Fn.go Try.func15 V fun σ H => ?_;unfold Z01 at h;refine .tR 3 V H fun b1 σ H => (.bxc (cs:=(vF f)) H V V V fun σ H => (.a1 .nils V V (.aV V (.na H fun H => (.then (.tR 3 V H fun b2 σ H => (.mV V (.cV (Z5F V) V ?_))))))));refine .tV V (.na H fun H => ?_);refine .wh h V ?_ ?_ <;> intro h
 ·refine .tR 2 V H fun b3 σ H => (.a1 .nils V V (.aV V (.na H fun H => (.ret ?_))));obtain rfl:=sj h;exact (Ends.H (xs:=[.nils,(vi 20)]) (.inr V) H (.tmp (v:=.nils) V (.tmp (v:=(vi 20)) V .nil)) (.two (.cons (.c .n) (.cons (.c (.v _)) .nil))))
 refine .skip (.tR 10 V H fun b4 σ H => (.LV (vF f) H 0 V (.mV V ?_)));obtain ⟨x1,q1,h⟩:=bs h;refine .cV (ZA5 q1) V (.m1 (.tup [(vl Span.cs x1.1),(vi x1.2.1),(vi x1.2.2)]) V V (.xV V (.xV V (.xV V (.aV V (.aV V (.aV V (.na H fun H => ?_))))))));refine .then (.tR 3 V H fun b5 σ H => (.mV V (.nV V (.iV V (.na H fun H => ?_)))));refine .wh h V ?_ ?_ <;> intro h
 ·refine .tR 2 V H fun b6 σ H => (.a1 .nils V V (.aV V (.na H fun H => (.ret ?_))));obtain rfl:=sj h;exact (Ends.H (xs:=[.nils,(vi 0)]) (.inr V) H (.tmp (v:=.nils) V (.tmp (v:=(vi 0)) V .nil)) (.two (.cons (.c .n) (.cons (.c (.v _)) .nil))))
 refine .skip (.then (.tR 2 V H fun b7 σ H => (.mV V (.iV V (.na H fun H => ?_)))));refine .wh h V ?_ ?_ <;> intro h
 ·refine .tR 2 V H fun b8 σ H => (.a1 .nils V V (.aV V (.na H fun H => (.ret ?_))));obtain rfl:=sj h;exact (Ends.H (xs:=[.nils,(vi 20)]) (.inr V) H (.tmp (v:=.nils) V (.tmp (v:=(vi 20)) V .nil)) (.two (.cons (.c .n) (.cons (.c (.v _)) .nil))))
 refine .skip (.tR 7 V H fun b9 σ H => (.mV V (.mV V ?_)));obtain ⟨x2,q2,h⟩:=bs h;refine .cV (Z92 q2) V (.xV V (.xV V (.aV V (.aV V (.na H fun H => (.ret ?_))))));obtain rfl:=sj h;exact Ends.eR V
theorem Z4D {s:(List (List Span))} {f:(List Span)→Option Bool} {C:List Res} {cv0:PV} (hs0:cv0.one = true) (hp0:cv0.pure = true→C = []) (hf0:∀ z0 y,f z0 = some y→CloH CX cv0 [(vl Span.cs z0)] (vb y) C) {r:Int} (h:ZF s f = some r):FnH CX 100 [(vl (cL Span.cs) s),cv0] (vi r) C:=by
 refine FnH.of Try.func100 V V V V (Z5J V (Z5J (Z5Y hs0) all_nil)) V (fun h => hp0 (Z4s h 1 V)) ?_;intro σ L hC H;unfold ZF at h;refine .tR 1 V H fun b1 σ H => (.aV V (.na H fun H => (.then (.tR 3 V H fun b2 σ H => (.mV V (.nV V (.mV V (.na H fun H => ?_))))))));refine .inBlock ?_;obtain ⟨y1,hj1,h⟩:=bs h;obtain ⟨n1,hj1⟩:=ZR.1 hj1;refine .mono (Runs.loopO hj1 (fun s1 e σ => ZE e [(0,(vl (cL Span.cs) s)),(1,cv0),(7,(vi (s.length:Int))),(8,(vi s1))]∧Hs σ (L)) (fun y1 x e σ => (∃ a1,y1 = (.go a1)∧x = .exit 0∧ZE e []∧Hs σ (L))∨(∃ r',y1 = (.ret r')∧x = .ret∧EndsH CX Try.f100.results.toList (vi r') L x e σ)) ⟨EI V,H⟩ ?_) ?_
 ·intro s1 e σ hI z h;obtain ⟨he,H⟩:=hI;obtain ⟨e,rfl⟩:=he.ex;unfold ZF.s0 at h;refine .tR 1 V H fun b3 σ H => (.iV V (.na H fun H => (.then ?_)));refine .wh h V ?_ ?_ <;> intro h
  ·refine .skip (.then (.inBlock (.tR 2 V H fun b4 σ H => (.mV V (.aV V (.na H fun H => (.tR 6 V H fun b5 σ H => (.m1 cv0 V V ?_))))))));refine .mV V (.mV V ?_);obtain ⟨x1,q1,h⟩:=bs h;refine .jV q1 V (.pV V ?_);obtain ⟨x2,q2,h⟩:=bs h;refine .callV (cv:=cv0) (ys:=[(vl Span.cs x1)]) (r:=(vb x2)) H V V (hf0 x1 _ q2) hC nofun V fun σ H => (.na H fun H => ?_);refine .wh h V ?_ ?_ <;> intro h
   ·refine .tR 2 V H fun b6 σ H => (.mV V (.aV V (.na H fun H => (.ret ?_))));obtain rfl:=sj h;exact ⟨nofun,(.inr ⟨_,V,V,(EndsH.H (xs:=[(vi s1)]) (.inr V) H (.tmp (v:=(vi s1)) V .nil) (.one (.c (.v _))) 0 V)⟩)⟩
   refine .skip (.ZJ 2 V H fun b7 σ H => (.iV V (.mV V (.na H fun H => ?_))));obtain rfl:=sj h;exact ⟨V,EI V,H⟩
  refine .exit ?_;obtain rfl:=sj h;exact ⟨nofun,(.inl ⟨_,V,V,U,H⟩)⟩
 ·rintro x e σ (⟨a2,rfl,rfl,he,H⟩ | ⟨r',rfl,rfl,hE⟩)
  ·replace h:=jgo h;obtain ⟨e,rfl⟩:=he.ex;refine .tR 1 V H fun b8 σ H => (.aV V (.na H fun H => (.ret ?_)));obtain rfl:=sj h;exact (EndsH.H (xs:=[(vi (-1))]) (.inr V) H (.tmp (v:=(vi (-1))) V .nil) (.one (.c (.v _))) 0 V)
  ·replace h:=jret h;obtain rfl:=sj h;exact hE
theorem Z1g {s:(List (List Span))} {f:(List Span)→Option Bool} {C:List Res} {cv0:PV} (hs0:cv0.one = true) (hp0:cv0.pure = true→C = []) (hf0:∀ z0 y,f z0 = some y→CloH CX cv0 [(vl Span.cs z0)] (vb y) C) {r:Bool} (h:ZV s f = some r):FnH CX 88 [(vl (cL Span.cs) s),cv0] (vb r) C:=by
 refine FnH.of Try.func88 V V V V (Z5J V (Z5J (Z5Y hs0) all_nil)) V (fun h => hp0 (Z4s h 1 V)) ?_;intro σ L hC H;unfold ZV at h;refine .tR 1 V H fun b1 σ H => (.aV V (.na H fun H => (.tR 5 V H fun b2 σ H => (.mV V (.m1 cv0 V V ?_)))));obtain ⟨x1,q1,h⟩:=bs h;refine .callH (ys:=[(vl (cL Span.cs) s),cv0]) (r:=(vi x1)) H V (Z4D (C:=C) hs0 hp0 hf0 q1) hC nofun V fun σ H => (.iV V (.aV V (.na H fun H => (.ret ?_))));obtain rfl:=sj h;exact (EndsH.H (xs:=[(vb (decide (x1 ≥ 0)))]) (.inr V) H (.tmp (v:=(vb (decide (x1 ≥ 0)))) V .nil) (.one (.c (.v _))) 0 V)
theorem ZD0 {l:(List Span)} {r:Bool} (h:Z55 l = r):Fn CX 111 [(vl Span.cs l)] (vb r):=by
 refine Fn.go Try.func111 V fun σ H => ?_;unfold Z55 at h;refine .tR 1 V H fun b1 σ H => (.aV V (.na H fun H => (.tR 4 V H fun b2 σ H => (.mV V (.nV V (.iV V (.aV V (.na H fun H => ?_))))))));refine .ret ?_;subst h;exact Ends.eR V
theorem gran_bare_fn {f:Form} {r:Bool} (h:Z3V f = some r):Fn CX 98 [(.agg (vs (Form.cs f)))] (vb r):=by
 refine Fn.go Try.func98 V fun σ H => ?_;unfold Z3V at h;refine .tR 2 V H fun b1 σ H => (.bxc (cs:=(vF f)) H V V V fun σ H => (.aV V (.na H fun H => (.tR 5 V H fun b2 σ H => (.fV H 0 V (.lV H 0 V ?_))))));obtain ⟨x1,q1,h⟩:=bs h;refine .callH (ys:=[(vl (cL Span.cs) f.Core),(.v (.fn 111))]) (r:=(vb x1)) H V (Z1g (C:=[]) V (fun _ => V) (fun z0 y hz => (CloH.fn (Fn.toH (ZD0 (Option.some.inj hz)) _))) q1) .nil nofun V fun σ H => (.tV V (.aV V (.na H fun H => (.ret ?_))));obtain rfl:=sj h;exact Ends.eR V
theorem gran_some_fn {f:Form} {i:Int} {r:Bool} (h:Z4i f i = some r):Fn CX 99 [(.agg (vs (Form.cs f))),(vi i)] (vb r):=by
 refine Fn.go Try.func99 V fun σ H => ?_;unfold Z4i at h;refine .tR 2 V H fun b1 σ H => (.bxc (cs:=(vF f)) H V V V fun σ H => (.aV V (.na H fun H => (.tR 10 V H fun b2 σ H => (.LV (vF f) H 0 V (.mV V ?_))))));obtain ⟨x1,q1,h⟩:=bs h;refine .cV (ZA5 q1) V (.m1 (.tup [(vl Span.cs x1.1),(vi x1.2.1),(vi x1.2.2)]) V V (.xV V (.xV V (.xV V (.aV V (.aV V (.aV V (.na H fun H => ?_))))))));refine .tR 4 V H fun b3 σ H => (.mV V (.nV V (.iV V (.aV V (.na H fun H => (.ret ?_))))));obtain rfl:=sj h;exact Ends.eR V
theorem ZAA {f:Form} {from':Int} {by':Int} {r:Int × Bool} (h:Zq f from' by' = some r):Fn CX 86 [(.agg (vs (Form.cs f))),(vi from'),(vi by')] (.tup [(vi r.1),(vb r.2)]):=by
 refine Fn.go Try.func86 V fun σ H => ?_;unfold Zq at h;refine .tR 3 V H fun b1 σ H => (.bxc (cs:=(vF f)) H V V V fun σ H => (.aV V (.aV V (.na H fun H => (.then (.tR 2 V H fun b2 σ H => (.LV (vF f) H 0 V ?_)))))));obtain ⟨x1,q1,h⟩:=bs h;refine .cV (gran_bare_fn q1) V (.na H fun H => ?_);refine .wh h V ?_ ?_ <;> intro h
 ·refine .tR 8 V H fun b3 σ H => (.LV (vF f) H 0 V (.mV V ?_));obtain ⟨x2,q2,h⟩:=bs h;refine .cV (ZBY q2) V (.m1 (.tup [(vi x2.1),(vb x2.2)]) V V (.xV V (.xV V (.aV V (.aV V (.na H fun H => (.then ?_)))))));refine .jn h .normal (fun y1 => [(2,(vi by')),(3,(.ptr (b1 + 0) 4 0)),(8,(vi y1))]) (fun y1 => [.blk (b1 + 0) 25 (vF f)]) (fun y1 h => ?_) fun y1 e σ H h => ?_
  ·refine .tR 6 V H fun b4 σ H => (.mV V (.iV V (.mV V ?_)));refine .md H 3 [(24,(vb ((decide (by' < 0)) && (!x2.2)))),(2,(vi by')),(3,(.ptr (b1 + 0) 4 0)),(8,(vi x2.1))] [.blk (b1 + 0) 25 (vF f)] V ?_ fun e σ H => ?_
   ·refine .split V V ?_ ?_ <;> intro hc2
    ·refine .mV V (.tV V (.kT V (.nil ?_)));exact ⟨⟨Z3C hc2,V,V,V,U⟩,H.wk (by omega)⟩
    ·refine .ps 2 V (.kF V (.nil ?_));exact ⟨⟨Z3B hc2,V,V,V,U⟩,H.wk (by omega)⟩
   refine .na H fun H => ?_;refine .wh h V ?_ ?_ <;> intro h
   ·refine .ZJ 3 V H fun b5 σ H => (.mV V (.iV V (.aV V (.na H fun H => ?_))));obtain rfl:=sj h;exact ⟨V,EI V,H⟩
   refine .skip ?_;obtain rfl:=sj h;exact ⟨V,EI V,H⟩
  refine .then (.inBlock ?_);obtain ⟨y2,hj2,h⟩:=bs h;obtain ⟨n1,hj2⟩:=ZR.1 hj2;refine .mono (Runs.loopO hj2 (fun s1 e σ => ZE e [(2,(vi by')),(3,(.ptr (b1 + 0) 4 0)),(8,(vi s1))]∧Hs σ [.blk (b1 + 0) 25 (vF f)]) (fun y2 x e σ => (∃ a1,y2 = (.go a1)∧x = .exit 0∧ZE e []∧Hs σ [])∨(∃ r',y2 = (.ret r')∧x = .ret∧Ends CX Try.f86.results.toList (.tup [(vi r'.1),(vb r'.2)]) x e σ)) ⟨EI V,H⟩ ?_) ?_
  ·intro s1 e σ hI z h;obtain ⟨he,H⟩:=hI;obtain ⟨e,rfl⟩:=he.ex;unfold Zq.s0 at h;refine .then (.tR 9 V H fun b6 σ H => (.mV V (.iV V (.mV V ?_))));refine .md H 6 [(35,(vb ((decide (s1 ≥ 0)) && (decide (s1 < (f.Odd.length:Int)))))),(2,(vi by')),(3,(.ptr (b1 + 0) 4 0)),(8,(vi s1))] [.blk (b1 + 0) 25 (vF f)] V ?_ fun e σ H => ?_
   ·refine .split V V ?_ ?_ <;> intro hc4
    ·refine .mV V (.fV H 0 V (.lV H 0 V (.nV V (.iV V (.kT V (.nil ?_))))));exact ⟨⟨Z3C hc4,V,V,V,U⟩,H.wk (by omega)⟩
    ·refine .ps 5 V (.kF V (.nil ?_));exact ⟨⟨Z3B hc4,V,V,V,U⟩,H.wk (by omega)⟩
   refine .na H fun H => ?_;refine .wh h V ?_ ?_ <;> intro h
   ·refine .skip (.then (.inBlock (.tR 8 V H fun b7 σ H => (.fV H 0 V (.lV H 0 V (.mV V ?_))))));obtain ⟨x3,q3,h⟩:=bs h;refine .jV q3 V (.Z0B V V V V (.pV V (.nV V (.iV V (.na H fun H => ?_)))));refine .wh h V ?_ ?_ <;> intro h
    ·refine .tR 8 V H fun b8 σ H => (.fV H 0 V (.lV H 0 V (.mV V ?_)));obtain ⟨x4,q4,h⟩:=bs h;refine .jV q4 V (.Z0B V V V V (.pV V (.aV V (.aV V (.na H fun H => (.ret ?_))))));obtain rfl:=sj h;exact ⟨nofun,(.inr ⟨_,V,V,(Ends.H (xs:=[(vi x4.Index),(vb true)]) (.inr V) H (.tmp (v:=(vi x4.Index)) V (.tmp (v:=(vb true)) V .nil)) (.two (.cons (.c (.v _)) (.cons (.c (.v _)) .nil))))⟩)⟩
    refine .skip (.ZJ 4 V H fun b9 σ H => (.mV V (.mV V (.iV V (.aV V (.na H fun H => ?_))))));obtain rfl:=sj h;exact ⟨V,EI V,H⟩
   refine .exit ?_;obtain rfl:=sj h;exact ⟨nofun,(.inl ⟨_,V,V,U,(H.erase 0)⟩)⟩
  ·rintro x e σ (⟨a2,rfl,rfl,he,H⟩ | ⟨r',rfl,rfl,hE⟩)
   ·replace h:=jgo h;obtain ⟨e,rfl⟩:=he.ex;refine .tR 2 V H fun b10 σ H => (.aV V (.aV V (.na H fun H => (.ret ?_))));obtain rfl:=sj h;exact Ends.eR V
   ·replace h:=jret h;obtain rfl:=sj h;exact hE
 refine .skip (.then (.tR 2 V H fun b11 σ H => (.mV V (.aV V (.na H fun H => (.inBlock ?_))))));obtain ⟨y3,hj3,h⟩:=bs h;obtain ⟨n2,hj3⟩:=ZR.1 hj3;refine .mono (Runs.loopO hj3 (fun s2 e σ => ZE e [(2,(vi by')),(3,(.ptr (b1 + 0) 4 0)),(10,(vi s2))]∧Hs σ [.blk (b1 + 0) 25 (vF f)]) (fun y3 x e σ => (∃ a3,y3 = (.go a3)∧x = .exit 2∧ZE e []∧Hs σ [])∨(∃ r',y3 = (.ret r')∧x = .ret∧Ends CX Try.f86.results.toList (.tup [(vi r'.1),(vb r'.2)]) x e σ)) ⟨EI V,H⟩ ?_) ?_
 ·intro s2 e σ hI z h;obtain ⟨he,H⟩:=hI;obtain ⟨e,rfl⟩:=he.ex;unfold Zq.s1 at h;refine .then (.tR 2 V H fun b12 σ H => (.mV V (.cV (Z5F V) V (.na H fun H => ?_))));refine .wh h V ?_ ?_ <;> intro h
  ·refine .skip (.then (.inBlock (.tR 3 V H fun b13 σ H => (.LV (vF f) H 0 V (.mV V ?_)))));obtain ⟨x5,q5,h⟩:=bs h;refine .cV (gran_some_fn q5) V (.na H fun H => ?_);refine .wh h V ?_ ?_ <;> intro h
   ·refine .tR 3 V H fun b14 σ H => (.mV V (.aV V (.aV V (.na H fun H => (.ret ?_)))));obtain rfl:=sj h;exact ⟨nofun,(.inr ⟨_,V,V,(Ends.H (xs:=[(vi s2),(vb true)]) (.inr V) H (.tmp (v:=(vi s2)) V (.tmp (v:=(vb true)) V .nil)) (.two (.cons (.c (.v _)) (.cons (.c (.v _)) .nil))))⟩)⟩
   refine .skip (.ZJ 4 V H fun b15 σ H => (.mV V (.mV V (.iV V (.aV V (.na H fun H => ?_))))));obtain rfl:=sj h;exact ⟨V,EI V,H⟩
  refine .exit ?_;obtain rfl:=sj h;exact ⟨nofun,(.inl ⟨_,V,V,U,(H.erase 0)⟩)⟩
 ·rintro x e σ (⟨a4,rfl,rfl,he,H⟩ | ⟨r',rfl,rfl,hE⟩)
  ·replace h:=jgo h;obtain ⟨e,rfl⟩:=he.ex;refine .tR 2 V H fun b16 σ H => (.aV V (.aV V (.na H fun H => (.ret ?_))));obtain rfl:=sj h;exact Ends.eR V
  ·replace h:=jret h;obtain rfl:=sj h;exact hE
theorem ZCv {f:Form} {i:Int} {r:Int × Bool} (h:Z1b f i = some r):Fn CX 84 [(.agg (vs (Form.cs f))),(vi i)] (.tup [(vi r.1),(vb r.2)]):=by
 refine Fn.go Try.func84 V fun σ H => ?_;unfold Z1b at h;refine .tR 3 V H fun b1 σ H => (.bxc (cs:=(vF f)) H V V V fun σ H => (.aV V (.aV V (.na H fun H => (.then (.tR 2 V H fun b2 σ H => (.mV V (.iV V ?_))))))));refine .na H fun H => ?_;refine .wh h V ?_ ?_ <;> intro h
 ·refine .tR 2 V H fun b3 σ H => (.aV V (.aV V (.na H fun H => (.ret ?_))));obtain rfl:=sj h;exact Ends.eR V
 refine .skip (.tR 9 V H fun b4 σ H => (.LV (vF f) H 0 V (.mV V (.iV V (.min2 V V V ?_)))));obtain ⟨x1,q1,h⟩:=bs h;refine .cV (ZAA q1) V (.xV V (.xV V (.aV V (.aV V (.na H fun H => (.ret ?_))))));obtain rfl:=sj h;exact Ends.eR V
theorem Z5l {f:Form} {i:Int} {r:Int × Bool} (h:Z0o f i = some r):Fn CX 60 [(.agg (vs (Form.cs f))),(vi i)] (.tup [(vi r.1),(vb r.2)]):=by
 refine Fn.go Try.func60 V fun σ H => ?_;unfold Z0o at h;refine .tR 3 V H fun b1 σ H => (.bxc (cs:=(vF f)) H V V V fun σ H => (.aV V (.aV V (.na H fun H => (.then (.tR 2 V H fun b2 σ H => (.mV V (.iV V ?_))))))));refine .na H fun H => ?_;refine .wh h V ?_ ?_ <;> intro h
 ·refine .tR 2 V H fun b3 σ H => (.aV V (.aV V (.na H fun H => (.ret ?_))));obtain rfl:=sj h;exact Ends.eR V
 refine .skip (.tR 9 V H fun b4 σ H => (.LV (vF f) H 0 V (.mV V (.iV V (.max2 V V V ?_)))));obtain ⟨x1,q1,h⟩:=bs h;refine .cV (ZAA q1) V (.xV V (.xV V (.aV V (.aV V (.na H fun H => (.ret ?_))))));obtain rfl:=sj h;exact Ends.eR V
theorem Z5f {a:(List Span)} {b:(List Span)} {r:Bool} (h:Z0a a b = some r):Fn CX 85 [(vl Span.cs a),(vl Span.cs b)] (vb r):=by
 refine Fn.go Try.func85 V fun σ H => ?_;unfold Z0a at h;refine .tR 1 V H fun b1 σ H => (.aV V (.na H fun H => (.then (.Z0P 23 V (by kernel_rfl) H fun b2 σ H B2 => (.mV V (.nV V (.iV V (.mV V ?_))))))));refine .md H 4 [(12,(vb (((a.length:Int) == 0) || ((b.length:Int) == 0)))),(0,(vl Span.cs a)),(1,(vl Span.cs b))] [] rfl ?_ fun e σ H => ?_
 ·refine .split V V ?_ ?_ <;> intro hc1
  ·refine .ps 3 V (.kT V (.nil ?_));exact ⟨⟨or_T hc1,V,V,U⟩,H.wk (by omega)⟩
  ·refine .mV V (.nV V (.iV V (.kF V (.nil ?_))));exact ⟨⟨or_F hc1,V,V,U⟩,H.wk (by omega)⟩
 refine .mV V ?_;obtain ⟨y1,hj1,h⟩:=bs h;refine .md H 13 [(26,(vb y1))] [] V ?_ fun e σ H => ?_
 ·refine .sp hj1 V ?_ ?_ <;> intro h
  ·refine .ps 12 V (.kT V (.nil ?_));obtain rfl:=sj h;exact ⟨EI V,H.wk (by omega)⟩
  refine .mV V (.mV V (.nV V (.iV V (.wt V V ?_))));obtain ⟨x1,q1,h⟩:=bs h;refine .jV q1 V (.wt V V (.Z0B V V V V (.pV V (.mV V (.wt V V ?_)))));obtain ⟨x2,q2,h⟩:=bs h;refine .jV q2 V (.wt V V (.Z0B V V V V (.pV V (.iV V (.kF V (.nil ?_))))));obtain rfl:=sj h;exact ⟨EI V,H.wk (by omega)⟩
 refine .aV V (.na H fun H => (.ret ?_));obtain rfl:=sj h;exact Ends.eR V
theorem ZCT {f:Form} {i:Int} {r:Bool} (h:Z1y f i = some r):Fn CX 58 [(.agg (vs (Form.cs f))),(vi i)] (vb r):=by
 refine Fn.go Try.func58 V fun σ H => ?_;unfold Z1y at h;refine .tR 2 V H fun b1 σ H => (.bxc (cs:=(vF f)) H V V V fun σ H => (.aV V (.na H fun H => (.tR 8 V H fun b2 σ H => (.LV (vF f) H 0 V (.mV V ?_))))));obtain ⟨x1,q1,h⟩:=bs h;refine .cV (Z2U q1) V (.m1 (.tup [(vl Span.cs x1.1),(vi x1.2)]) V V (.xV V (.xV V (.aV V (.aV V (.na H fun H => (.then (.tR 2 V H fun b3 σ H => ?_))))))));refine .mV V (.iV V (.na H fun H => ?_));refine .wh h V ?_ ?_ <;> intro h
 ·refine .tR 1 V H fun b4 σ H => (.aV V (.na H fun H => (.ret ?_)));obtain rfl:=sj h;exact Ends.eR V
 refine .skip (.tR 8 V H fun b5 σ H => (.LV (vF f) H 0 V (.mV V ?_)));obtain ⟨x2,q2,h⟩:=bs h;refine .cV (ZCv q2) V (.m1 (.tup [(vi x2.1),(vb x2.2)]) V V (.xV V (.xV V (.aV V (.aV V (.na H fun H => (.tR 8 V H fun b6 σ H => (.LV (vF f) H 0 V ?_))))))));refine .mV V ?_;obtain ⟨x3,q3,h⟩:=bs h;refine .cV (Z5l q3) V (.m1 (.tup [(vi x3.1),(vb x3.2)]) V V (.xV V (.xV V (.aV V (.aV V (.na H fun H => (.tR 2 V H fun b7 σ H => (.a1 .nils V V ?_))))))));refine .a1 .nils V V (.na H fun H => (.then ?_));obtain ⟨y1,hj1,h⟩:=bs h;refine .mono (Q:=fun x e σ => (∃ a1,∃ (w1:PV),RO w1 (a1.map Span.cs)∧y1 = (.go a1)∧x = .normal∧ZE e [(2,(.ptr (b1 + 0) 4 0)),(5,(vl Span.cs x1.1)),(9,(vi x3.1)),(10,(vb x3.2)),(11,w1),(12,.nils)]∧Hs σ [.blk (b1 + 0) 25 (vF f)])∨(∃ r',y1 = (.ret r')∧x = .ret∧Ends CX Try.f58.results.toList (vb r') x e σ)) ?_ ?_
 ·replace h:=hj1;refine .tR 1 V H fun b8 σ H => (.mV V (.na H fun H => ?_));refine .wh h V ?_ ?_ <;> intro h
  ·refine .tR 8 V H fun b9 σ H => (.LV (vF f) H 0 V (.mV V ?_));obtain ⟨x4,q4,h⟩:=bs h;refine .cV (Z2U q4) V (.m1 (.tup [(vl Span.cs x4.1),(vi x4.2)]) V V (.xV V (.xV V (.aV V (.aV V (.na H fun H => (.tR 2 V H fun b10 σ H => (.mV V ?_))))))));refine .iV V (.na H fun H => ?_);refine .wh h V ?_ ?_ <;> intro h
   ·refine .tR 1 V H fun b11 σ H => (.aV V (.na H fun H => (.ret ?_)));obtain rfl:=sj h;exact (.inr ⟨_,V,V,(Ends.H (xs:=[(vb false)]) (.inr V) H (.tmp (v:=(vb false)) V .nil) (.one (.c (.v _))))⟩)
   refine .skip ?_;obtain rfl:=sj h;exact (.inl ⟨_,(vl Span.cs x4.1),.inr V,V,V,EI V,H⟩)
  refine .skip ?_;obtain rfl:=sj h;exact (.inl ⟨_,.nils,.inl ⟨V,V⟩,V,V,EI V,H⟩)
 ·rintro x e σ (⟨a2,w2,hw2,rfl,rfl,he,H⟩ | ⟨r',rfl,rfl,hE⟩)
  ·replace h:=jgo h;obtain ⟨e,rfl⟩:=he.ex;refine .then ?_;obtain ⟨y2,hj2,h⟩:=bs h;refine .mono (Q:=fun x e σ => (∃ a3,∃ (w3:PV),RO w3 (a3.map Span.cs)∧y2 = (.go a3)∧x = .normal∧ZE e [(5,(vl Span.cs x1.1)),(11,w2),(12,w3)]∧Hs σ [])∨(∃ r',y2 = (.ret r')∧x = .ret∧Ends CX Try.f58.results.toList (vb r') x e σ)) ?_ ?_
   ·replace h:=hj2;refine .tR 1 V H fun b12 σ H => (.mV V (.na H fun H => ?_));refine .wh h V ?_ ?_ <;> intro h
    ·refine .tR 8 V H fun b13 σ H => (.LV (vF f) H 0 V (.mV V ?_));obtain ⟨x5,q5,h⟩:=bs h;refine .cV (Z2U q5) V (.m1 (.tup [(vl Span.cs x5.1),(vi x5.2)]) V V (.xV V (.xV V (.aV V (.aV V (.na H fun H => (.tR 2 V H fun b14 σ H => (.mV V ?_))))))));refine .iV V (.na H fun H => ?_);refine .wh h V ?_ ?_ <;> intro h
     ·refine .tR 1 V H fun b15 σ H => (.aV V (.na H fun H => (.ret ?_)));obtain rfl:=sj h;exact (.inr ⟨_,V,V,(Ends.H (xs:=[(vb false)]) (.inr V) H (.tmp (v:=(vb false)) V .nil) (.one (.c (.v _))))⟩)
     refine .skip ?_;obtain rfl:=sj h;exact (.inl ⟨_,(vl Span.cs x5.1),.inr V,V,V,EI V,(H.erase 0)⟩)
    refine .skip ?_;obtain rfl:=sj h;exact (.inl ⟨_,.nils,.inl ⟨V,V⟩,V,V,EI V,(H.erase 0)⟩)
   ·rintro x e σ (⟨a4,w4,hw4,rfl,rfl,he,H⟩ | ⟨r',rfl,rfl,hE⟩)
    ·replace h:=jgo h;obtain ⟨e,rfl⟩:=he.ex;refine .tR 14 V H fun b16 σ H => (.m1 w2 V V (.mV V ?_));obtain ⟨x6,q6,h⟩:=bs h;refine .callX (xs:=[w2,(vl Span.cs x1.1)]) (ys:=[(vl Span.cs a2),(vl Span.cs x1.1)]) H V (.cons (.c (.ro hw2)) (.cons (.c (.v _)) .nil)) (Z5f q6) V V nofun V fun σ H => (.mV V ?_);obtain ⟨y3,hj3,h⟩:=bs h;refine .md H 4 [(58,(vb y3)),(11,w2),(12,w4)] [] V ?_ fun e σ H => ?_
     ·refine .sp hj3 V ?_ ?_ <;> intro h
      ·refine .mV V (.m1 w4 V V (.wt V V ?_));obtain ⟨x7,q7,h⟩:=bs h;refine .callX (xs:=[(vl Span.cs x1.1),w4]) (ys:=[(vl Span.cs x1.1),(vl Span.cs a4)]) H V (.cons (.c (.v _)) (.cons (.c (.ro hw4)) .nil)) (Z5f q7) V V nofun V fun σ H => (.kT V (.nil ?_));obtain rfl:=sj h;exact ⟨EI V,H.wk (by omega)⟩
      refine .ps 3 V (.kF V (.nil ?_));obtain rfl:=sj h;exact ⟨EI V,H.wk (by omega)⟩
     refine .mV V ?_;obtain ⟨y4,hj4,h⟩:=bs h;refine .md H 4 [(63,(vb y4))] [] V ?_ fun e σ H => ?_
     ·refine .sp hj4 V ?_ ?_ <;> intro h
      ·refine .m1 w2 V V (.m1 w4 V V (.wt V V ?_));obtain ⟨x8,q8,h⟩:=bs h;refine .callX (xs:=[w2,w4]) (ys:=[(vl Span.cs a2),(vl Span.cs a4)]) H V (.cons (.c (.ro hw2)) (.cons (.c (.ro hw4)) .nil)) (Z5f q8) V V nofun V fun σ H => (.kT V (.nil ?_));obtain rfl:=sj h;exact ⟨EI V,H.wk (by omega)⟩
      refine .ps 3 V (.kF V (.nil ?_));obtain rfl:=sj h;exact ⟨EI V,H.wk (by omega)⟩
     refine .aV V (.na H fun H => (.ret ?_));obtain rfl:=sj h;exact Ends.eR V
    ·replace h:=jret h;obtain rfl:=sj h;exact hE
  ·replace h:=jret h;obtain rfl:=sj h;exact hE
theorem Z97 {f:Form} {r:Int} (h:Z00 f = some r):Fn CX 27 [(.agg (vs (Form.cs f)))] (vi r):=by
 refine Fn.go Try.func27 V fun σ H => ?_;unfold Z00 at h;refine .tR 2 V H fun b1 σ H => (.bxc (cs:=(vF f)) H V V V fun σ H => (.aV V (.na H fun H => (.then (.tR 15 V H fun b2 σ H => (.fV H 0 V (.lV H 0 V (.nV V ?_))))))));refine .iV V (.mV V ?_);refine .md H 5 [(14,(vb ((decide ((f.Core.length:Int) > 6000)) || (decide ((f.Odd.length:Int) > 6000))))),(1,(.ptr (b1 + 0) 4 0))] [.blk (b1 + 0) 25 (vF f)] rfl ?_ fun e σ H => ?_
 ·refine .split V V ?_ ?_ <;> intro hc1
  ·refine .ps 4 V (.kT V (.nil ?_));exact ⟨⟨or_T hc1,V,U⟩,H.wk (by omega)⟩
  ·refine .fV H 0 V (.lV H 0 V (.nV V (.iV V (.kF V (.nil ?_)))));exact ⟨⟨or_F hc1,V,U⟩,H.wk (by omega)⟩
 refine .mV V ?_;obtain ⟨y1,hj1,h⟩:=bs h;refine .md H 4 [(19,(vb y1)),(1,(.ptr (b1 + 0) 4 0))] [.blk (b1 + 0) 25 (vF f)] V ?_ fun e σ H => ?_
 ·refine .sp hj1 V ?_ ?_ <;> intro h
  ·refine .ps 3 V (.kT V (.nil ?_));obtain rfl:=sj h;exact ⟨EI V,H.wk (by omega)⟩
  refine .LV (vF f) H 0 V (.wt V V ?_);obtain ⟨x1,q1,h⟩:=bs h;refine .cV (Z9t q1) V (.iV V (.kF V (.nil ?_)));obtain rfl:=sj h;exact ⟨EI V,H.wk (by omega)⟩
 refine .na H fun H => ?_;refine .wh h V ?_ ?_ <;> intro h
 ·refine .tR 1 V H fun b3 σ H => (.aV V (.na H fun H => (.ret ?_)));obtain rfl:=sj h;exact Ends.eR V
 refine .skip (.then (.tR 8 V H fun b4 σ H => (.LV (vF f) H 0 V ?_)));obtain ⟨x2,q2,h⟩:=bs h;refine .cV (gran_shape_fn q2) V (.tV V (.mV V ?_));obtain ⟨y2,hj2,h⟩:=bs h;refine .md H 4 [(27,(vb y2)),(1,(.ptr (b1 + 0) 4 0))] [.blk (b1 + 0) 25 (vF f)] V ?_ fun e σ H => ?_
 ·refine .sp hj2 V ?_ ?_ <;> intro h
  ·refine .ps 3 V (.kT V (.nil ?_));obtain rfl:=sj h;exact ⟨EI V,H.wk (by omega)⟩
  refine .LV (vF f) H 0 V (.wt V V ?_);obtain ⟨x3,q3,h⟩:=bs h;refine .cV (gran_turns_fn q3) V (.tV V (.kF V (.nil ?_)));obtain rfl:=sj h;exact ⟨EI V,H.wk (by omega)⟩
 refine .na H fun H => ?_;refine .wh h V ?_ ?_ <;> intro h
 ·refine .tR 1 V H fun b5 σ H => (.aV V (.na H fun H => (.ret ?_)));obtain rfl:=sj h;exact Ends.eR V
 refine .skip (.then (.tR 4 V H fun b6 σ H => (.fV H 0 V (.lV H 0 V (.nV V (.mV V (.na H fun H => (.inBlock ?_))))))));obtain ⟨y3,hj3,h⟩:=bs h;obtain ⟨n1,hj3⟩:=ZR.1 hj3;refine .mono (Runs.loopO hj3 (fun s1 e σ => ZE e [(1,(.ptr (b1 + 0) 4 0)),(29,(vl Granule.cs f.Odd)),(30,(vi (f.Odd.length:Int))),(31,(vi s1))]∧Hs σ [.blk (b1 + 0) 25 (vF f)]) (fun y3 x e σ => (∃ a1,y3 = (.go a1)∧x = .exit 0∧ZE e []∧Hs σ [])∨(∃ r',y3 = (.ret r')∧x = .ret∧Ends CX Try.f27.results.toList (vi r') x e σ)) ⟨EI V,H⟩ ?_) ?_
 ·intro s1 e σ hI z h;obtain ⟨he,H⟩:=hI;obtain ⟨e,rfl⟩:=he.ex;unfold Z00.s0 at h;refine .tR 1 V H fun b7 σ H => (.iV V (.na H fun H => (.then ?_)));refine .wh h V ?_ ?_ <;> intro h
  ·refine .skip (.then (.inBlock (.tR 4 V H fun b8 σ H => ?_)));obtain ⟨x4,q4,h⟩:=bs h;refine .jV q4 V (.qV [(.int .i64 x4.Index),(.sl (x4.Ticks.map Span.cs))] V (.alc (cs:=[(vi 0),.nils]) H V V fun σ H => (.sV [(vi x4.Index),(vl Span.cs x4.Ticks)] H 0 V fun σ H => (.na H fun H => (.tR 5 V H fun b9 σ H => (.LV (vF f) H 1 V (.fV H 0 V (.lV H 0 V ?_))))))));obtain ⟨x5,q5,h⟩:=bs h;refine .cV (ZCT q5) V (.tV V (.na H fun H => ?_));refine .wh h V ?_ ?_ <;> intro h
   ·refine .tR 1 V H fun b10 σ H => (.aV V (.na H fun H => (.ret ?_)));obtain rfl:=sj h;exact ⟨nofun,(.inr ⟨_,V,V,(Ends.H (xs:=[(vi 50)]) (.inr V) H (.tmp (v:=(vi 50)) V .nil) (.one (.c (.v _))))⟩)⟩
   refine .skip (.ZJ 2 V H fun b11 σ H => (.iV V (.mV V (.na H fun H => ?_))));obtain rfl:=sj h;exact ⟨V,EI V,(H.erase 0)⟩
  refine .exit ?_;obtain rfl:=sj h;exact ⟨nofun,(.inl ⟨_,V,V,U,(H.erase 0)⟩)⟩
 ·rintro x e σ (⟨a2,rfl,rfl,he,H⟩ | ⟨r',rfl,rfl,hE⟩)
  ·replace h:=jgo h;obtain ⟨e,rfl⟩:=he.ex;refine .tR 1 V H fun b12 σ H => (.aV V (.na H fun H => (.ret ?_)));obtain rfl:=sj h;exact Ends.eR V
  ·replace h:=jret h;obtain rfl:=sj h;exact hE
theorem Z8l {f:Form} {r:Bool} (h:Z19 f = some r):Fn CX 9 [(.agg (vs (Form.cs f)))] (vb r):=by
 refine Fn.go Try.func9 V fun σ H => ?_;unfold Z19 at h;refine .tR 2 V H fun b1 σ H => (.bxc (cs:=(vF f)) H V V V fun σ H => (.aV V (.na H fun H => (.tR 8 V H fun b2 σ H => (.LV (vF f) H 0 V ?_)))));obtain ⟨x1,q1,h⟩:=bs h;refine .cV (Z8h q1) V (.mV V ?_);obtain ⟨y1,hj1,h⟩:=bs h;refine .md H 4 [(9,(vb y1))] [] V ?_ fun e σ H => ?_
 ·refine .sp hj1 V ?_ ?_ <;> intro h
  ·refine .LV (vF f) H 0 V (.wt V V ?_);obtain ⟨x2,q2,h⟩:=bs h;refine .cV (Z97 q2) V (.iV V (.kT V (.nil ?_)));obtain rfl:=sj h;exact ⟨EI V,(H.erase 0).wk (by omega)⟩
  refine .ps 3 V (.kF V (.nil ?_));obtain rfl:=sj h;exact ⟨EI V,(H.erase 0).wk (by omega)⟩
 refine .aV V (.na H fun H => (.ret ?_));obtain rfl:=sj h;exact Ends.eR V
theorem ZA8 {f:Form} {r:Bool} (h:Z1n f = some r):Fn CX 23 [(.agg (vs (Form.cs f)))] (vb r):=by
 refine Fn.go Try.func23 V fun σ H => ?_;unfold Z1n at h;refine .tR 2 V H fun b1 σ H => (.bxc (cs:=(vF f)) H V V V fun σ H => (.aV V (.na H fun H => (.tR 8 V H fun b2 σ H => (.LV (vF f) H 0 V ?_)))));obtain ⟨x1,q1,h⟩:=bs h;refine .cV (Z8l q1) V (.mV V ?_);refine .md H 4 [(9,(vb (x1 && (decide (f.Period≤300)))))] [] V ?_ fun e σ H => ?_
 ·refine .split V V ?_ ?_ <;> intro hc1
  ·refine .fV H 0 V (.lV H 0 V (.iV V (.kT V (.nil ?_))));exact ⟨⟨Z3C hc1,U⟩,(H.erase 0).wk (by omega)⟩
  ·refine .ps 3 V (.kF V (.nil ?_));exact ⟨⟨Z3B hc1,U⟩,(H.erase 0).wk (by omega)⟩
 refine .aV V (.na H fun H => (.ret ?_));obtain rfl:=sj h;exact Ends.eR V
theorem Z9f {r:Form} (h:Z9 = r):Fn CX 25 [] (.agg (vs (Form.cs r))):=by
 refine Fn.go Try.func25 V fun σ H => ?_;unfold Z9 at h;refine .tR 1 V H fun b1 σ H => (.alc (cs:=[(vi 0),(vi 0),.nils,.nils]) H V V fun σ H => (.na H fun H => (.tR 5 V H fun b2 σ H => (.bV [(vi 0),(vi 0)] V (.Z3o (sz:=2) ([(Span.mk 0 0)].map Span.cs) H (by omega) (by omega) V V V V V V V V V fun σ H => (.buildSF (sz:=1) ([[(Span.mk 0 0)]].map (cL Span.cs)) H (by omega) (by omega) V V (.exp (.c (.s 0 V)) .nil) V V V V V V V nofun fun σ H => (.bV [(vi 1),(vi 1),(.buf (b2 + 2) 1 1),.nils] V (.sV [(vi 1),(vi 1),(.buf (b2 + 2) 1 1),.nils] H 2 V fun σ H => ?_))))))));refine .na H fun H => (.ret ?_);subst h;exact (Ends.H (xs:=[(.agg [(vi 1),(vi 1),(.buf (b2 + 2) 1 1),.nils])]) (.inr V) H (.agg (cs:=[(vi 1),(vi 1),(.buf (b2 + 2) 1 1),.nils]) 2 V V V V V V V .nil) (.one (.a (.cons (.v _) (.cons (.v _) (.cons (.s 0 V) (.cons .n .nil)))))))
theorem ZBj {a b r:Int} (h:gcd? a b = some r):Fn CX 78 [(vu a),(vu b)] (vu r):=by
 refine Fn.intr ?_ V V V;rw [cx_intr78];unfold gcd? at h;unfold gcdV
 dsimp only
 split at h
 ·rename_i h1;cases h;rw [if_pos h1]
 ·cases h
theorem Z7n {a:Int} {b:Int} {r:Int × Int} (h:Z3X a b = some r):Fn CX 75 [(vi a),(vi b)] (.tup [(vi r.1),(vi r.2)]):=by
 refine Fn.go Try.func75 V fun σ H => ?_;unfold Z3X at h;refine .tR 2 V H fun b1 σ H => (.aV V (.aV V (.na H fun H => (.tR 6 V H fun b2 σ H => (.mV V (.cV (Z3P V) V (.mV V (.cV (Z3P V) V ?_))))))));refine .aV V (.aV V (.na H fun H => (.then (.tR 6 V H fun b3 σ H => (.mV V (.iV V (.mV V ?_)))))));refine .md H 3 [(19,(vb (((ZZ a) == 0) || ((ZZ b) == 0)))),(6,(vu (ZZ a))),(7,(vu (ZZ b)))] [] rfl ?_ fun e σ H => ?_
 ·refine .split V V ?_ ?_ <;> intro hc1
  ·refine .ps 2 V (.kT V (.nil ?_));exact ⟨⟨or_T hc1,V,V,U⟩,H.wk (by omega)⟩
  ·refine .mV V (.iV V (.kF V (.nil ?_)));exact ⟨⟨or_F hc1,V,V,U⟩,H.wk (by omega)⟩
 refine .na H fun H => ?_;refine .wh h V ?_ ?_ <;> intro h
 ·refine .tR 2 V H fun b4 σ H => (.aV V (.aV V (.na H fun H => (.ret ?_))));obtain rfl:=sj h;exact Ends.eR V
 refine .skip (.tR 12 V H fun b5 σ H => (.mV V (.mV V (.mV V ?_))));obtain ⟨x1,q1,h⟩:=bs h;refine .cV (ZBj q1) V ?_;obtain ⟨u1,q2,h⟩:=bs h;refine .quo (m:=(ZZ a)) (m':=x1) V V (Z6D q2) V (.mV V (.cV (Z5e V) V (.m1 (.tup [(vu (Zu (IntKind.u64.wrap ((ZZ a).tdiv x1)) (ZZ b)).1),(vu (Zu (IntKind.u64.wrap ((ZZ a).tdiv x1)) (ZZ b)).2)]) V V (.xV V (.xV V (.aV V (.aV V (.na H fun H => ?_))))))));refine .then (.tR 2 V H fun b6 σ H => (.mV V (.iV V (.na H fun H => ?_))));refine .wh h V ?_ ?_ <;> intro h
 ·refine .tR 2 V H fun b7 σ H => (.aV V (.aV V (.na H fun H => (.ret ?_))));obtain rfl:=sj h;exact Ends.eR V
 refine .skip (.tR 6 V H fun b8 σ H => (.mV V (.cV (Z5x V) V (.xV V (.xV V (.aV V (.aV V (.na H fun H => ?_))))))));refine .ret ?_;obtain rfl:=sj h;exact Ends.eR V
theorem ZB6 {f:Form} {m:Int} {r:Int × Int} (h:Z1Y f m = some r):Fn CX 61 [(.agg (vs (Form.cs f))),(vi m)] (.tup [(vi r.1),(vi r.2)]):=by
 refine Fn.go Try.func61 V fun σ H => ?_;unfold Z1Y at h;refine .tR 3 V H fun b1 σ H => (.bxc (cs:=(vF f)) H V V V fun σ H => (.aV V (.aV V (.na H fun H => (.then (.tR 3 V H fun b2 σ H => (.fV H 0 V (.lV H 0 V ?_))))))));refine .iV V (.na H fun H => ?_);refine .wh h V ?_ ?_ <;> intro h
 ·refine .tR 2 V H fun b3 σ H => (.aV V (.aV V (.na H fun H => (.ret ?_))));obtain rfl:=sj h;exact Ends.eR V
 refine .skip (.tR 9 V H fun b4 σ H => (.fV H 0 V (.lV H 0 V (.mV V ?_))));obtain ⟨x1,q1,h⟩:=bs h;refine .cV (Z7n q1) V (.m1 (.tup [(vi x1.1),(vi x1.2)]) V V (.xV V (.xV V (.aV V (.aV V (.na H fun H => (.tR 6 V H fun b5 σ H => (.mV V ?_))))))));refine .mV V ?_;obtain ⟨u1,q2,h⟩:=bs h;refine .quo (m:=x1.1) (m':=m) V V (Z6D q2) V (.mV V (.aV V (.aV V (.na H fun H => (.ret ?_)))));obtain rfl:=sj h;exact Ends.eR V
theorem ZAx {S:Type} {p1':Int} {p2':Int→Option ((List Span) × Int)} {p3':Int} {C:S→List Res→Prop} {yield:S→((List Span) × Int)→Option (S × Bool)} {yid:Nat} {id0':Nat} {cv0:PV} {C':List Res} (hf0:∀ z0 y,p2' z0 = some y→CloH CX cv0 [(vi z0)] (.tup [(vl Span.cs y.1),(vi y.2)]) C') {id1':Nat} {id2':Nat} (hy:YldH CX yid C (fun z => [(vl Span.cs z.1),(vi z.2)]) yield) (hcap:∀ s L,C s L→Sub (.blk id0' 3 [(vi p1')] :: .blk id1' 65 [cv0] :: .blk id2' 3 [(vi p3')] :: C') L) {st' r:S} (h:Z0L p1' p2' p3' yield st' = some r):ItF CX 87 [(.yld yid),(.ptr id0' 1 0),(.ptr id1' 1 0),(.ptr id2' 1 0)] C st' r:=by
 refine ItF.of Try.func87 V V V V V V V V ?_;intro σ L hC H;have hc0:=hcap _ _ hC;obtain ⟨k0',hk0',hc0⟩:=hc0.inv;obtain ⟨k1',hk1',hc0⟩:=hc0.inv;obtain ⟨k2',hk2',hc0⟩:=hc0.inv;unfold Z0L at h;refine .tR 2 V H fun b1 σ H => (.ld (vi p1') H k0' hk0' V V V V nofun V (.mV V (.na H fun H => (.inBlock ?_))));obtain ⟨y1,hj1,h⟩:=bs h;obtain ⟨n1,hj1⟩:=ZR.1 hj1;refine .mono (Runs.loopO hj1 (fun s1 e σ => ∃ (L:List Res),C s1.2 L∧ZE e [(0,(.yld yid)),(2,(.ptr id1' 1 0)),(3,(.ptr id2' 1 0)),(6,(vi p1')),(7,(vi s1.1))]∧Hs σ (L)) (fun y1 x e σ => (∃ a1,∃ (L:List Res),C a1 L∧y1 = (.go a1)∧x = .exit 0∧ZE e []∧Hs σ (L))∨(∃ r',y1 = (.ret r')∧x = .ret∧EndsI C r' x e σ)) ⟨_,hC,EI V,H⟩ ?_) ?_
 ·intro s1 e σ hI z h;obtain ⟨L,hC,he,H⟩:=hI;obtain ⟨e,rfl⟩:=he.ex;have hc0:=hcap _ _ hC;obtain ⟨k0',hk0',hc0⟩:=hc0.inv;obtain ⟨k1',hk1',hc0⟩:=hc0.inv;obtain ⟨k2',hk2',hc0⟩:=hc0.inv;unfold Z0L.s0 at h;refine .tR 1 V H fun b2 σ H => (.iV V (.na H fun H => (.then ?_)));refine .wh h V ?_ ?_ <;> intro h
  ·refine .skip (.then (.inBlock (.tR 2 V H fun b3 σ H => (.mV V (.aV V (.na H fun H => (.tR 10 V H fun b4 σ H => (.m1 (.yld yid) V V ?_))))))));refine .ld cv0 H k1' hk1' V V V V nofun V (.ld (vi p3') H k2' hk2' V V V V nofun V (.mV V (.iV V ?_)));obtain ⟨x1,q1,h⟩:=bs h;refine .callV (cv:=cv0) (ys:=[(vi (w64 (p3' + s1.1)))]) (r:=(.tup [(vl Span.cs x1.1),(vi x1.2)])) H V V (hf0 (w64 (p3' + s1.1)) _ q1) hc0 nofun V fun σ H => (.xV V (.xV V ?_));obtain ⟨x2,q2,h⟩:=bs h;refine .callY (z:=(x1.1,x1.2)) (s':=x2.1) (b:=x2.2) [] H hC V V hy q2 V V fun σ L hC H => ?_;have hc0:=hcap _ _ hC;obtain ⟨k0',hk0',hc0⟩:=hc0.inv;obtain ⟨k1',hk1',hc0⟩:=hc0.inv;obtain ⟨k2',hk2',hc0⟩:=hc0.inv;refine .tV V (.na H fun H => ?_);refine .wh h V ?_ ?_ <;> intro h
   ·refine .ret ?_;obtain rfl:=sj h;exact ⟨nofun,(.inr ⟨_,V,V,(EndsI.H (.inr V) H 0 V hC)⟩)⟩
   refine .skip (.ZJ 2 V H fun b5 σ H => (.iV V (.mV V (.na H fun H => ?_))));obtain rfl:=sj h;exact ⟨V,_,hC,EI V,H⟩
  refine .exit ?_;obtain rfl:=sj h;exact ⟨nofun,(.inl ⟨_,_,hC,V,V,U,H⟩)⟩
 ·rintro x e σ (⟨a2,L,hC,rfl,rfl,he,H⟩ | ⟨r',rfl,rfl,hE⟩)
  ·replace h:=jgo h;obtain ⟨e,rfl⟩:=he.ex;have hc0:=hcap _ _ hC;obtain ⟨k0',hk0',hc0⟩:=hc0.inv;obtain ⟨k1',hk1',hc0⟩:=hc0.inv;obtain ⟨k2',hk2',hc0⟩:=hc0.inv;obtain rfl:=sj h;exact (EndsI.H (.inl V) H 0 V hC)
  ·replace h:=jret h;obtain rfl:=sj h;exact hE
theorem Z5n {tell:Int→Option ((List Span) × Int)} {from':Int} {many:Int} {C:List Res} {cv0:PV} (hs0:cv0.one = true) (hp0:cv0.pure = true→C = []) (hf0:∀ z0 y,tell z0 = some y→CloH CX cv0 [(vi z0)] (.tup [(vl Span.cs y.1),(vi y.2)]) C) {r:(List Span) × Int} (h:Zg tell from' many = some r):FnH CX 33 [cv0,(vi from'),(vi many)] (.tup [(vl Span.cs r.1),(vi r.2)]) C:=by
 refine FnH.of Try.func33 V V V V (Z5J (Z5Y hs0) (Z5J V (Z5J V all_nil))) V (fun h => hp0 (Z4s h 0 V)) ?_;intro σ L hC H;unfold Zg at h;refine .tR 2 V H fun b1 σ H => (.alc (cs:=[.nils]) H V V fun σ H => (.alc (cs:=[(vi 0)]) H V V fun σ H => (.na H fun H => (.tR 1 V H fun b2 σ H => (.alc (cs:=[.nils]) H V V fun σ H => (.na H fun H => (.then (.tR 4 V H fun b3 σ H => ?_))))))));refine .m1 cv0 V V (.mV V (.mV V ?_));obtain ⟨y1,hj1,h⟩:=bs h;refine .callI (PostA:=fun r A => ∃ (id1:Nat) (id2:Nat) (id3:Nat),r = (.clo 87 [] [(.ptr id1 1 0),(.ptr id3 1 0),(.ptr id2 1 0)])∧A = [.blk id1 3 [(vi many)],.blk id2 3 [(vi from')],.blk id3 65 [cv0],.blk (b2 + 0) 37 [.nils],.blk (b1 + 1) 29 [(vi 0)],.blk (b1 + 0) 37 [.nils]]) (cv:=(.v (.fn 63))) (ys:=[cv0,(vi from'),(vi many)]) (L:=L) [.blk (b2 + 0) 37 [.nils],.blk (b1 + 1) 29 [(vi 0)],.blk (b1 + 0) 37 [.nils]] H V V (fun T1 hT H => callI_of Try.func63 V (fun _ => V) V V V V ?_) nofun V ?_
 ·replace h:=hj1;have hC:=hT _ hC;refine .tR 4 V H fun b4 σ H => (.bxc (cs:=[cv0]) H V (one_cells hs0) V fun σ H => (.bxc (cs:=[(vi from')]) H V V V fun σ H => (.bxc (cs:=[(vi many)]) H V V V fun σ H => (.aV V (.na H fun H => (.tR 2 V H fun b5 σ H => (.Z7M (fs:=[]) (cs:=[(.ptr (b4 + 2) 1 0),(.ptr (b4 + 0) 1 0),(.ptr (b4 + 1) 1 0)]) V V V V (.a1 (.clo 87 [] [(.ptr (b4 + 2) 1 0),(.ptr (b4 + 0) 1 0),(.ptr (b4 + 1) 1 0)]) V V ?_))))))));refine .na H fun H => (.ret ?_);obtain rfl:=sj h;exact ⟨.inr V,_,Z4J H (.tmp (v:=(.clo 87 [] [(.ptr (b4 + 2) 1 0),(.ptr (b4 + 0) 1 0),(.ptr (b4 + 1) 1 0)])) V .nil),_,⟨(b4 + 2),(b4 + 1),(b4 + 0),V,V⟩,H⟩
 ·rintro _ _ σ ⟨id1,id2,id3,rfl,rfl⟩ H;refine .na H fun H => (.inBlock ?_);replace H:=H.pushNil 59 2 true;obtain ⟨y2,hj2,h⟩:=bs h;refine .rangeH H rfl (fun s2 M => ∃ (w3:PV),M = (.sl w3 59 2 (s2.1.map Span.cs) true :: .blk id1 3 [(vi many)] :: .blk id2 3 [(vi from')] :: .blk id3 65 [cv0] :: .blk (b2 + 0) 37 [w3] :: .blk (b1 + 1) 29 [(vi s2.2)] :: .blk (b1 + 0) 37 [.nils] :: L)) (fun z2 => [(vl Span.cs z2.1),(vi z2.2)]) Zg.b0 (fun p => if p = 0 then none else some .ret) rfl (fun p => by (repeat' split) <;> exact ⟨_,rfl⟩) (r:=y2) ⟨.nils,rfl⟩ (fun _ => rfl) (fun _ => rfl) ?_ (fun id hy => ZAx hf0 hy (fun s L hL => by obtain ⟨M,hM,rfl⟩:=hL;obtain ⟨_,rfl⟩:=hM;exact (.cons 2 rfl (.cons 4 rfl (.cons 3 rfl hC.push.push.push.push.push.push.push.push)))) hj2) ?_
  ·intro R0 R1 s2 z2 s' p h σ M O hM H;obtain ⟨w3,rfl⟩:=hM;unfold Zg.b0 at h;have hC:=hC.more (M:=O);refine .env [(15,(vl Span.cs z2.1)),(16,(vi z2.2)),(6,(.ptr (b1 + 0) 1 0)),(7,(.ptr (b1 + 1) 1 0)),(8,(.ptr (b2 + 0) 1 0)),(14,(.clo 87 [] [(.ptr id1 1 0),(.ptr id3 1 0),(.ptr id2 1 0)]))] (EI V) fun e => (.tR 1 V H fun b6 σ H => (.aV V (.na H fun H => (.ZJ 1 V H fun b7 σ H => (.aV V (.na H fun H => ?_))))));refine ⟨V,(.sl w3 59 2 (s2.1.map Span.cs) true :: .blk id1 3 [(vi many)] :: .blk id2 3 [(vi from')] :: .blk id3 65 [cv0] :: .blk (b2 + 0) 37 [w3] :: .blk (b1 + 1) 29 [(vi s2.2)] :: .blk (b1 + 0) 37 [.nils] :: L),H,?_⟩;intro σ H;obtain ⟨y3,hj3,h⟩:=bs h;refine .mono (Q:=fun x e σ => (∃ a1,∃ (w4:PV),y3 = (.go a1)∧x = .normal∧ZE e []∧Hs σ (R1 :: .sl w4 59 2 (a1.map Span.cs) true :: .blk id1 3 [(vi many)] :: .blk id2 3 [(vi from')] :: .blk id3 65 [cv0] :: .blk (b2 + 0) 37 [w4] :: .blk (b1 + 1) 29 [(vi s2.2)] :: .blk (b1 + 0) 37 [.nils] :: (L ++ O)))∨(∃ a2,y3 = (.ret a2)∧x = .ret∧ZE e [(6,(.ptr (b1 + 0) 1 0)),(7,(.ptr (b1 + 1) 1 0))]∧Hs σ (R1 :: .sl w3 59 2 (s2.1.map Span.cs) true :: .blk id1 3 [(vi many)] :: .blk id2 3 [(vi from')] :: .blk id3 65 [cv0] :: .blk (b2 + 0) 37 [w3] :: .blk (b1 + 1) 29 [(vi z2.2)] :: .blk (b1 + 0) 37 [.nils] :: (L ++ O)))) ?_ ?_
   ·replace h:=hj3;refine .inBlock ?_;obtain ⟨y4,hj4,h⟩:=bs h;refine .mono (Q:=fun x e σ => (∃ a3,∃ (w5:PV),y4 = (.go a3)∧x = .normal∧ZE e []∧Hs σ (R1 :: .sl w5 59 2 (a3.map Span.cs) true :: .blk id1 3 [(vi many)] :: .blk id2 3 [(vi from')] :: .blk id3 65 [cv0] :: .blk (b2 + 0) 37 [w5] :: .blk (b1 + 1) 29 [(vi s2.2)] :: .blk (b1 + 0) 37 [.nils] :: (L ++ O)))∨(∃ a4,y4 = (.ret a4)∧x = .ret∧ZE e [(6,(.ptr (b1 + 0) 1 0)),(7,(.ptr (b1 + 1) 1 0))]∧Hs σ (R1 :: .sl w3 59 2 (s2.1.map Span.cs) true :: .blk id1 3 [(vi many)] :: .blk id2 3 [(vi from')] :: .blk id3 65 [cv0] :: .blk (b2 + 0) 37 [w3] :: .blk (b1 + 1) 29 [(vi z2.2)] :: .blk (b1 + 0) 37 [.nils] :: (L ++ O)))) ?_ ?_
    ·replace h:=hj4;refine .then (.tR 2 V H fun b8 σ H => (.mV V (.iV V (.na H fun H => ?_))));refine .wh h V ?_ ?_ <;> intro h
     ·refine .tR 3 V H fun b9 σ H => (.mV V (.sV [.nils] H 7 V fun σ H => (.sV [(vi z2.2)] H 6 V fun σ H => (.na H fun H => (.ret ?_)))));obtain rfl:=sj h;exact (.inr ⟨_,V,V,EI V,H⟩)
     refine .skip (.then ?_);refine .jn h .normal (fun y5 => [(8,(.ptr (b2 + 0) 1 0)),(9,(vl Span.cs y5.1))]) (fun y5 => (R1 :: .sl w3 59 2 (y5.2.map Span.cs) true :: .blk id1 3 [(vi many)] :: .blk id2 3 [(vi from')] :: .blk id3 65 [cv0] :: .blk (b2 + 0) 37 [w3] :: .blk (b1 + 1) 29 [(vi s2.2)] :: .blk (b1 + 0) 37 [.nils] :: (L ++ O))) (fun y5 h => ?_) fun y5 e σ H h => ?_
     ·refine .then (.Z0P 23 V (by kernel_rfl) H fun b10 σ H B10 => (.ld w3 H 5 V V V V V (so (B10 5 _ V _ V)) V (.Z8t (c:=Span.cs) (xs:=s2.1) H 1 V V V (fun _ id ho => .inl ⟨B10 1 _ V id ho,nofun,(fun _ => by kernel_rfl)⟩) V (.iV V (.mV V ?_)))));refine .md H 4 [(27,(vb ((decide ((s2.1.length:Int) > 0)) && (decide ((z2.1.length:Int) > 0))))),(8,(.ptr (b2 + 0) 1 0)),(9,(vl Span.cs z2.1))] (R1 :: .sl w3 59 2 (s2.1.map Span.cs) true :: .blk id1 3 [(vi many)] :: .blk id2 3 [(vi from')] :: .blk id3 65 [cv0] :: .blk (b2 + 0) 37 [w3] :: .blk (b1 + 1) 29 [(vi s2.2)] :: .blk (b1 + 0) 37 [.nils] :: (L ++ O)) V ?_ fun e σ H => ?_
      ·refine .split V V ?_ ?_ <;> intro hc2
       ·refine .mV V (.nV V (.iV V (.kT V (.nil ?_))));exact ⟨⟨Z3C hc2,V,V,U⟩,H.wk (by omega)⟩
       ·refine .ps 3 V (.kF V (.nil ?_));exact ⟨⟨Z3B hc2,V,V,U⟩,H.wk (by omega)⟩
      refine .mV V ?_;obtain ⟨y6,hj6,h⟩:=bs h;refine .md H 14 [(42,(vb y6)),(8,(.ptr (b2 + 0) 1 0)),(9,(vl Span.cs z2.1))] (R1 :: .sl w3 59 2 (s2.1.map Span.cs) true :: .blk id1 3 [(vi many)] :: .blk id2 3 [(vi from')] :: .blk id3 65 [cv0] :: .blk (b2 + 0) 37 [w3] :: .blk (b1 + 1) 29 [(vi s2.2)] :: .blk (b1 + 0) 37 [.nils] :: (L ++ O)) V ?_ fun e σ H => ?_
      ·refine .sp hj6 V ?_ ?_ <;> intro h
       ·refine .mV V (.wt V V ?_);obtain ⟨x1,q1,h⟩:=bs h;refine .jV q1 V (.wt V V (.Z0B V V V V (.pV V (.wt V V (.ld w3 H 5 V V V V V (so (B10 5 _ V _ V)) V (.wt V V (.ld w3 H 5 V V V V V (so (B10 5 _ V _ V)) V (.wt V V ?_))))))));refine .Z8t (c:=Span.cs) (xs:=s2.1) H 1 V V V (fun _ id ho => .inl ⟨B10 1 _ V id ho,nofun,(fun _ => by kernel_rfl)⟩) V (.iV V (.wt V V ?_));obtain ⟨x2,q2,h⟩:=bs h;refine .Z5B H 1 V V V (at?_map q2) V V (fun _ id ho => .inl ⟨B10 1 _ V id ho,nofun,(fun _ => by kernel_rfl)⟩) V ?_;intro id4 hv1;refine .wt V V (.Z65 (id:=id4) H 1 V hv1 (by simp) V V V (fun _ => .inl ⟨B10 1 _ V _ (by rw [(hv1:(w3:PV) = _)];rfl),nofun,(fun _ => by kernel_rfl)⟩) V (.wt V V ?_));refine .loadS (id:=id4) (j:=1) (w:=(.int .i64 x2.To)) H 1 V hv1 (by simp) (at?_map q2) V (by simp) V V V (fun _ => .inl ⟨B10 1 _ V _ (by rw [(hv1:(w3:PV) = _)];rfl),nofun,(fun _ => by kernel_rfl)⟩) V ?_;refine .iV V (.iV V (.kT V (.nil ?_)));obtain rfl:=sj h;exact ⟨EI V,H.wk (by omega)⟩
       refine .ps 13 V (.kF V (.nil ?_));obtain rfl:=sj h;exact ⟨EI V,H.wk (by omega)⟩
      refine .na H fun H => ?_;refine .wh h V ?_ ?_ <;> intro h
      ·refine .then (.Z0P 11 V (by kernel_rfl) H fun b11 σ H B11 => (.ld w3 H 5 V V V V V (so (B11 5 _ V _ V)) V (.ld w3 H 5 V V V V V (so (B11 5 _ V _ V)) V (.Z8t (c:=Span.cs) (xs:=s2.1) H 1 V V V (fun _ id ho => .inl ⟨B11 1 _ V id ho,nofun,(fun _ => by kernel_rfl)⟩) V (.iV V (.mV V ?_))))));obtain ⟨x3,q3,h⟩:=bs h;refine .jV q3 V (.Z0B V V V V (.pV V ?_));obtain ⟨x4,q4,h⟩:=bs h;refine .Z5B H 1 V V V (at?_map q4) V V (fun _ id ho => .inl ⟨B11 1 _ V id ho,nofun,(fun _ => by kernel_rfl)⟩) V ?_;intro id5 hv2;refine .Z65 (id:=id5) H 1 V hv2 (by simp) V V V (fun _ => .inl ⟨B11 1 _ V _ (by rw [(hv2:(w3:PV) = _)];rfl),nofun,(fun _ => by kernel_rfl)⟩) V (.storeSt (id:=id5) (j:=1) (zs:=[(.int .i64 x3.To)]) (u:=x4) (u':=(Span.mk x4.From x3.To)) H 1 V hv2 (by simp) q4 V (by simp) V V V V V V (fun _ => .inl ⟨B11 1 _ V _ (by rw [(hv2:(w3:PV) = _)];rfl),(fun _ => by kernel_rfl),nofun⟩) fun σ H => (.na H fun H => (.ZJ 3 V H fun b12 σ H => (.mV V ?_))));obtain ⟨x5,q5,h⟩:=bs h;refine .sliceP10 (c:=Span.cs) q5 V V V V (fun _ => V) V (.aV V (.na H fun H => ?_));obtain rfl:=sj h;exact ⟨V,EI V,H⟩
      refine .skip ?_;obtain rfl:=sj h;exact ⟨V,EI V,H⟩
     refine .ZJ 4 V H fun b13 σ H => (.lV H 5 V (.mV V ?_));obtain ⟨x6,q6,h⟩:=bs h;refine .Z3Z (c:=Span.cs) (v:=w3) (w:=(vl Span.cs y5.1)) (xs:=y5.2) (ys:=y5.1) H (by omega) (by omega) 1 V V V (.m (fun _ => V)) q6 V V V V V nofun V fun w6 σ H => (.Z39 (v:=w6) (ys:=[w6]) (cells':=[w6]) H 5 V V V V (H.slCells (k:=1) V) V V V V nofun fun σ H => (.na H fun H => ?_));obtain rfl:=sj h;exact (.inl ⟨_,w6,V,V,U,H⟩)
    ·rintro x e σ (⟨a5,w7,rfl,rfl,he,H⟩ | ⟨a6,rfl,rfl,he,H⟩)
     ·replace h:=jgo h;obtain ⟨e,rfl⟩:=he.ex;obtain rfl:=sj h;exact (.inl ⟨_,w7,V,V,U,H⟩)
     ·replace h:=jret h;obtain ⟨e,rfl⟩:=he.ex;obtain rfl:=sj h;exact (.inr ⟨_,V,V,EI V,H⟩)
   ·rintro x e σ (⟨a7,w8,rfl,rfl,he,H⟩ | ⟨a8,rfl,rfl,he,H⟩)
    ·replace h:=jgo h;obtain ⟨e,rfl⟩:=he.ex;obtain ⟨rfl,rfl⟩:=Prod.mk.inj (Option.some.inj h);exact ⟨⟨V,(iff_of_true V V)⟩,_,⟨w8,V⟩,H⟩
    ·replace h:=jret h;obtain ⟨e,rfl⟩:=he.ex;obtain ⟨rfl,rfl⟩:=Prod.mk.inj (Option.some.inj h);exact ⟨⟨V,(iff_of_false nofun nofun)⟩,_,⟨w3,V⟩,H⟩
  ·intro x σ M hx hM H;obtain ⟨w9,rfl⟩:=hM;cases hc0_:(y2.2 == 0)
   ·replace h:=cond_F hc0_ h;have hx:x = .ret:=by simpa [ne_of_beq_false hc0_,Z6v] using hx.symm
    subst hx;obtain rfl:=sj h;exact (EndsH.H (xs:=[.nils,(vi y2.1.2)]) (.inr V) H (.cell (v:=.nils) 6 V V V V V (.cell (v:=(vi y2.1.2)) 5 V V V V V .nil)) (.two (.cons (.c .n) (.cons (.c (.v _)) .nil))) 7 V)
   ·replace h:=cond_T hc0_ h;have hx:x = .normal:=by rw [eq_of_beq hc0_] at hx;exact (Option.some.inj hx).symm
    subst hx;refine .tR 3 V H fun b14 σ H => (.lV H 4 V (.Z39 (v:=w9) (ys:=[w9]) (cells':=[w9]) H 6 V V V V (H.slCells (k:=0) V) V V V V nofun fun σ H => (.sV [(vi 0)] H 5 V fun σ H => (.na H fun H => (.ret ?_)))));obtain rfl:=sj h;exact (EndsH.H (xs:=[w9,(vi 0)]) (.inr V) H (.cell (v:=w9) 6 V V V V V (.cell (v:=(vi 0)) 5 V V V V V .nil)) (.two (.cons (.c (.s 0 V)) (.cons (.c (.v _)) .nil))) 7 V)
theorem Z4p {f:Form} {i:Int} {r:(List Span) × Int} (h:Z0k f i = some r):Fn CX 40 [(.agg (vs (Form.cs f))),(vi i)] (.tup [(vl Span.cs r.1),(vi r.2)]):=by
 refine Fn.go Try.func40 V fun σ H => ?_;unfold Z0k at h;refine .tR 3 V H fun b1 σ H => (.bxc (cs:=(vF f)) H V V V fun σ H => (.a1 .nils V V (.aV V (.na H fun H => (.then (.tR 3 V H fun b2 σ H => (.fV H 0 V (.lV H 0 V ?_))))))));refine .iV V (.na H fun H => ?_);refine .wh h V ?_ ?_ <;> intro h
 ·refine .tR 2 V H fun b3 σ H => (.a1 .nils V V (.aV V (.na H fun H => (.ret ?_))));obtain rfl:=sj h;exact (Ends.H (xs:=[.nils,(vi 0)]) (.inr V) H (.tmp (v:=.nils) V (.tmp (v:=(vi 0)) V .nil)) (.two (.cons (.c .n) (.cons (.c (.v _)) .nil))))
 refine .skip (.tR 11 V H fun b4 σ H => (.mV V (.fV H 0 V (.lV H 0 V ?_))));obtain ⟨x1,q1,h⟩:=bs h;refine .cV (Z23 q1) V (.m1 (.tup [(vi x1.1),(vi x1.2.1),(vi x1.2.2)]) V V (.xV V (.xV V (.xV V (.aV V (.aV V (.aV V (.na H fun H => ?_))))))));refine .tR 9 V H fun b5 σ H => (.mV V (.fV H 0 V (.lV H 0 V (.cV (Z3s V) V (.m1 (.tup [(vi (Z7 x1.1 f.Period).1),(vi (Z7 x1.1 f.Period).2)]) V V (.xV V (.xV V (.aV V ?_))))))));refine .aV V (.na H fun H => (.then (.tR 7 V H fun b6 σ H => (.fV H 0 V (.lV H 0 V (.mV V ?_))))));obtain ⟨x2,q2,h⟩:=bs h;refine .jV q2 V (.pV V (.nV V (.iV V (.na H fun H => ?_))));refine .wh h V ?_ ?_ <;> intro h
 ·refine .tR 2 V H fun b7 σ H => (.a1 .nils V V (.aV V (.na H fun H => (.ret ?_))));obtain rfl:=sj h;exact (Ends.H (xs:=[.nils,(vi 0)]) (.inr V) H (.tmp (v:=.nils) V (.tmp (v:=(vi 0)) V .nil)) (.two (.cons (.c .n) (.cons (.c (.v _)) .nil))))
 refine .skip (.then (.tR 6 V H fun b8 σ H => (.mV V (.iV V (.mV V ?_)))));refine .md H 3 [(41,(vb ((x1.2.2 != 0) || (((Z7 x1.1 f.Period).2) != 0)))),(2,(.ptr (b1 + 0) 4 0)),(7,(vi x1.2.1)),(9,(vi (Z7 x1.1 f.Period).1))] [.blk (b1 + 0) 25 (vF f)] rfl ?_ fun e σ H => ?_
 ·refine .split V V ?_ ?_ <;> intro hc3
  ·refine .ps 2 V (.kT V (.nil ?_));exact ⟨⟨or_T hc3,V,V,V,U⟩,H.wk (by omega)⟩
  ·refine .mV V (.iV V (.kF V (.nil ?_)));exact ⟨⟨or_F hc3,V,V,V,U⟩,H.wk (by omega)⟩
 refine .na H fun H => ?_;refine .wh h V ?_ ?_ <;> intro h
 ·refine .tR 2 V H fun b9 σ H => (.a1 .nils V V (.aV V (.na H fun H => (.ret ?_))));obtain rfl:=sj h;exact (Ends.H (xs:=[.nils,(vi 20)]) (.inr V) H (.tmp (v:=.nils) V (.tmp (v:=(vi 20)) V .nil)) (.two (.cons (.c .n) (.cons (.c (.v _)) .nil))))
 refine .skip (.tR 11 V H fun b10 σ H => (.fV H 0 V (.lV H 0 V (.mV V ?_))));obtain ⟨x3,q3,h⟩:=bs h;refine .jV q3 V (.pV V (.mV V ?_));obtain ⟨x4,q4,h⟩:=bs h;refine .cV (Z92 q4) V (.xV V (.xV V (.aV V (.aV V (.na H fun H => (.ret ?_))))));obtain rfl:=sj h;exact Ends.eR V
end Go.Dn

namespace Go.Dn
open Go Go.Proofs
set_option maxRecDepth 100000
set_option maxHeartbeats 4000000
theorem ZAL {i:Int} {p1':Form} {id0':Nat} {r:(List Span) × Int} (h:Z0R i p1' = some r):FnH CX 62 [(vi i),(.ptr id0' 4 0)] (.tup [(vl Span.cs r.1),(vi r.2)]) [.blk id0' 25 (vF p1')]:=by
 refine FnH.of Try.func62 V V V V V V (fun h => by have:=Z4s h 1 V;cases this) ?_;intro σ L hC H;have hC0:=hC;obtain ⟨k0',hk0',hC⟩:=hC.inv;unfold Z0R at h;refine .tR 2 V H fun b1 σ H => (.a1 .nils V V (.aV V (.na H fun H => (.tR 7 V H fun b2 σ H => (.Z2N (cs:=(vF p1')) H k0' hk0' V V V V V V nofun V (.mV V ?_))))));obtain ⟨x1,q1,h⟩:=bs h;refine .cV (Z4p q1) V (.xV V (.xV V (.aV V (.aV V (.na H fun H => (.ret ?_))))));obtain rfl:=sj h;exact (EndsH.H (xs:=[(vl Span.cs x1.1),(vi x1.2)]) (.inr V) H (.tmp (v:=(vl Span.cs x1.1)) V (.tmp (v:=(vi x1.2)) V .nil)) (.two (.cons (.c (.v _)) (.cons (.c (.v _)) .nil))) 0 V)
theorem ZBu {f:Form} {m:Int} {r:Form × Int} (h:Ze f m = some r):FnO CX 31 [(.agg (vs (Form.cs f))),(vi m)] (fun q A => ∃ (w7:PV),q = (.tup [(.agg [(vi r.1.Period),(vi r.1.Count),w7,.nils]),(vi r.2)])∧A = [.sl w7 37 1 (r.1.Core.map (cL Span.cs)) true]):=by
 refine FnO.of Try.func31 V V V V V V ?_;intro σ T H;unfold Ze at h;refine .tR 3 V H fun b1 σ H => (.bxc (cs:=(vF f)) H V V V fun σ H => (.alc (cs:=[(vi 0),(vi 0),.nils,.nils]) H V V fun σ H => (.aV V (.na H fun H => (.tR 8 V H fun b2 σ H => (.LV (vF f) H 1 V (.mV V ?_)))))));obtain ⟨x1,q1,h⟩:=bs h;refine .cV (ZB6 q1) V (.m1 (.tup [(vi x1.1),(vi x1.2)]) V V (.xV V (.xV V (.aV V (.aV V (.na H fun H => (.then (.tR 2 V H fun b3 σ H => ?_))))))));refine .mV V (.iV V (.na H fun H => ?_));refine .wh h V ?_ ?_ <;> intro h
 ·refine .tR 3 V H fun b4 σ H => (.bV [(vi 0),(vi 0),.nils,.nils] V (.sV [(vi 0),(vi 0),.nils,.nils] H 0 V fun σ H => (.aV V (.na H fun H => (.ret ?_)))));replace H:=H.pushNil 37 1 true;obtain rfl:=sj h;exact ⟨.inr V,_,Z4J H (.agg (cs:=[(vi 0),(vi 0),.nils,.nils]) 1 V V V V V V V (.tmp (v:=(vi 0)) V .nil)),_,⟨.nils,V,V⟩,((H.erase 2).erase 1)⟩
 refine .skip (.tR 1 V H fun b5 σ H => (.aV V (.na H fun H => (.then (.tR 4 V H fun b6 σ H => (.fV H 1 V (.lV H 1 V (.nV V ?_))))))));refine .mV V (.na H fun H => (.inBlock ?_));refine .lp h (fun s1 => [(1,(vi m)),(2,(.ptr (b1 + 0) 4 0)),(4,(.ptr (b1 + 1) 4 0)),(6,(vi x1.1)),(7,(vi x1.2)),(8,(vi s1.1)),(27,(vl (cL Span.cs) f.Core)),(28,(vi (f.Core.length:Int))),(29,(vi s1.2))]) (fun s1 => (.blk (b1 + 1) 25 [(vi 0),(vi 0),.nils,.nils] :: .blk (b1 + 0) 25 (vF f) :: T)) (.exit 0) (fun y1 => [(1,(vi m)),(2,(.ptr (b1 + 0) 4 0)),(4,(.ptr (b1 + 1) 4 0)),(6,(vi x1.1)),(7,(vi x1.2)),(8,(vi y1))]) (fun y1 => (.blk (b1 + 1) 25 [(vi 0),(vi 0),.nils,.nils] :: .blk (b1 + 0) 25 (vF f) :: T)) (EI V) H (fun s1 e σ H z h => ?_) fun y1 e σ H h => ?_
 ·unfold Ze.s0 at h;refine .tR 1 V H fun b7 σ H => (.iV V (.na H fun H => (.then ?_)));refine .wh h V ?_ ?_ <;> intro h
  ·refine .skip (.then (.inBlock (.tR 3 V H fun b8 σ H => ?_)));obtain ⟨x2,q2,h⟩:=bs h;refine .jV q2 V (.pV V (.aV V (.na H fun H => (.ZJ 5 V H fun b9 σ H => (.mV V (.mV V (.nV V (.iV V ?_))))))));refine .aV V (.na H fun H => (.ZJ 2 V H fun b10 σ H => (.iV V (.mV V (.na H fun H => ?_)))));obtain rfl:=sj h;exact ⟨V,EI V,H⟩
  refine .exit ?_;obtain rfl:=sj h;exact ⟨nofun,⟨V,EI V,H⟩⟩
 refine .then (.tR 7 V H fun b11 σ H => (.mV V (.mV V (.fV H 1 V (.lV H 1 V ?_)))));obtain ⟨u1,q3,h⟩:=bs h;refine .quo (m:=x1.2) (m':=f.Count) V V (Z6D q3) V (.iV V (.iV V (.na H fun H => ?_)));refine .wh h V ?_ ?_ <;> intro h
 ·refine .tR 3 V H fun b12 σ H => (.bV [(vi 0),(vi 0),.nils,.nils] V (.sV [(vi 0),(vi 0),.nils,.nils] H 0 V fun σ H => (.aV V (.na H fun H => (.ret ?_)))));replace H:=H.pushNil 37 1 true;obtain rfl:=sj h;exact ⟨.inr V,_,Z4J H (.agg (cs:=[(vi 0),(vi 0),.nils,.nils]) 1 V V V V V V V (.tmp (v:=(vi 3)) V .nil)),_,⟨.nils,V,V⟩,((H.erase 2).erase 1)⟩
 refine .skip (.tR 4 V H fun b13 σ H => (.mV V (.bV [(vi 0),(vi x1.1),.nils,.nils] V (.alc (cs:=[(vi 0),(vi 0),.nils,.nils]) H V V fun σ H => (.sV [(vi 0),(vi x1.1),.nils,.nils] H 0 V fun σ H => (.na H fun H => (.then (.Z0P 12 V (by kernel_rfl) H fun b14 σ H B14 => ?_))))))));refine .ZN H 2 V V V V V (so (B14 2 _ V _ V)) V (.ld (vi f.Period) H 2 V V V V V (so (B14 2 _ V _ V)) V (.mV V (.ZN H 2 V V V V V (so (B14 2 _ V _ V)) V (.ld (vi f.Count) H 2 V V V V V (so (B14 2 _ V _ V)) V ?_))));obtain ⟨u2,q4,h⟩:=bs h;refine .quo (m:=x1.2) (m':=f.Count) V V (Z6D q4) V (.cV (Z3s V) V (.m1 (.tup [(vi (Z7 f.Period (w64 (x1.2.tdiv f.Count))).1),(vi (Z7 f.Period (w64 (x1.2.tdiv f.Count))).2)]) V V (.xV V (.xV V (.aV V (.aV V (.na H fun H => (.then ?_))))))));refine .tR 6 V H fun b15 σ H => (.mV V (.iV V (.mV V ?_)));refine .md H 3 [(63,(vb ((((Z7 f.Period (w64 (x1.2.tdiv f.Count))).2) != 0) || (decide (((Z7 f.Period (w64 (x1.2.tdiv f.Count))).1) > 1099511627776))))),(1,(vi m)),(2,(.ptr (b1 + 0) 4 0)),(4,(.ptr (b1 + 1) 4 0)),(6,(vi x1.1)),(11,(.ptr (b13 + 2) 4 0)),(12,(vi (Z7 f.Period (w64 (x1.2.tdiv f.Count))).1))] (.blk (b13 + 2) 25 [(vi 0),(vi x1.1),.nils,.nils] :: .blk (b1 + 1) 25 [(vi 0),(vi 0),.nils,.nils] :: .blk (b1 + 0) 25 (vF f) :: T) rfl ?_ fun e σ H => ?_
 ·refine .split V V ?_ ?_ <;> intro hc4
  ·refine .ps 2 V (.kT V (.nil ?_));exact ⟨⟨or_T hc4,V,V,V,V,V,V,U⟩,H.wk (by omega)⟩
  ·refine .mV V (.iV V (.kF V (.nil ?_)));exact ⟨⟨or_F hc4,V,V,V,V,V,V,U⟩,H.wk (by omega)⟩
 refine .na H fun H => ?_;refine .wh h V ?_ ?_ <;> intro h
 ·refine .tR 3 V H fun b16 σ H => (.bV [(vi 0),(vi 0),.nils,.nils] V (.sV [(vi 0),(vi 0),.nils,.nils] H 1 V fun σ H => (.aV V (.na H fun H => (.ret ?_)))));replace H:=H.pushNil 37 1 true;obtain rfl:=sj h;exact ⟨.inr V,_,Z4J H (.agg (cs:=[(vi 0),(vi 0),.nils,.nils]) 2 V V V V V V V (.tmp (v:=(vi 20)) V .nil)),_,⟨.nils,V,V⟩,(((H.erase 3).erase 2).erase 1)⟩
 refine .skip (.tR 3 V H fun b17 σ H => (.mV V (.fV H 0 V (.sV [(vi (Z7 f.Period (w64 (x1.2.tdiv f.Count))).1),(vi x1.1),.nils,.nils] H 0 V fun σ H => (.na H fun H => (.then (.tR 2 V H fun b18 σ H => (.mV V ?_))))))));refine .mV V (.na H fun H => (.inBlock ?_));replace H:=H.pushNil 37 1 true;obtain ⟨y2,hj2,h⟩:=bs h;obtain ⟨n2,hj2⟩:=ZR.1 hj2;refine .mono (Runs.loopO hj2 (fun s3 e σ => ∃ (w3:PV),ZE e [(1,(vi m)),(2,(.ptr (b1 + 0) 4 0)),(4,(.ptr (b1 + 1) 4 0)),(11,(.ptr (b13 + 2) 4 0)),(67,(vi x1.1)),(68,(vi s3.1))]∧Hs σ (.sl w3 37 1 (s3.2.map (cL Span.cs)) true :: .blk (b13 + 2) 25 [(vi (Z7 f.Period (w64 (x1.2.tdiv f.Count))).1),(vi x1.1),w3,.nils] :: .blk (b1 + 1) 25 [(vi 0),(vi 0),.nils,.nils] :: .blk (b1 + 0) 25 (vF f) :: T)) (fun y2 x e σ => (∃ a1,∃ (w4:PV),y2 = (.go a1)∧x = .exit 2∧ZE e [(4,(.ptr (b1 + 1) 4 0)),(11,(.ptr (b13 + 2) 4 0))]∧Hs σ (.sl w4 37 1 (a1.1.map (cL Span.cs)) true :: .blk (b13 + 2) 25 [(vi a1.2),(vi x1.1),w4,.nils] :: .blk (b1 + 1) 25 [(vi 0),(vi 0),.nils,.nils] :: T))∨(∃ a2,y2 = (.ret a2)∧x = .ret∧ZE e [(4,(.ptr (b1 + 1) 4 0)),(5,(vi a2))]∧Hs σ (.blk (b1 + 1) 25 [(vi 0),(vi 0),.nils,.nils] :: T))) ⟨.nils,EI V,H⟩ ?_) ?_
 ·intro s3 e σ hI z h;obtain ⟨w3,he,H⟩:=hI;obtain ⟨e,rfl⟩:=he.ex;unfold Ze.s1 at h;refine .tR 1 V H fun b19 σ H => (.iV V (.na H fun H => (.then ?_)));refine .wh h V ?_ ?_ <;> intro h
  ·refine .skip (.then (.inBlock (.tR 2 V H fun b20 σ H => (.mV V (.aV V (.na H fun H => (.tR 11 V H fun b21 σ H => (.Z7M (fs:=[]) (cs:=[(.ptr (b1 + 0) 4 0)]) V V V V ?_))))))));refine .mV V (.mV V (.iV V (.mV V ?_)));obtain ⟨x3,q5,h⟩:=bs h;refine .callH (ys:=[(.clo 62 [] [(.ptr (b1 + 0) 4 0)]),(vi (w64 (s3.1 * m))),(vi m)]) (r:=(.tup [(vl Span.cs x3.1),(vi x3.2)])) H V (Z5n (C:=[.blk (b1 + 0) 25 (vF f)]) V (fun h => by simp [PV.pure] at h) (fun z0 y hz => (CloH.clo (ZAL hz))) q5) (.cons 3 V .nil) nofun V fun σ H => (.m1 (.tup [(vl Span.cs x3.1),(vi x3.2)]) V V (.xV V (.xV V (.aV V (.aV V (.na H fun H => (.then (.tR 2 V H fun b22 σ H => ?_))))))));refine .mV V (.iV V (.na H fun H => ?_));refine .wh h V ?_ ?_ <;> intro h
   ·refine .tR 4 V H fun b23 σ H => (.bV [(vi 0),(vi 0),.nils,.nils] V (.mV V (.sV [(vi 0),(vi 0),.nils,.nils] H 2 V fun σ H => (.aV V (.na H fun H => (.ret ?_))))));obtain rfl:=sj h;exact ⟨nofun,(.inr ⟨_,V,V,EI V,(((H.erase 3).erase 1).erase 0)⟩)⟩
   refine .skip (.ZJ 7 V H fun b24 σ H => (.fV H 1 V (.lV H 1 V (.mV V (.Z3o (sz:=1) ([x3.1].map (cL Span.cs)) H (by omega) (by omega) V V V V V V V V V fun σ H => ?_)))));obtain ⟨x4,q6,h⟩:=bs h;refine .Z3Z (c:=(cL Span.cs)) (v:=w3) (w:=(.buf (b24 + 3) 1 1)) (xs:=s3.2) (ys:=[x3.1]) H (by omega) (by omega) 1 V V V (.s 0 V) q6 V V V V V nofun V fun w5 σ H => (.fV H 2 V (.Z39 (v:=w5) (ys:=[w5]) (cells':=[(vi (Z7 f.Period (w64 (x1.2.tdiv f.Count))).1),(vi x1.1),w5,.nils]) H 2 V V V V (H.slCells (k:=1) V) V V V V nofun fun σ H => (.na H fun H => (.ZJ 2 V H fun b25 σ H => (.iV V (.mV V (.na H fun H => ?_)))))));obtain rfl:=sj h;exact ⟨V,w5,EI V,(H.erase 0)⟩
  refine .exit ?_;obtain rfl:=sj h;exact ⟨nofun,(.inl ⟨_,w3,V,V,EI V,(H.erase 3)⟩)⟩
 ·rintro x e σ (⟨a3,w6,rfl,rfl,he,H⟩ | ⟨a4,rfl,rfl,he,H⟩)
  ·replace h:=jgo h;obtain ⟨e,rfl⟩:=he.ex;refine .tR 3 V H fun b26 σ H => (.LV [(vi a3.2),(vi x1.1),w6,.nils] H 1 V (.sV [(vi a3.2),(vi x1.1),w6,.nils] H 2 V fun σ H => (.aV V (.na H fun H => (.ret ?_)))));obtain rfl:=sj h;exact ⟨.inr V,_,Z4J H (.agg (cs:=[(vi a3.2),(vi x1.1),w6,.nils]) 2 V V V V V V V (.tmp (v:=(vi 0)) V .nil)),_,⟨w6,V,V⟩,((H.erase 2).erase 1)⟩
  ·replace h:=jret h;obtain ⟨e,rfl⟩:=he.ex;replace H:=H.pushNil 37 1 true;obtain rfl:=sj h;exact ⟨.inr V,_,Z4J H (.agg (cs:=[(vi 0),(vi 0),.nils,.nils]) 1 V V V V V V V (.tmp (v:=(vi a4)) V .nil)),_,⟨.nils,V,V⟩,(H.erase 1)⟩
theorem ZAB {i:Int} {p1':Form} {id0':Nat} {r:(List Span) × Int} (h:Z0T i p1' = some r):FnH CX 34 [(vi i),(.ptr id0' 4 0)] (.tup [(vl Span.cs r.1),(vi r.2)]) [.blk id0' 25 (vF p1')]:=by
 refine FnH.of Try.func34 V V V V V V (fun h => by have:=Z4s h 1 V;cases this) ?_;intro σ L hC H;have hC0:=hC;obtain ⟨k0',hk0',hC⟩:=hC.inv;unfold Z0T at h;refine .tR 2 V H fun b1 σ H => (.a1 .nils V V (.aV V (.na H fun H => (.tR 7 V H fun b2 σ H => (.Z2N (cs:=(vF p1')) H k0' hk0' V V V V V V nofun V (.mV V ?_))))));obtain ⟨x1,q1,h⟩:=bs h;refine .cV (Z2U q1) V (.xV V (.xV V (.aV V (.aV V (.na H fun H => (.ret ?_))))));obtain rfl:=sj h;exact (EndsH.H (xs:=[(vl Span.cs x1.1),(vi x1.2)]) (.inr V) H (.tmp (v:=(vl Span.cs x1.1)) V (.tmp (v:=(vi x1.2)) V .nil)) (.two (.cons (.c (.v _)) (.cons (.c (.v _)) .nil))) 0 V)
theorem ZBv {l:(List Span)} {r:Bool} (h:Z5L l = r):Fn CX 89 [(vl Span.cs l)] (vb r):=by
 refine Fn.go Try.func89 V fun σ H => ?_;unfold Z5L at h;refine .tR 1 V H fun b1 σ H => (.aV V (.na H fun H => (.tR 4 V H fun b2 σ H => (.mV V (.nV V (.iV V (.aV V (.na H fun H => ?_))))))));refine .ret ?_;subst h;exact Ends.eR V
theorem canon_bare_fn {f:Form} {r:Bool} (h:Z3l f = some r):Fn CX 64 [(.agg (vs (Form.cs f)))] (vb r):=by
 refine Fn.go Try.func64 V fun σ H => ?_;unfold Z3l at h;refine .tR 2 V H fun b1 σ H => (.bxc (cs:=(vF f)) H V V V fun σ H => (.aV V (.na H fun H => (.tR 5 V H fun b2 σ H => (.fV H 0 V (.lV H 0 V ?_))))));obtain ⟨x1,q1,h⟩:=bs h;refine .callH (ys:=[(vl (cL Span.cs) f.Core),(.v (.fn 89))]) (r:=(vb x1)) H V (Z1g (C:=[]) V (fun _ => V) (fun z0 y hz => (CloH.fn (Fn.toH (ZBv (Option.some.inj hz)) _))) q1) .nil nofun V fun σ H => (.tV V (.aV V (.na H fun H => (.ret ?_))));obtain rfl:=sj h;exact Ends.eR V
theorem ZAM {n:Int} {σ:Heap} {lo hi:Nat} {L:List Res} (H:Has σ lo hi L):∃ r σ',Z0M CX (.fn 65) [(vi n)] σ = some (r,σ')∧∃ i0':Nat,r = (.clo 90 [] [(.ptr i0' 1 0)])∧Hs σ' (.blk i0' 3 [(vi n)] :: L):=by
 refine callO_of (Post:=fun r σ' => ∃ i0':Nat,r = (.clo 90 [] [(.ptr i0' 1 0)])∧Hs σ' (.blk i0' 3 [(vi n)] :: L)) Try.func65 V V V V V V ?_;replace H:=H.all;refine .tR 2 V H fun b1 σ H => (.bxc (cs:=[(vi n)]) H V V V fun σ H => (.aV V (.na H fun H => (.tR 2 V H fun b2 σ H => (.Z7M (fs:=[]) (cs:=[(.ptr (b1 + 0) 1 0)]) V V V V (.a1 (.clo 90 [] [(.ptr (b1 + 0) 1 0)]) V V (.na H fun H => (.ret ?_))))))));exact ⟨.inr V,[(.clo 90 [] [(.ptr (b1 + 0) 1 0)])],Z4J H (.tmp (v:=(.clo 90 [] [(.ptr (b1 + 0) 1 0)])) V .nil),(b1 + 0),V,H.all⟩
theorem Z8f {S:Type} {p1':Int} {C:S→List Res→Prop} {yield:S→Int→Option (S × Bool)} {yid:Nat} {id0':Nat} (hy:YldH CX yid C (fun z => [(vi z)]) yield) (hcap:∀ s L,C s L→Sub [.blk id0' 3 [(vi p1')]] L) {st' r:S} (h:Zr p1' yield st' = some r):ItF CX 90 [(.yld yid),(.ptr id0' 1 0)] C st' r:=by
 refine ItF.of Try.func90 V V V V V V V V ?_;intro σ L hC H;have hc0:=hcap _ _ hC;obtain ⟨k0',hk0',hc0⟩:=hc0.inv;unfold Zr at h;refine .tR 1 V H fun b1 σ H => (.aV V (.na H fun H => (.inBlock ?_)));obtain ⟨y1,hj1,h⟩:=bs h;obtain ⟨n1,hj1⟩:=ZR.1 hj1;refine .mono (Runs.loopO hj1 (fun s1 e σ => ∃ (L:List Res),C s1.2 L∧ZE e [(0,(.yld yid)),(1,(.ptr id0' 1 0)),(3,(vi s1.1))]∧Hs σ (L)) (fun y1 x e σ => (∃ a1,∃ (L:List Res),C a1 L∧y1 = (.go a1)∧x = .exit 0∧ZE e []∧Hs σ (L))∨(∃ r',y1 = (.ret r')∧x = .ret∧EndsI C r' x e σ)) ⟨_,hC,EI V,H⟩ ?_) ?_
 ·intro s1 e σ hI z h;obtain ⟨L,hC,he,H⟩:=hI;obtain ⟨e,rfl⟩:=he.ex;have hc0:=hcap _ _ hC;obtain ⟨k0',hk0',hc0⟩:=hc0.inv;unfold Zr.s0 at h;refine .then (.tR 3 V H fun b2 σ H => (.mV V (.ld (vi p1') H k0' hk0' V V V V nofun V (.iV V (.na H fun H => ?_)))));refine .wh h V ?_ ?_ <;> intro h
  ·refine .skip (.then (.inBlock (.tR 10 V H fun b3 σ H => (.ld (vi p1') H k0' hk0' V V V V nofun V (.mV V ?_)))));obtain ⟨u1,q1,h⟩:=bs h;refine .rem (m:=p1') (m':=s1.1) V V (Z6D q1) V (.iV V (.mV V ?_));obtain ⟨y2,hj2,h⟩:=bs h;refine .mid 5 (K1:=fun e σ => ∃ L,C y2.2 L∧ZE e [(18,(vb y2.1)),(0,(.yld yid)),(1,(.ptr id0' 1 0)),(3,(vi s1.1))]∧Hs σ (L)) V ?_ ?_
   ·refine .sp hj2 V ?_ ?_ <;> intro h
    ·refine .m1 (.yld yid) V V (.mV V (.wt V V ?_));obtain ⟨x1,q2,h⟩:=bs h;refine .callY (z:=s1.1) (s':=x1.1) (b:=x1.2) [] H hC V V hy q2 V V fun σ L hC H => ?_;have hc0:=hcap _ _ hC;obtain ⟨k0',hk0',hc0⟩:=hc0.inv;refine .tV V (.kT V (.nil ?_));obtain rfl:=sj h;exact ⟨_,hC,EI V,H.all⟩
    refine .ps 4 V (.kF V (.nil ?_));obtain rfl:=sj h;exact ⟨_,hC,EI V,H.all⟩
   ·rintro e σ ⟨L,hC,he,H⟩;obtain ⟨e,rfl⟩:=he.ex;have hc0:=hcap _ _ hC;obtain ⟨k0',hk0',hc0⟩:=hc0.inv;refine .na H fun H => ?_;refine .wh h V ?_ ?_ <;> intro h
    ·refine .ret ?_;obtain rfl:=sj h;exact ⟨nofun,(.inr ⟨_,V,V,(EndsI.H (.inr V) H 0 V hC)⟩)⟩
    refine .skip (.ZJ 3 V H fun b4 σ H => (.mV V (.iV V (.aV V (.na H fun H => ?_)))));obtain rfl:=sj h;exact ⟨V,_,hC,EI V,H⟩
  refine .exit ?_;obtain rfl:=sj h;exact ⟨nofun,(.inl ⟨_,_,hC,V,V,U,H⟩)⟩
 ·rintro x e σ (⟨a2,L,hC,rfl,rfl,he,H⟩ | ⟨r',rfl,rfl,hE⟩)
  ·replace h:=jgo h;obtain ⟨e,rfl⟩:=he.ex;have hc0:=hcap _ _ hC;obtain ⟨k0',hk0',hc0⟩:=hc0.inv;obtain rfl:=sj h;exact (EndsI.H (.inl V) H 0 V hC)
  ·replace h:=jret h;obtain rfl:=sj h;exact hE
theorem Z2o {s1':(List Span)} {s2':(List Span)} {eq:Span→Span→Option Bool} {C:List Res} {cv0:PV} (hs0:cv0.one = true) (hp0:cv0.pure = true→C = []) (hf0:∀ z0 z1 y,eq z0 z1 = some y→CloH CX cv0 [(.agg (vs (Span.cs z0))),(.agg (vs (Span.cs z1)))] (vb y) C) {r:Bool} (h:ZA s1' s2' eq = some r):FnH CX 101 [(vl Span.cs s1'),(vl Span.cs s2'),cv0] (vb r) C:=by
 refine FnH.of Try.func101 V V V V (Z5J V (Z5J V (Z5J (Z5Y hs0) all_nil))) V (fun h => hp0 (Z4s h 2 V)) ?_;intro σ L hC H;unfold ZA at h;refine .tR 1 V H fun b1 σ H => (.aV V (.na H fun H => (.then (.tR 5 V H fun b2 σ H => (.mV V (.nV V (.mV V (.nV V ?_))))))));refine .iV V (.na H fun H => ?_);refine .wh h V ?_ ?_ <;> intro h
 ·refine .tR 1 V H fun b3 σ H => (.aV V (.na H fun H => (.ret ?_)));obtain rfl:=sj h;exact (EndsH.H (xs:=[(vb false)]) (.inr V) H (.tmp (v:=(vb false)) V .nil) (.one (.c (.v _))) 0 V)
 refine .skip (.then (.tR 3 V H fun b4 σ H => (.mV V (.nV V (.mV V (.na H fun H => (.inBlock ?_)))))));obtain ⟨y1,hj1,h⟩:=bs h;obtain ⟨n1,hj1⟩:=ZR.1 hj1;refine .mono (Runs.loopO hj1 (fun s1 e σ => ZE e [(1,(vl Span.cs s2')),(2,cv0),(15,(vl Span.cs s1')),(16,(vi (s1'.length:Int))),(17,(vi s1))]∧Hs σ (L)) (fun y1 x e σ => (∃ a1,y1 = (.go a1)∧x = .exit 0∧ZE e []∧Hs σ (L))∨(∃ r',y1 = (.ret r')∧x = .ret∧EndsH CX Try.f101.results.toList (vb r') L x e σ)) ⟨EI V,H⟩ ?_) ?_
 ·intro s1 e σ hI z h;obtain ⟨he,H⟩:=hI;obtain ⟨e,rfl⟩:=he.ex;unfold ZA.s0 at h;refine .tR 1 V H fun b5 σ H => (.iV V (.na H fun H => (.then ?_)));refine .wh h V ?_ ?_ <;> intro h
  ·refine .skip (.then (.inBlock (.tR 6 V H fun b6 σ H => (.mV V ?_))));obtain ⟨x1,q1,h⟩:=bs h;refine .jV q1 V (.qV [(.int .i64 x1.From),(.int .i64 x1.To)] V (.alc (cs:=[(vi 0),(vi 0)]) H V V fun σ H => (.aV V (.sV [(vi x1.From),(vi x1.To)] H 0 V fun σ H => (.na H fun H => (.tR 6 V H fun b7 σ H => (.mV V (.mV V ?_))))))));obtain ⟨x2,q2,h⟩:=bs h;refine .jV q2 V (.qV [(.int .i64 x2.From),(.int .i64 x2.To)] V (.alc (cs:=[(vi 0),(vi 0)]) H V V fun σ H => (.sV [(vi x2.From),(vi x2.To)] H 0 V fun σ H => (.na H fun H => (.tR 5 V H fun b8 σ H => (.m1 cv0 V V (.LV [(vi x1.From),(vi x1.To)] H 1 V (.LV [(vi x2.From),(vi x2.To)] H 0 V ?_))))))));obtain ⟨x3,q3,h⟩:=bs h;refine .callV (cv:=cv0) (ys:=[(.agg (vs (Span.cs x1))),(.agg (vs (Span.cs x2)))]) (r:=(vb x3)) H V V (hf0 x1 x2 _ q3) hC.push.push nofun V fun σ H => (.tV V (.na H fun H => ?_));refine .wh h V ?_ ?_ <;> intro h
   ·refine .tR 1 V H fun b9 σ H => (.aV V (.na H fun H => (.ret ?_)));obtain rfl:=sj h;exact ⟨nofun,(.inr ⟨_,V,V,(EndsH.H (xs:=[(vb false)]) (.inr V) H (.tmp (v:=(vb false)) V .nil) (.one (.c (.v _))) 2 V)⟩)⟩
   refine .skip (.ZJ 2 V H fun b10 σ H => (.iV V (.mV V (.na H fun H => ?_))));obtain rfl:=sj h;exact ⟨V,EI V,((H.erase 1).erase 0)⟩
  refine .exit ?_;obtain rfl:=sj h;exact ⟨nofun,(.inl ⟨_,V,V,U,H⟩)⟩
 ·rintro x e σ (⟨a2,rfl,rfl,he,H⟩ | ⟨r',rfl,rfl,hE⟩)
  ·replace h:=jgo h;obtain ⟨e,rfl⟩:=he.ex;refine .tR 1 V H fun b11 σ H => (.aV V (.na H fun H => (.ret ?_)));obtain rfl:=sj h;exact (EndsH.H (xs:=[(vb true)]) (.inr V) H (.tmp (v:=(vb true)) V .nil) (.one (.c (.v _))) 0 V)
  ·replace h:=jret h;obtain rfl:=sj h;exact hE
theorem Z9S {x':Span} {y:Span} {p2':Int} {id0':Nat} {r:Bool} (h:Z1N x' y p2' = r):FnH CX 102 [(.agg (vs (Span.cs x'))),(.agg (vs (Span.cs y))),(.ptr id0' 1 0)] (vb r) [.blk id0' 3 [(vi p2')]]:=by
 refine FnH.of Try.func102 V V V V V V (fun h => by have:=Z4s h 2 V;cases this) ?_;intro σ L hC H;have hC0:=hC;obtain ⟨k0',hk0',hC⟩:=hC.inv;unfold Z1N at h;refine .tR 3 V H fun b1 σ H => (.bxc (cs:=[(vi x'.From),(vi x'.To)]) H V V V fun σ H => (.bxc (cs:=[(vi y.From),(vi y.To)]) H V V V fun σ H => (.aV V (.na H fun H => (.tR 17 V H fun b2 σ H => (.fV H 0 V (.lV H 0 V (.fV H 1 V ?_))))))));refine .lV H 1 V (.iV V (.ld (vi p2') H (k0' + 2) hk0' V V V V nofun V (.iV V (.mV V ?_))));refine .md H 8 [(21,(vb (((w64 (y.From - x'.From)) == p2') && ((w64 (y.To - x'.To)) == p2'))))] (L) V ?_ fun e σ H => ?_
 ·refine .split V V ?_ ?_ <;> intro hc1
  ·refine .fV H 0 V (.lV H 0 V (.fV H 1 V (.lV H 1 V (.iV V (.wt V V (.ld (vi p2') H (k0' + 2) hk0' V V V V nofun V (.iV V (.kT V ?_))))))));refine .nil ?_;exact ⟨⟨Z3C hc1,U⟩,((H.erase 1).erase 0).wk (by omega)⟩
  ·refine .ps 7 V (.kF V (.nil ?_));exact ⟨⟨Z3B hc1,U⟩,((H.erase 1).erase 0).wk (by omega)⟩
 refine .aV V (.na H fun H => (.ret ?_));subst h;exact (EndsH.H (xs:=[(vb (((w64 (y.From - x'.From)) == p2') && ((w64 (y.To - x'.To)) == p2')))]) (.inr V) H (.tmp (v:=(vb (((w64 (y.From - x'.From)) == p2') && ((w64 (y.To - x'.To)) == p2')))) V .nil) (.one (.c (.v _))) 0 V)
theorem ZAc {a:(List Span)} {b:(List Span)} {by':Int} {r:Bool} (h:Z25 a b by' = some r):Fn CX 91 [(vl Span.cs a),(vl Span.cs b),(vi by')] (vb r):=by
 refine Fn.go Try.func91 V fun σ H => ?_;unfold Z25 at h;refine .tR 2 V H fun b1 σ H => (.bxc (cs:=[(vi by')]) H V V V fun σ H => (.aV V (.na H fun H => (.tR 5 V H fun b2 σ H => (.mV V (.mV V (.Z7M (fs:=[]) (cs:=[(.ptr (b1 + 0) 1 0)]) V V V V ?_)))))));obtain ⟨x1,q1,h⟩:=bs h;refine .callH (ys:=[(vl Span.cs a),(vl Span.cs b),(.clo 102 [] [(.ptr (b1 + 0) 1 0)])]) (r:=(vb x1)) H V (Z2o (C:=[.blk (b1 + 0) 3 [(vi by')]]) V (fun h => by simp [PV.pure] at h) (fun z0 z1 y hz => (CloH.clo (Z9S (Option.some.inj hz)))) q1) (.cons 0 V .nil) nofun V fun σ H => (.aV V (.na H fun H => (.ret ?_)));obtain rfl:=sj h;exact Ends.eR V
theorem canon_turn_fn {f:Form} {d:Int} {by':Int} {r:Bool} (h:Z0i f d by' = some r):Fn CX 66 [(.agg (vs (Form.cs f))),(vi d),(vi by')] (vb r):=by
 refine Fn.go Try.func66 V fun σ H => ?_;unfold Z0i at h;refine .tR 2 V H fun b1 σ H => (.bxc (cs:=(vF f)) H V V V fun σ H => (.aV V (.na H fun H => (.then (.tR 4 V H fun b2 σ H => (.fV H 0 V (.lV H 0 V (.nV V ?_))))))));refine .mV V (.na H fun H => (.inBlock ?_));obtain ⟨y1,hj1,h⟩:=bs h;obtain ⟨n1,hj1⟩:=ZR.1 hj1;refine .mono (Runs.loopO hj1 (fun s1 e σ => ZE e [(1,(vi d)),(2,(vi by')),(3,(.ptr (b1 + 0) 4 0)),(12,(vl (cL Span.cs) f.Core)),(13,(vi (f.Core.length:Int))),(14,(vi s1))]∧Hs σ [.blk (b1 + 0) 25 (vF f)]) (fun y1 x e σ => (∃ a1,y1 = (.go a1)∧x = .exit 0∧ZE e []∧Hs σ [])∨(∃ r',y1 = (.ret r')∧x = .ret∧Ends CX Try.f66.results.toList (vb r') x e σ)) ⟨EI V,H⟩ ?_) ?_
 ·intro s1 e σ hI z h;obtain ⟨he,H⟩:=hI;obtain ⟨e,rfl⟩:=he.ex;unfold Z0i.s0 at h;refine .tR 1 V H fun b3 σ H => (.iV V (.na H fun H => (.then ?_)));refine .wh h V ?_ ?_ <;> intro h
  ·refine .skip (.then ?_);obtain ⟨y2,hj2,h⟩:=bs h;refine .mono (Q:=fun x e σ => (∃ a2,y2 = (.go a2)∧x = .normal∧ZE e [(1,(vi d)),(2,(vi by')),(3,(.ptr (b1 + 0) 4 0)),(12,(vl (cL Span.cs) f.Core)),(13,(vi (f.Core.length:Int))),(14,(vi s1))]∧Hs σ [.blk (b1 + 0) 25 (vF f)])∨(∃ r',y2 = (.ret r')∧x = .ret∧Ends CX Try.f66.results.toList (vb r') x e σ)) ?_ ?_
   ·replace h:=hj2;refine .inBlock ?_;obtain ⟨y3,hj3,h⟩:=bs h;refine .mono (Q:=fun x e σ => (∃ a3,y3 = (.go a3)∧x = .normal∧ZE e [(1,(vi d)),(2,(vi by')),(3,(.ptr (b1 + 0) 4 0)),(12,(vl (cL Span.cs) f.Core)),(13,(vi (f.Core.length:Int))),(14,(vi s1))]∧Hs σ [.blk (b1 + 0) 25 (vF f)])∨(∃ r',y3 = (.ret r')∧x = .ret∧Ends CX Try.f66.results.toList (vb r') x e σ)) ?_ ?_
    ·replace h:=hj3;refine .tR 5 V H fun b4 σ H => (.mV V ?_);obtain ⟨x1,q1,h⟩:=bs h;refine .jV q1 V (.pV V (.aV V (.aV V (.na H fun H => (.tR 4 V H fun b5 σ H => (.mV V (.mV V (.iV V ?_))))))));refine .aV V (.na H fun H => (.tR 1 V H fun b6 σ H => (.aV V (.na H fun H => (.then ?_)))));refine .jn h .normal (fun y4 => [(1,(vi d)),(2,(vi by')),(3,(.ptr (b1 + 0) 4 0)),(8,(vl Span.cs x1)),(9,(vi y4.1)),(10,(vi y4.2)),(12,(vl (cL Span.cs) f.Core)),(13,(vi (f.Core.length:Int))),(14,(vi s1))]) (fun y4 => [.blk (b1 + 0) 25 (vF f)]) (fun y4 h => ?_) fun y4 e σ H h => ?_
     ·refine .tR 4 V H fun b7 σ H => (.mV V (.fV H 0 V (.lV H 0 V (.iV V (.na H fun H => ?_)))));refine .wh h V ?_ ?_ <;> intro h
      ·refine .Z0P 8 V (by kernel_rfl) H fun b8 σ H B8 => (.mV V (.ZN H 0 V V V V V (so (B8 0 _ V _ V)) V (.ld (vi f.Count) H 0 V V V V V (so (B8 0 _ V _ V)) V (.iV V (.ZN H 0 V V V V V (so (B8 0 _ V _ V)) V (.ld (vi f.Period) H 0 V V V V V (so (B8 0 _ V _ V)) V (.aV V (.aV V ?_))))))));refine .na H fun H => ?_;obtain rfl:=sj h;exact ⟨V,EI V,H⟩
      refine .skip ?_;obtain rfl:=sj h;exact ⟨V,EI V,H⟩
     refine .tR 11 V H fun b9 σ H => (.mV V (.fV H 0 V (.lV H 0 V (.mV V ?_))));obtain ⟨x2,q2,h⟩:=bs h;refine .jV q2 V (.pV V (.mV V (.mV V (.iV V ?_))));obtain ⟨x3,q3,h⟩:=bs h;refine .cV (ZAc q3) V (.tV V (.na H fun H => ?_));refine .wh h V ?_ ?_ <;> intro h
     ·refine .tR 1 V H fun b10 σ H => (.aV V (.na H fun H => (.ret ?_)));obtain rfl:=sj h;exact (.inr ⟨_,V,V,(Ends.H (xs:=[(vb false)]) (.inr V) H (.tmp (v:=(vb false)) V .nil) (.one (.c (.v _))))⟩)
     refine .skip ?_;obtain rfl:=sj h;exact (.inl ⟨_,V,V,EI V,H⟩)
    ·rintro x e σ (⟨a4,rfl,rfl,he,H⟩ | ⟨r',rfl,rfl,hE⟩)
     ·replace h:=jgo h;obtain ⟨e,rfl⟩:=he.ex;obtain rfl:=sj h;exact (.inl ⟨_,V,V,EI V,H⟩)
     ·replace h:=jret h;obtain rfl:=sj h;exact (.inr ⟨_,V,V,hE⟩)
   ·rintro x e σ (⟨a5,rfl,rfl,he,H⟩ | ⟨r',rfl,rfl,hE⟩)
    ·replace h:=jgo h;obtain ⟨e,rfl⟩:=he.ex;refine .ZJ 2 V H fun b11 σ H => (.iV V (.mV V (.na H fun H => ?_)));obtain rfl:=sj h;exact ⟨V,EI V,H⟩
    ·replace h:=jret h;obtain rfl:=sj h;exact ⟨nofun,(.inr ⟨_,V,V,hE⟩)⟩
  refine .exit ?_;obtain rfl:=sj h;exact ⟨nofun,(.inl ⟨_,V,V,U,(H.erase 0)⟩)⟩
 ·rintro x e σ (⟨a6,rfl,rfl,he,H⟩ | ⟨r',rfl,rfl,hE⟩)
  ·replace h:=jgo h;obtain ⟨e,rfl⟩:=he.ex;refine .tR 1 V H fun b12 σ H => (.aV V (.na H fun H => (.ret ?_)));obtain rfl:=sj h;exact Ends.eR V
  ·replace h:=jret h;obtain rfl:=sj h;exact hE
theorem Z3G {l:List Span} {r:List Span} (h:clone? 16 l = some r):Fn CX 38 [(vl Span.cs l)] (vl Span.cs r):=by
 obtain ⟨h1,rfl⟩:=clone_some h;refine Fn.intr ?_ V V V;rw [cx_intr38];unfold cloneV
 dsimp only
 rw [if_pos ⟨by simp [Span.cs],by simpa using h1⟩]
theorem canon_core_fn {f:Form} {r:Form} (h:Zn f = some r):Fn CX 36 [(.agg (vs (Form.cs f)))] (.agg (vs (Form.cs r))):=by
 refine Fn.go Try.func36 V fun σ H => ?_;unfold Zn at h;refine .tR 2 V H fun b1 σ H => (.bxc (cs:=(vF f)) H V V V fun σ H => (.alc (cs:=[(vi 0),(vi 0),.nils,.nils]) H V V fun σ H => (.na H fun H => (.scope (.tR 3 V H fun b2 σ H => (.bV [(vi 0),(vi 0),.nils,.nils] V (.alc (cs:=[(vi 0),(vi 0),.nils,.nils]) H V V fun σ H => (.sV [(vi 0),(vi 0),.nils,.nils] H 0 V fun σ H => ?_))))))));refine .na H fun H => (.then (.tR 2 V H fun b3 σ H => (.LV (vF f) H 2 V ?_)));obtain ⟨x1,q1,h⟩:=bs h;refine .cV (canon_bare_fn q1) V (.na H fun H => ?_);refine .wh h V ?_ ?_ <;> intro h
 ·refine .tR 2 V H fun b4 σ H => (.LV [(vi 0),(vi 0),.nils,.nils] H 0 V (.sV [(vi 0),(vi 0),.nils,.nils] H 1 V fun σ H => (.na H fun H => (.ret ?_))));obtain rfl:=sj h;exact (Ends.H (xs:=[(.agg [(vi 0),(vi 0),.nils,.nils])]) (.inr V) H (.agg (cs:=[(vi 0),(vi 0),.nils,.nils]) 1 V V V V V V V .nil) (.one (.a (.cons (.v _) (.cons (.v _) (.cons .n (.cons .n .nil)))))))
 refine .skip (.then (.label (.then ?_)));obtain ⟨y1,hj1,h⟩:=bs h;refine .mono (Q:=fun x e σ => ∃ (w1:PV),x = .normal∧ZE e [(2,(.ptr (b1 + 1) 4 0)),(3,(.ptr (b2 + 1) 4 0))]∧Hs σ [.sl w1 37 1 (y1.1.map (cL Span.cs)) true,.blk (b2 + 1) 25 [(vi y1.2.1),(vi y1.2.2),w1,.nils],.blk (b1 + 1) 25 [(vi 0),(vi 0),.nils,.nils]]) ?_ ?_
 ·replace h:=hj1;refine .tR 3 V H fun b5 σ H => (.fV H 2 V (.lV H 2 V ?_));refine .callO (ys:=[(vi f.Count)]) rfl (ZAM H) nofun rfl ?_;rintro _ σ ⟨id1,rfl,H⟩;refine .na H fun H => (.inBlock ?_);replace H:=H.pushNil 37 1 true;obtain ⟨y2,hj2,h⟩:=bs h;refine .rangeH H rfl (fun s2 M => ∃ (w4:PV),M = [.sl w4 37 1 (s2.1.map (cL Span.cs)) true,.blk id1 3 [(vi f.Count)],.blk (b2 + 1) 25 [(vi s2.2.1),(vi s2.2.2),w4,.nils],.blk (b1 + 1) 25 [(vi 0),(vi 0),.nils,.nils],.blk (b1 + 0) 25 (vF f)]) (fun z2 => [(vi z2)]) (Zn.b0 f) (fun p => if p = 0 then none else some (.exit 0)) rfl (fun p => by (repeat' split) <;> exact ⟨_,rfl⟩) (r:=y2) ⟨.nils,rfl⟩ (fun _ => rfl) (fun _ => rfl) ?_ (fun id hy => Z8f hy (fun s L hL => by obtain ⟨M,hM,rfl⟩:=hL;obtain ⟨_,rfl⟩:=hM;exact (.cons 2 rfl .nil)) hj2) ?_
  ·intro R0 R1 s2 z2 s' p h σ M O hM H;obtain ⟨w4,rfl⟩:=hM;unfold Zn.b0 at h;refine .env [(17,(vi z2)),(1,(.ptr (b1 + 0) 4 0)),(2,(.ptr (b1 + 1) 4 0)),(3,(.ptr (b2 + 1) 4 0)),(16,(.clo 90 [] [(.ptr id1 1 0)]))] (EI V) fun e => (.ZJ 1 V H fun b6 σ H => (.aV V (.na H fun H => ?_)));refine ⟨V,[.sl w4 37 1 (s2.1.map (cL Span.cs)) true,.blk id1 3 [(vi f.Count)],.blk (b2 + 1) 25 [(vi s2.2.1),(vi s2.2.2),w4,.nils],.blk (b1 + 1) 25 [(vi 0),(vi 0),.nils,.nils],.blk (b1 + 0) 25 (vF f)],H,?_⟩;intro σ H;refine .inBlock (.then (.Z0P 14 V (by kernel_rfl) H fun b7 σ H B7 => (.ZN H 5 V V V V V (so (B7 5 _ V _ V)) V (.ld (vi f.Period) H 5 V V V V V (so (B7 5 _ V _ V)) V (.ZN H 5 V V V V V (so (B7 5 _ V _ V)) V (.ld (vi f.Count) H 5 V V V V V (so (B7 5 _ V _ V)) V (.mV V ?_)))))));obtain ⟨u1,q2,h⟩:=bs h;refine .quo (m:=f.Count) (m':=z2) V V (Z6D q2) V ?_;obtain ⟨x2,q3,h⟩:=bs h;refine .cV (Z23 q3) V (.m1 (.tup [(vi x2.1),(vi x2.2.1),(vi x2.2.2)]) V V (.xV V (.xV V (.xV V (.aV V (.aV V (.aV V (.na H fun H => ?_))))))));refine .then (.tR 9 V H fun b8 σ H => (.mV V (.iV V (.mV V ?_))));obtain ⟨y3,hj3,h⟩:=bs h;refine .md H 6 [(37,(vb y3)),(1,(.ptr (b1 + 0) 4 0)),(2,(.ptr (b1 + 1) 4 0)),(3,(.ptr (b2 + 1) 4 0)),(4,(vi z2)),(5,(vi x2.1))] (R1 :: .sl w4 37 1 (s2.1.map (cL Span.cs)) true :: .blk id1 3 [(vi f.Count)] :: .blk (b2 + 1) 25 [(vi s2.2.1),(vi s2.2.2),w4,.nils] :: .blk (b1 + 1) 25 [(vi 0),(vi 0),.nils,.nils] :: .blk (b1 + 0) 25 (vF f) :: O) V ?_ fun e σ H => ?_
   ·refine .sp hj3 V ?_ ?_ <;> intro h
    ·refine .ps 5 V (.kT V (.nil ?_));obtain rfl:=sj h;exact ⟨EI V,H.wk (by omega)⟩
    refine .LV (vF f) H 5 V (.mV V (.mV V (.wt V V ?_)));obtain ⟨x3,q4,h⟩:=bs h;refine .cV (canon_turn_fn q4) V (.tV V (.kF V (.nil ?_)));obtain rfl:=sj h;exact ⟨EI V,H.wk (by omega)⟩
   refine .na H fun H => ?_;refine .wh h V ?_ ?_ <;> intro h
   ·refine .exit ?_;obtain ⟨rfl,rfl⟩:=Prod.mk.inj (Option.some.inj h);exact ⟨⟨V,(iff_of_true V V)⟩,_,⟨w4,V⟩,H⟩
   refine .skip (.tR 6 V H fun b9 σ H => (.mV V (.mV V (.fV H 3 V (.sV [(vi x2.1),(vi s2.2.2),w4,.nils] H 3 V fun σ H => (.fV H 3 V (.sV [(vi x2.1),(vi z2),w4,.nils] H 3 V fun σ H => (.na H fun H => ?_))))))));refine .then (.tR 6 V H fun b10 σ H => (.fV H 5 V (.lV H 5 V (.mV V ?_))));obtain ⟨x4,q5,h⟩:=bs h;refine .sliceP01 (c:=(cL Span.cs)) q5 V V V V (fun _ => V) V (.nV V (.mV V (.na H fun H => (.inBlock ?_))));obtain ⟨y4,hj4,h⟩:=bs h;obtain ⟨n1,hj4⟩:=ZR.1 hj4;refine .mono (Runs.loopO hj4 (fun s3 e σ => ∃ (w7:PV),ZE e [(2,(.ptr (b1 + 1) 4 0)),(3,(.ptr (b2 + 1) 4 0)),(45,(vl (cL Span.cs) x4)),(46,(vi (x4.length:Int))),(47,(vi s3.1))]∧Hs σ (R1 :: .sl w7 37 1 (s3.2.map (cL Span.cs)) true :: .blk id1 3 [(vi f.Count)] :: .blk (b2 + 1) 25 [(vi x2.1),(vi z2),w7,.nils] :: .blk (b1 + 1) 25 [(vi 0),(vi 0),.nils,.nils] :: .blk (b1 + 0) 25 (vF f) :: O)) (fun y4 x e σ => ∃ (w8:PV),x = .exit 2∧ZE e [(2,(.ptr (b1 + 1) 4 0)),(3,(.ptr (b2 + 1) 4 0))]∧Hs σ (R1 :: .sl w8 37 1 (y4.map (cL Span.cs)) true :: .blk id1 3 [(vi f.Count)] :: .blk (b2 + 1) 25 [(vi x2.1),(vi z2),w8,.nils] :: .blk (b1 + 1) 25 [(vi 0),(vi 0),.nils,.nils] :: .blk (b1 + 0) 25 (vF f) :: O)) ⟨w4,EI V,H⟩ ?_) ?_
   ·intro s3 e σ hI z h;obtain ⟨w7,he,H⟩:=hI;obtain ⟨e,rfl⟩:=he.ex;unfold Zn.s1 at h;refine .tR 1 V H fun b11 σ H => (.iV V (.na H fun H => (.then ?_)));refine .wh h V ?_ ?_ <;> intro h
    ·refine .skip (.then (.inBlock (.tR 3 V H fun b12 σ H => ?_)));obtain ⟨x5,q6,h⟩:=bs h;refine .jV q6 V (.pV V (.aV V (.na H fun H => (.Z0P 8 V (by kernel_rfl) H fun b13 σ H B13 => (.ZN H 3 V V V V V (so (B13 3 _ V _ V)) V (.ld w7 H 3 V V V V V (so (B13 3 _ V _ V)) V (.mV V ?_)))))));obtain ⟨x6,q7,h⟩:=bs h;refine .cV (Z3G q7) V (.Z3o (sz:=1) ([x6].map (cL Span.cs)) H (by omega) (by omega) V V V V V V V V V fun σ H => ?_);obtain ⟨x7,q8,h⟩:=bs h;refine .Z3Z (c:=(cL Span.cs)) (v:=w7) (w:=(.buf (b13 + 4) 1 1)) (xs:=s3.2) (ys:=[x6]) H (by omega) (by omega) 2 V V V (.s 0 V) q8 V V V V V (fun h => ⟨(fun id ho => .inl ⟨B13 1 _ V id ho,(fun _ => by kernel_rfl),nofun⟩),(fun id ho => .inr ⟨4,(by cases ho;rfl),(fun h => nomatch h),by kernel_rfl,by decide⟩)⟩) V fun w9 σ H => (.ZN H 4 V V V V V (so (B13 3 _ V _ V)) V (.Z39 (v:=w9) (ys:=[w9]) (cells':=[(vi x2.1),(vi z2),w9,.nils]) H 4 V V V V (H.slCells (k:=2) V) V V V V (fun _ => .inl ⟨B13 3 _ V _ V,(Z2c (by kernel_rfl))⟩) fun σ H => (.na H fun H => (.ZJ 2 V H fun b14 σ H => (.iV V (.mV V (.na H fun H => ?_)))))));obtain rfl:=sj h;exact ⟨V,w9,EI V,(H.erase 0)⟩
    refine .exit ?_;obtain rfl:=sj h;exact ⟨nofun,⟨w7,V,EI V,H⟩⟩
   ·rintro x e σ ⟨w10,rfl,he,H⟩;obtain ⟨e,rfl⟩:=he.ex;refine .exit ?_;obtain ⟨rfl,rfl⟩:=Prod.mk.inj (Option.some.inj h);exact ⟨⟨V,(iff_of_false nofun nofun)⟩,_,⟨w10,V⟩,H⟩
  ·intro x σ M hx hM H;obtain ⟨w11,rfl⟩:=hM;cases hc0_:(y2.2 == 0)
   ·replace h:=cond_F hc0_ h;have hx:x = .exit 0:=by simpa [ne_of_beq_false hc0_,Z6v] using hx.symm
    subst hx;obtain rfl:=sj h;exact ⟨w11,V,EI V,((H.erase 4).erase 1)⟩
   ·replace h:=cond_T hc0_ h;have hx:x = .normal:=by rw [eq_of_beq hc0_] at hx;exact (Option.some.inj hx).symm
    subst hx;obtain rfl:=sj h;exact ⟨w11,V,EI V,((H.erase 4).erase 1)⟩
 ·rintro x e σ ⟨w12,rfl,he,H⟩;obtain ⟨e,rfl⟩:=he.ex;refine .tR 2 V H fun b15 σ H => (.LV [(vi y1.2.1),(vi y1.2.2),w12,.nils] H 1 V (.sV [(vi y1.2.1),(vi y1.2.2),w12,.nils] H 2 V fun σ H => (.na H fun H => (.ret ?_))));obtain rfl:=sj h;exact (Ends.H (xs:=[(.agg [(vi y1.2.1),(vi y1.2.2),w12,.nils])]) (.inr V) H (.agg (cs:=[(vi y1.2.1),(vi y1.2.2),w12,.nils]) 2 V V V V V V V .nil) (.one (.a (.cons (.v _) (.cons (.v _) (.cons (.s 0 V) (.cons .n .nil)))))))
theorem Z64 {s1':(List Span)} {s2':(List Span)} {r:Bool} (h:ZS s1' s2' = some r):Fn CX 44 [(vl Span.cs s1'),(vl Span.cs s2')] (vb r):=by
 refine Fn.go Try.func44 V fun σ H => ?_;unfold ZS at h;refine .tR 1 V H fun b1 σ H => (.aV V (.na H fun H => (.then (.tR 5 V H fun b2 σ H => (.mV V (.nV V (.mV V (.nV V ?_))))))));refine .iV V (.na H fun H => ?_);refine .wh h V ?_ ?_ <;> intro h
 ·refine .tR 1 V H fun b3 σ H => (.aV V (.na H fun H => (.ret ?_)));obtain rfl:=sj h;exact Ends.eR V
 refine .skip (.then (.tR 3 V H fun b4 σ H => (.mV V (.nV V (.mV V (.na H fun H => (.inBlock ?_)))))));obtain ⟨y1,hj1,h⟩:=bs h;obtain ⟨n1,hj1⟩:=ZR.1 hj1;refine .mono (Runs.loopO hj1 (fun s1 e σ => ZE e [(0,(vl Span.cs s1')),(1,(vl Span.cs s2')),(12,(vi (s1'.length:Int))),(13,(vi s1))]∧Hs σ []) (fun y1 x e σ => (∃ a1,y1 = (.go a1)∧x = .exit 0∧ZE e []∧Hs σ [])∨(∃ r',y1 = (.ret r')∧x = .ret∧Ends CX Try.f44.results.toList (vb r') x e σ)) ⟨EI V,H⟩ ?_) ?_
 ·intro s1 e σ hI z h;obtain ⟨he,H⟩:=hI;obtain ⟨e,rfl⟩:=he.ex;unfold ZS.s0 at h;refine .tR 1 V H fun b5 σ H => (.iV V (.na H fun H => (.then ?_)));refine .wh h V ?_ ?_ <;> intro h
  ·refine .skip (.then (.inBlock (.tR 2 V H fun b6 σ H => (.mV V (.aV V (.na H fun H => (.then (.Z0P 9 V (by kernel_rfl) H fun b7 σ H B7 => ?_))))))));refine .mV V (.mV V ?_);obtain ⟨x1,q1,h⟩:=bs h;refine .jV q1 V (.qV [(.int .i64 x1.From),(.int .i64 x1.To)] V (.mV V (.mV V ?_)));obtain ⟨x2,q2,h⟩:=bs h;refine .jV q2 V (.qV [(.int .i64 x2.From),(.int .i64 x2.To)] V (.binA (u:=(.agg [(vi x1.From),(vi x1.To)])) (w:=(.agg [(vi x2.From),(vi x2.To)])) (r:=.bool (!((x1.From == x2.From) && ((x1.To == x2.To) && true)))) V V (by kernel_rfl) (fun _ => ask_eqA V V V V) V (.na H fun H => ?_)));refine .wh h V ?_ ?_ <;> intro h
   ·refine .tR 1 V H fun b8 σ H => (.aV V (.na H fun H => (.ret ?_)));obtain rfl:=sj h;exact ⟨nofun,(.inr ⟨_,V,V,(Ends.H (xs:=[(vb false)]) (.inr V) H (.tmp (v:=(vb false)) V .nil) (.one (.c (.v _))))⟩)⟩
   refine .skip (.ZJ 2 V H fun b9 σ H => (.iV V (.mV V (.na H fun H => ?_))));obtain rfl:=sj h;exact ⟨V,EI V,H⟩
  refine .exit ?_;obtain rfl:=sj h;exact ⟨nofun,(.inl ⟨_,V,V,U,H⟩)⟩
 ·rintro x e σ (⟨a2,rfl,rfl,he,H⟩ | ⟨r',rfl,rfl,hE⟩)
  ·replace h:=jgo h;obtain ⟨e,rfl⟩:=he.ex;refine .tR 1 V H fun b10 σ H => (.aV V (.na H fun H => (.ret ?_)));obtain rfl:=sj h;exact Ends.eR V
  ·replace h:=jret h;obtain rfl:=sj h;exact hE
theorem Z8w {a:(List Span)} {b:(List Span)} {r:Bool} (h:Z0j a b = some r):Fn CX 16 [(vl Span.cs a),(vl Span.cs b)] (vb r):=by
 refine Fn.go Try.func16 V fun σ H => ?_;unfold Z0j at h;refine .tR 1 V H fun b1 σ H => (.aV V (.na H fun H => (.tR 4 V H fun b2 σ H => (.mV V (.mV V ?_)))));obtain ⟨x1,q1,h⟩:=bs h;refine .cV (Z64 q1) V (.aV V (.na H fun H => (.ret ?_)));obtain rfl:=sj h;exact Ends.eR V
theorem ZCO {f:Form} {g:Granule} {r:Bool} (h:Z35 f g = some r):Fn CX 37 [(.agg (vs (Form.cs f))),(.agg (vs (Granule.cs g)))] (vb r):=by
 refine Fn.go Try.func37 V fun σ H => ?_;unfold Z35 at h;refine .tR 3 V H fun b1 σ H => (.bxc (cs:=(vF f)) H V V V fun σ H => (.bxc (cs:=[(vi g.Index),(vl Span.cs g.Ticks)]) H V V V fun σ H => (.aV V (.na H fun H => (.tR 9 V H fun b2 σ H => (.LV (vF f) H 1 V (.fV H 0 V (.lV H 0 V ?_))))))));obtain ⟨x1,q1,h⟩:=bs h;refine .cV (Z2U q1) V (.m1 (.tup [(vl Span.cs x1.1),(vi x1.2)]) V V (.xV V (.xV V (.aV V (.aV V (.na H fun H => (.tR 9 V H fun b3 σ H => (.mV V ?_))))))));refine .iV V (.mV V ?_);obtain ⟨y1,hj1,h⟩:=bs h;refine .md H 5 [(21,(vb y1))] [] V ?_ fun e σ H => ?_
 ·refine .sp hj1 V ?_ ?_ <;> intro h
  ·refine .mV V (.fV H 0 V (.lV H 0 V (.wt V V ?_)));obtain ⟨x2,q2,h⟩:=bs h;refine .cV (Z8w q2) V (.kT V (.nil ?_));obtain rfl:=sj h;exact ⟨EI V,((H.erase 1).erase 0).wk (by omega)⟩
  refine .ps 4 V (.kF V (.nil ?_));obtain rfl:=sj h;exact ⟨EI V,((H.erase 1).erase 0).wk (by omega)⟩
 refine .aV V (.na H fun H => (.ret ?_));obtain rfl:=sj h;exact Ends.eR V
theorem Z94 {f:Form} {r:Form} (h:ZT f = some r):Fn CX 13 [(.agg (vs (Form.cs f)))] (.agg (vs (Form.cs r))):=by
 refine Fn.go Try.func13 V fun σ H => ?_;unfold ZT at h;refine .tR 2 V H fun b1 σ H => (.bxc (cs:=(vF f)) H V V V fun σ H => (.alc (cs:=[(vi 0),(vi 0),.nils,.nils]) H V V fun σ H => (.na H fun H => (.tR 4 V H fun b2 σ H => (.LV (vF f) H 1 V ?_)))));obtain ⟨x1,q1,h⟩:=bs h;refine .cV (canon_core_fn q1) V (.alc (cs:=[(vi 0),(vi 0),.nils,.nils]) H V V fun σ H => (.sV (vF x1) H 0 V fun σ H => (.na H fun H => (.tR 1 V H fun b3 σ H => (.a1 .nils V V (.na H fun H => (.then (.tR 4 V H fun b4 σ H => ?_))))))));refine .fV H 2 V (.lV H 2 V (.nV V (.mV V (.na H fun H => (.inBlock ?_)))));replace H:=H.pushNil 61 2 true;obtain ⟨y1,hj1,h⟩:=bs h;obtain ⟨n1,hj1⟩:=ZR.1 hj1;refine .mono (Runs.loopO hj1 (fun s2 e σ => ∃ (w3:PV),ZE e [(2,(.ptr (b1 + 1) 4 0)),(3,(.ptr (b2 + 2) 4 0)),(4,w3),(10,(vl Granule.cs f.Odd)),(11,(vi (f.Odd.length:Int))),(12,(vi s2.1))]∧Hs σ [.sl w3 61 2 (s2.2.map Granule.cs) true,.blk (b2 + 2) 25 (vF x1),.blk (b1 + 1) 25 [(vi 0),(vi 0),.nils,.nils]]) (fun y1 x e σ => ∃ (w4:PV),x = .exit 0∧ZE e [(2,(.ptr (b1 + 1) 4 0)),(3,(.ptr (b2 + 2) 4 0)),(4,w4)]∧Hs σ [.sl w4 61 2 (y1.map Granule.cs) true,.blk (b2 + 2) 25 (vF x1),.blk (b1 + 1) 25 [(vi 0),(vi 0),.nils,.nils]]) ⟨.nils,EI V,(H.erase 3)⟩ ?_) ?_
 ·intro s2 e σ hI z h;obtain ⟨w3,he,H⟩:=hI;obtain ⟨e,rfl⟩:=he.ex;unfold ZT.s0 at h;refine .tR 1 V H fun b5 σ H => (.iV V (.na H fun H => (.then ?_)));refine .wh h V ?_ ?_ <;> intro h
  ·refine .skip (.then ?_);obtain ⟨y2,hj2,h⟩:=bs h;refine .mono (Q:=fun x e σ => ∃ (w5:PV),x = .normal∧ZE e [(2,(.ptr (b1 + 1) 4 0)),(3,(.ptr (b2 + 2) 4 0)),(4,w5),(10,(vl Granule.cs f.Odd)),(11,(vi (f.Odd.length:Int))),(12,(vi s2.1))]∧Hs σ [.sl w5 61 2 (y2.map Granule.cs) true,.blk (b2 + 2) 25 (vF x1),.blk (b1 + 1) 25 [(vi 0),(vi 0),.nils,.nils]]) ?_ ?_
   ·replace h:=hj2;refine .inBlock ?_;obtain ⟨y3,hj3,h⟩:=bs h;refine .mono (Q:=fun x e σ => ∃ (w6:PV),x = .normal∧ZE e [(2,(.ptr (b1 + 1) 4 0)),(3,(.ptr (b2 + 2) 4 0)),(4,w6),(10,(vl Granule.cs f.Odd)),(11,(vi (f.Odd.length:Int))),(12,(vi s2.1))]∧Hs σ [.sl w6 61 2 (y3.map Granule.cs) true,.blk (b2 + 2) 25 (vF x1),.blk (b1 + 1) 25 [(vi 0),(vi 0),.nils,.nils]]) ?_ ?_
    ·replace h:=hj3;refine .tR 4 V H fun b6 σ H => ?_;obtain ⟨x2,q2,h⟩:=bs h;refine .jV q2 V (.qV [(.int .i64 x2.Index),(.sl (x2.Ticks.map Span.cs))] V (.alc (cs:=[(vi 0),.nils]) H V V fun σ H => (.sV [(vi x2.Index),(vl Span.cs x2.Ticks)] H 0 V fun σ H => (.na H fun H => (.tR 4 V H fun b7 σ H => (.LV (vF x1) H 2 V (.LV [(vi x2.Index),(vl Span.cs x2.Ticks)] H 0 V ?_)))))));obtain ⟨x3,q3,h⟩:=bs h;refine .cV (ZCO q3) V (.tV V (.na H fun H => ?_));refine .wh h V ?_ ?_ <;> intro h
     ·refine .Z0P 10 V (by kernel_rfl) H fun b8 σ H B8 => (.m1 w3 V V (.ZN H 0 V V V V V (so (B8 0 _ V _ V)) V (.ld (vi x2.Index) H 0 V V V V V (so (B8 0 _ V _ V)) V (.ZN H 0 V V V V V (so (B8 0 _ V _ V)) V (.ld (vl Span.cs x2.Ticks) H 0 V V V V V (so (B8 0 _ V _ V)) V ?_)))));obtain ⟨x4,q4,h⟩:=bs h;refine .cV (Z3G q4) V (.bV [(vi x2.Index),(vl Span.cs x4)] V (.Z3o (sz:=2) ([(Granule.mk x2.Index x4)].map Granule.cs) H (by omega) (by omega) V V V V V V V V V fun σ H => ?_));obtain ⟨x5,q5,h⟩:=bs h;refine .Z3Z (c:=Granule.cs) (v:=w3) (w:=(.buf (b8 + 7) 1 2)) (xs:=s2.2) (ys:=[(Granule.mk x2.Index x4)]) H (by omega) (by omega) 2 V V V (.s 0 V) q5 V V V V V (fun h => ⟨(fun id ho => .inl ⟨B8 1 _ V id ho,(fun _ => by kernel_rfl),nofun⟩),(fun id ho => .inr ⟨7,(by cases ho;rfl),(fun h => nomatch h),by kernel_rfl,by decide⟩)⟩) V fun w7 σ H => (.a1 w7 V V (.na H fun H => ?_));obtain rfl:=sj h;exact ⟨w7,V,EI V,((H.erase 1).erase 0)⟩
     refine .skip ?_;obtain rfl:=sj h;exact ⟨w3,V,EI V,(H.erase 0)⟩
    ·rintro x e σ ⟨w8,rfl,he,H⟩;obtain ⟨e,rfl⟩:=he.ex;obtain rfl:=sj h;exact ⟨w8,V,EI V,H⟩
   ·rintro x e σ ⟨w9,rfl,he,H⟩;obtain ⟨e,rfl⟩:=he.ex;refine .ZJ 2 V H fun b9 σ H => (.iV V (.mV V (.na H fun H => ?_)));obtain rfl:=sj h;exact ⟨V,w9,EI V,H⟩
  refine .exit ?_;obtain rfl:=sj h;exact ⟨nofun,⟨w3,V,EI V,H⟩⟩
 ·rintro x e σ ⟨w10,rfl,he,H⟩;obtain ⟨e,rfl⟩:=he.ex;refine .tR 3 V H fun b10 σ H => (.m1 w10 V V (.fV H 1 V (.Z39 (v:=w10) (ys:=[w10]) (cells':=[(vi x1.Period),(vi x1.Count),(vl (cL Span.cs) x1.Core),w10]) H 1 V V V V (H.slCells (k:=0) V) V V V V nofun fun σ H => (.na H fun H => (.tR 2 V H fun b11 σ H => (.LV [(vi x1.Period),(vi x1.Count),(vl (cL Span.cs) x1.Core),w10] H 1 V (.sV [(vi x1.Period),(vi x1.Count),(vl (cL Span.cs) x1.Core),w10] H 2 V fun σ H => (.na H fun H => ?_))))))));refine .ret ?_;obtain rfl:=sj h;exact (Ends.H (xs:=[(.agg [(vi x1.Period),(vi x1.Count),(vl (cL Span.cs) x1.Core),w10])]) (.inr V) H (.agg (cs:=[(vi x1.Period),(vi x1.Count),(vl (cL Span.cs) x1.Core),w10]) 2 V V V V V V V .nil) (.one (.a (.cons (.v _) (.cons (.v _) (.cons (.v _) (.cons (.s 0 V) .nil)))))))
theorem Z8D {f:Form} {r:Form × Int} (h:Z1c f = some r):Fn CX 35 [(.agg (vs (Form.cs f)))] (.tup [(.agg (vs (Form.cs r.1))),(vi r.2)]):=by
 refine Fn.go Try.func35 V fun σ H => ?_;unfold Z1c at h;refine .tR 3 V H fun b1 σ H => (.bxc (cs:=(vF f)) H V V V fun σ H => (.alc (cs:=[(vi 0),(vi 0),.nils,.nils]) H V V fun σ H => (.aV V (.na H fun H => (.then (.tR 2 V H fun b2 σ H => (.LV (vF f) H 1 V ?_)))))));obtain ⟨x1,q1,h⟩:=bs h;refine .cV (Z97 q1) V (.na H fun H => (.inBlock (.tR 2 V H fun b3 σ H => (.iV V (.aV V (.na H fun H => ?_))))));refine .wh h V ?_ ?_ <;> intro h
 ·refine .tR 4 V H fun b4 σ H => (.LV (vF f) H 1 V ?_);obtain ⟨x2,q2,h⟩:=bs h;refine .cV (Z94 q2) V (.sV (vF x2) H 0 V fun σ H => (.aV V (.na H fun H => (.ret ?_))));obtain rfl:=sj h;exact (Ends.H (xs:=[(.agg (vF x2)),(vi 0)]) (.inr V) H (.agg (cs:=(vF x2)) 0 V V V V V V V (.tmp (v:=(vi 0)) V .nil)) (.two (.cons (.p V) (.cons (.c (.v _)) .nil))))
 refine .tR 2 V H fun b5 σ H => (.iV V (.aV V (.na H fun H => ?_)));refine .wh h V ?_ ?_ <;> intro h
 ·refine .tR 3 V H fun b6 σ H => (.bV [(vi 0),(vi 0),.nils,.nils] V (.sV [(vi 0),(vi 0),.nils,.nils] H 0 V fun σ H => (.aV V (.na H fun H => (.ret ?_)))));obtain rfl:=sj h;exact (Ends.H (xs:=[(.agg [(vi 0),(vi 0),.nils,.nils]),(vi 3)]) (.inr V) H (.agg (cs:=[(vi 0),(vi 0),.nils,.nils]) 0 V V V V V V V (.tmp (v:=(vi 3)) V .nil)) (.two (.cons (.a (.cons (.v _) (.cons (.v _) (.cons .n (.cons .n .nil))))) (.cons (.c (.v _)) .nil))))
 refine .skip (.tR 3 V H fun b7 σ H => (.bV [(vi 0),(vi 0),.nils,.nils] V (.sV [(vi 0),(vi 0),.nils,.nils] H 0 V fun σ H => (.aV V (.na H fun H => (.ret ?_))))));obtain rfl:=sj h;exact (Ends.H (xs:=[(.agg [(vi 0),(vi 0),.nils,.nils]),(vi 20)]) (.inr V) H (.agg (cs:=[(vi 0),(vi 0),.nils,.nils]) 0 V V V V V V V (.tmp (v:=(vi 20)) V .nil)) (.two (.cons (.a (.cons (.v _) (.cons (.v _) (.cons .n (.cons .n .nil))))) (.cons (.c (.v _)) .nil))))
theorem Z7g {f:Form} {m:Int} {r:Form × Int} (h:Za f m = some r):Fn CX 11 [(.agg (vs (Form.cs f))),(vi m)] (.tup [(.agg (vs (Form.cs r.1))),(vi r.2)]):=by
 refine Fn.go Try.func11 V fun σ H => ?_;unfold Za at h;refine .tR 3 V H fun b1 σ H => (.bxc (cs:=(vF f)) H V V V fun σ H => (.alc (cs:=[(vi 0),(vi 0),.nils,.nils]) H V V fun σ H => (.aV V (.na H fun H => (.then (.tR 6 V H fun b2 σ H => (.mV V (.iV V ?_))))))));refine .mV V ?_;refine .md H 3 [(21,(vb ((decide (m < 1)) || (decide (m > 6000))))),(1,(vi m)),(2,(.ptr (b1 + 0) 4 0)),(4,(.ptr (b1 + 1) 4 0))] [.blk (b1 + 1) 25 [(vi 0),(vi 0),.nils,.nils],.blk (b1 + 0) 25 (vF f)] rfl ?_ fun e σ H => ?_
 ·refine .split V V ?_ ?_ <;> intro hc1
  ·refine .ps 2 V (.kT V (.nil ?_));exact ⟨⟨or_T hc1,V,V,V,U⟩,H.wk (by omega)⟩
  ·refine .mV V (.iV V (.kF V (.nil ?_)));exact ⟨⟨or_F hc1,V,V,V,U⟩,H.wk (by omega)⟩
 refine .na H fun H => ?_;refine .wh h V ?_ ?_ <;> intro h
 ·refine .tR 3 V H fun b3 σ H => (.bV [(vi 0),(vi 0),.nils,.nils] V (.sV [(vi 0),(vi 0),.nils,.nils] H 0 V fun σ H => (.aV V (.na H fun H => (.ret ?_)))));obtain rfl:=sj h;exact (Ends.H (xs:=[(.agg [(vi 0),(vi 0),.nils,.nils]),(vi 2)]) (.inr V) H (.agg (cs:=[(vi 0),(vi 0),.nils,.nils]) 0 V V V V V V V (.tmp (v:=(vi 2)) V .nil)) (.two (.cons (.a (.cons (.v _) (.cons (.v _) (.cons .n (.cons .n .nil))))) (.cons (.c (.v _)) .nil))))
 refine .skip (.tR 9 V H fun b4 σ H => (.LV (vF f) H 1 V (.mV V ?_)));obtain ⟨x1,q1,h⟩:=bs h;refine .callFO (ys:=[(.agg (vs (Form.cs f))),(vi m)]) H rfl (ZBu q1) nofun rfl ?_;rintro _ _ σ ⟨w1,rfl,rfl⟩ H;refine .m1 (.tup [(.agg [(vi x1.1.Period),(vi x1.1.Count),w1,.nils]),(vi x1.2)]) V V (.xV V (.xV V (.alc (cs:=[(vi 0),(vi 0),.nils,.nils]) H V V fun σ H => (.sV [(vi x1.1.Period),(vi x1.1.Count),w1,.nils] H 0 V fun σ H => (.aV V (.na H fun H => (.then (.tR 2 V H fun b5 σ H => ?_))))))));refine .mV V (.iV V (.na H fun H => ?_));refine .wh h V ?_ ?_ <;> intro h
 ·refine .tR 4 V H fun b6 σ H => (.bV [(vi 0),(vi 0),.nils,.nils] V (.mV V (.sV [(vi 0),(vi 0),.nils,.nils] H 2 V fun σ H => (.aV V (.na H fun H => (.ret ?_))))));obtain rfl:=sj h;exact (Ends.H (xs:=[(.agg [(vi 0),(vi 0),.nils,.nils]),(vi x1.2)]) (.inr V) H (.agg (cs:=[(vi 0),(vi 0),.nils,.nils]) 2 V V V V V V V (.tmp (v:=(vi x1.2)) V .nil)) (.two (.cons (.a (.cons (.v _) (.cons (.v _) (.cons .n (.cons .n .nil))))) (.cons (.c (.v _)) .nil))))
 refine .skip (.then (.tR 4 V H fun b7 σ H => (.fV H 3 V (.lV H 3 V (.nV V (.mV V (.na H fun H => (.inBlock ?_))))))));replace H:=H.pushNil 61 2 true;obtain ⟨y1,hj1,h⟩:=bs h;obtain ⟨n1,hj1⟩:=ZR.1 hj1;refine .mono (Runs.loopO hj1 (fun s2 e σ => ∃ (w4:PV),ZE e [(1,(vi m)),(2,(.ptr (b1 + 0) 4 0)),(4,(.ptr (b1 + 1) 4 0)),(6,(.ptr (b4 + 6) 4 0)),(34,(vl Granule.cs f.Odd)),(35,(vi (f.Odd.length:Int))),(36,(vi s2.1))]∧Hs σ [.sl w4 61 2 (s2.2.map Granule.cs) true,.blk (b4 + 6) 25 [(vi x1.1.Period),(vi x1.1.Count),w1,w4],.sl w1 37 1 (x1.1.Core.map (cL Span.cs)) true,.blk (b1 + 1) 25 [(vi 0),(vi 0),.nils,.nils],.blk (b1 + 0) 25 (vF f)]) (fun y1 x e σ => (∃ a1,∃ (w5:PV),y1 = (.go a1)∧x = .exit 0∧ZE e [(4,(.ptr (b1 + 1) 4 0)),(6,(.ptr (b4 + 6) 4 0))]∧Hs σ [.sl w5 61 2 (a1.map Granule.cs) true,.blk (b4 + 6) 25 [(vi x1.1.Period),(vi x1.1.Count),w1,w5],.sl w1 37 1 (x1.1.Core.map (cL Span.cs)) true,.blk (b1 + 1) 25 [(vi 0),(vi 0),.nils,.nils]])∨(∃ r',y1 = (.ret r')∧x = .ret∧Ends CX Try.f11.results.toList (.tup [(.agg (vs (Form.cs r'.1))),(vi r'.2)]) x e σ)) ⟨.nils,EI V,H⟩ ?_) ?_
 ·intro s2 e σ hI z h;obtain ⟨w4,he,H⟩:=hI;obtain ⟨e,rfl⟩:=he.ex;unfold Za.s0 at h;refine .tR 1 V H fun b8 σ H => (.iV V (.na H fun H => (.then ?_)));refine .wh h V ?_ ?_ <;> intro h
  ·refine .skip (.then ?_);obtain ⟨y2,hj2,h⟩:=bs h;refine .mono (Q:=fun x e σ => (∃ a2,∃ (w6:PV),y2 = (.go a2)∧x = .normal∧ZE e [(1,(vi m)),(2,(.ptr (b1 + 0) 4 0)),(4,(.ptr (b1 + 1) 4 0)),(6,(.ptr (b4 + 6) 4 0)),(34,(vl Granule.cs f.Odd)),(35,(vi (f.Odd.length:Int))),(36,(vi s2.1))]∧Hs σ [.sl w6 61 2 (a2.map Granule.cs) true,.blk (b4 + 6) 25 [(vi x1.1.Period),(vi x1.1.Count),w1,w6],.sl w1 37 1 (x1.1.Core.map (cL Span.cs)) true,.blk (b1 + 1) 25 [(vi 0),(vi 0),.nils,.nils],.blk (b1 + 0) 25 (vF f)])∨(∃ r',y2 = (.ret r')∧x = .ret∧Ends CX Try.f11.results.toList (.tup [(.agg (vs (Form.cs r'.1))),(vi r'.2)]) x e σ)) ?_ ?_
   ·replace h:=hj2;refine .inBlock (.tR 4 V H fun b9 σ H => ?_);obtain ⟨x2,q2,h⟩:=bs h;refine .jV q2 V (.qV [(.int .i64 x2.Index),(.sl (x2.Ticks.map Span.cs))] V (.alc (cs:=[(vi 0),.nils]) H V V fun σ H => (.sV [(vi x2.Index),(vl Span.cs x2.Ticks)] H 0 V fun σ H => (.na H fun H => (.tR 11 V H fun b10 σ H => (.fV H 0 V (.lV H 0 V (.mV V ?_))))))));obtain ⟨x3,q3,h⟩:=bs h;refine .cV (Z23 q3) V (.m1 (.tup [(vi x3.1),(vi x3.2.1),(vi x3.2.2)]) V V (.xV V (.xV V (.xV V (.aV V (.aV V (.aV V (.na H fun H => ?_))))))));refine .then (.tR 4 V H fun b11 σ H => (.fV H 2 V (.lV H 2 V (.Z8t (c:=Granule.cs) (xs:=s2.2) H 1 V V V nofun V (.aV V (.na H fun H => (.tR 13 V H fun b12 σ H => (.mV V ?_))))))));refine .iV V (.mV V ?_);obtain ⟨y3,hj3,h⟩:=bs h;refine .md H 10 [(63,(vb y3)),(1,(vi m)),(2,(.ptr (b1 + 0) 4 0)),(4,(.ptr (b1 + 1) 4 0)),(6,(.ptr (b4 + 6) 4 0)),(10,(vi x3.1)),(34,(vl Granule.cs f.Odd)),(35,(vi (f.Odd.length:Int))),(36,(vi s2.1))] [.sl w4 61 2 (s2.2.map Granule.cs) true,.blk (b4 + 6) 25 [(vi x1.1.Period),(vi x1.1.Count),w1,w4],.sl w1 37 1 (x1.1.Core.map (cL Span.cs)) true,.blk (b1 + 1) 25 [(vi 0),(vi 0),.nils,.nils],.blk (b1 + 0) 25 (vF f)] V ?_ fun e σ H => ?_
    ·refine .sp hj3 V ?_ ?_ <;> intro h
     ·refine .fV H 2 V (.lV H 2 V (.mV V (.iV V (.wt V V ?_))));obtain ⟨x4,q4,h⟩:=bs h;refine .Z5B H 1 V V V (at?_map q4) V V nofun V ?_;intro id1 hv1;refine .wt V V (.Z65 (id:=id1) H 1 V hv1 (by simp) V V V nofun V (.wt V V ?_));refine .loadS (id:=id1) (j:=0) (w:=(.int .i64 x4.Index)) H 1 V hv1 (by simp) (at?_map q4) V (by simp) V V V nofun V ?_;refine .mV V (.iV V (.kT V (.nil ?_)));obtain rfl:=sj h;exact ⟨EI V,(H.erase 0).wk (by omega)⟩
     refine .ps 9 V (.kF V (.nil ?_));obtain rfl:=sj h;exact ⟨EI V,(H.erase 0).wk (by omega)⟩
    refine .na H fun H => ?_;refine .wh h V ?_ ?_ <;> intro h
    ·refine .exit ?_;obtain rfl:=sj h;exact (.inl ⟨_,w4,V,V,EI V,H⟩)
    refine .skip (.tR 11 V H fun b13 σ H => (.Z7M (fs:=[]) (cs:=[(.ptr (b1 + 0) 4 0)]) V V V V (.mV V (.mV V (.iV V (.mV V ?_))))));obtain ⟨x5,q5,h⟩:=bs h;refine .callH (ys:=[(.clo 34 [] [(.ptr (b1 + 0) 4 0)]),(vi (w64 (x3.1 * m))),(vi m)]) (r:=(.tup [(vl Span.cs x5.1),(vi x5.2)])) H V (Z5n (C:=[.blk (b1 + 0) 25 (vF f)]) V (fun h => by simp [PV.pure] at h) (fun z0 y hz => (CloH.clo (ZAB hz))) q5) (.cons 4 V .nil) nofun V fun σ H => (.m1 (.tup [(vl Span.cs x5.1),(vi x5.2)]) V V (.xV V (.xV V (.aV V (.aV V (.na H fun H => (.then (.tR 2 V H fun b14 σ H => ?_))))))));refine .mV V (.iV V (.na H fun H => ?_));refine .wh h V ?_ ?_ <;> intro h
    ·refine .tR 3 V H fun b15 σ H => (.bV [(vi 0),(vi 0),.nils,.nils] V (.sV [(vi 0),(vi 0),.nils,.nils] H 3 V fun σ H => (.aV V (.na H fun H => (.ret ?_)))));obtain rfl:=sj h;exact (.inr ⟨_,V,V,(Ends.H (xs:=[(.agg [(vi 0),(vi 0),.nils,.nils]),(vi 20)]) (.inr V) H (.agg (cs:=[(vi 0),(vi 0),.nils,.nils]) 3 V V V V V V V (.tmp (v:=(vi 20)) V .nil)) (.two (.cons (.a (.cons (.v _) (.cons (.v _) (.cons .n (.cons .n .nil))))) (.cons (.c (.v _)) .nil))))⟩)
    refine .skip (.ZJ 9 V H fun b16 σ H => (.fV H 1 V (.lV H 1 V (.mV V (.mV V (.bV [(vi x3.1),(vl Span.cs x5.1)] V (.Z3o (sz:=2) ([(Granule.mk x3.1 x5.1)].map Granule.cs) H (by omega) (by omega) V V V V V V V V V fun σ H => ?_)))))));obtain ⟨x6,q6,h⟩:=bs h;refine .Z3Z (c:=Granule.cs) (v:=w4) (w:=(.buf (b16 + 5) 1 2)) (xs:=s2.2) (ys:=[(Granule.mk x3.1 x5.1)]) H (by omega) (by omega) 1 V V V (.s 0 V) q6 V V V V V nofun V fun w7 σ H => (.fV H 2 V (.Z39 (v:=w7) (ys:=[w7]) (cells':=[(vi x1.1.Period),(vi x1.1.Count),w1,w7]) H 2 V V V V (H.slCells (k:=1) V) V V V V nofun fun σ H => (.na H fun H => ?_)));obtain rfl:=sj h;exact (.inl ⟨_,w7,V,V,EI V,(H.erase 0)⟩)
   ·rintro x e σ (⟨a3,w8,rfl,rfl,he,H⟩ | ⟨r',rfl,rfl,hE⟩)
    ·replace h:=jgo h;obtain ⟨e,rfl⟩:=he.ex;refine .ZJ 2 V H fun b17 σ H => (.iV V (.mV V (.na H fun H => ?_)));obtain rfl:=sj h;exact ⟨V,w8,EI V,H⟩
    ·replace h:=jret h;obtain rfl:=sj h;exact ⟨nofun,(.inr ⟨_,V,V,hE⟩)⟩
  refine .exit ?_;obtain rfl:=sj h;exact ⟨nofun,(.inl ⟨_,w4,V,V,EI V,(H.erase 4)⟩)⟩
 ·rintro x e σ (⟨a4,w9,rfl,rfl,he,H⟩ | ⟨r',rfl,rfl,hE⟩)
  ·replace h:=jgo h;obtain ⟨e,rfl⟩:=he.ex;refine .tR 6 V H fun b18 σ H => (.LV [(vi x1.1.Period),(vi x1.1.Count),w1,w9] H 1 V ?_);obtain ⟨x7,q7,h⟩:=bs h;refine .callX (xs:=[(.agg [(vi x1.1.Period),(vi x1.1.Count),w1,w9])]) (ys:=[(.agg (vs (Form.cs (Form.mk x1.1.Period x1.1.Count x1.1.Core a4))))]) H V (.cons (.a (.cons (.v _) (.cons (.v _) (.cons (.s 2 V) (.cons (.s 0 V) .nil))))) .nil) (Z8D q7) V V nofun V fun σ H => (.xV V (.xV V (.sV (vF x7.1) H 3 V fun σ H => (.aV V (.na H fun H => (.ret ?_))))));obtain rfl:=sj h;exact (Ends.H (xs:=[(.agg (vF x7.1)),(vi x7.2)]) (.inr V) H (.agg (cs:=(vF x7.1)) 3 V V V V V V V (.tmp (v:=(vi x7.2)) V .nil)) (.two (.cons (.p V) (.cons (.c (.v _)) .nil))))
  ·replace h:=jret h;obtain rfl:=sj h;exact hE
theorem Z7s {f:Form} {r:Bool} (h:Z0S f = some r):Fn CX 52 [(.agg (vs (Form.cs f)))] (vb r):=by
 refine Fn.go Try.func52 V fun σ H => ?_;unfold Z0S at h;refine .tR 2 V H fun b1 σ H => (.bxc (cs:=(vF f)) H V V V fun σ H => (.aV V (.na H fun H => (.then (.tR 4 V H fun b2 σ H => (.fV H 0 V (.lV H 0 V (.nV V ?_))))))));refine .mV V (.na H fun H => (.inBlock ?_));obtain ⟨y1,hj1,h⟩:=bs h;obtain ⟨n1,hj1⟩:=ZR.1 hj1;refine .mono (Runs.loopO hj1 (fun s1 e σ => ZE e [(1,(.ptr (b1 + 0) 4 0)),(6,(vl (cL Span.cs) f.Core)),(7,(vi (f.Core.length:Int))),(8,(vi s1))]∧Hs σ [.blk (b1 + 0) 25 (vF f)]) (fun y1 x e σ => (∃ a1,y1 = (.go a1)∧x = .exit 0∧ZE e [(1,(.ptr (b1 + 0) 4 0))]∧Hs σ [.blk (b1 + 0) 25 (vF f)])∨(∃ r',y1 = (.ret r')∧x = .ret∧Ends CX Try.f52.results.toList (vb r') x e σ)) ⟨EI V,H⟩ ?_) ?_
 ·intro s1 e σ hI z h;obtain ⟨he,H⟩:=hI;obtain ⟨e,rfl⟩:=he.ex;unfold Z0S.s0 at h;refine .tR 1 V H fun b3 σ H => (.iV V (.na H fun H => (.then ?_)));refine .wh h V ?_ ?_ <;> intro h
  ·refine .skip (.then (.inBlock (.tR 3 V H fun b4 σ H => ?_)));obtain ⟨x1,q1,h⟩:=bs h;refine .jV q1 V (.pV V (.aV V (.na H fun H => (.tR 3 V H fun b5 σ H => (.mV V (.nV V (.iV V (.na H fun H => ?_))))))));refine .wh h V ?_ ?_ <;> intro h
   ·refine .tR 1 V H fun b6 σ H => (.aV V (.na H fun H => (.ret ?_)));obtain rfl:=sj h;exact ⟨nofun,(.inr ⟨_,V,V,(Ends.H (xs:=[(vb false)]) (.inr V) H (.tmp (v:=(vb false)) V .nil) (.one (.c (.v _))))⟩)⟩
   refine .skip (.ZJ 2 V H fun b7 σ H => (.iV V (.mV V (.na H fun H => ?_))));obtain rfl:=sj h;exact ⟨V,EI V,H⟩
  refine .exit ?_;obtain rfl:=sj h;exact ⟨nofun,(.inl ⟨_,V,V,EI V,H⟩)⟩
 ·rintro x e σ (⟨a2,rfl,rfl,he,H⟩ | ⟨r',rfl,rfl,hE⟩)
  ·replace h:=jgo h;obtain ⟨e,rfl⟩:=he.ex;refine .tR 10 V H fun b8 σ H => (.fV H 0 V (.lV H 0 V (.iV V (.mV V ?_))));refine .md H 5 [(24,(vb ((decide (f.Count > 0)) && ((f.Odd.length:Int) == 0))))] [] V ?_ fun e σ H => ?_
   ·refine .split V V ?_ ?_ <;> intro hc3
    ·refine .fV H 0 V (.lV H 0 V (.nV V (.iV V (.kT V (.nil ?_)))));exact ⟨⟨Z3C hc3,U⟩,(H.erase 0).wk (by omega)⟩
    ·refine .ps 4 V (.kF V (.nil ?_));exact ⟨⟨Z3B hc3,U⟩,(H.erase 0).wk (by omega)⟩
   refine .aV V (.na H fun H => (.ret ?_));obtain rfl:=sj h;exact Ends.eR V
  ·replace h:=jret h;obtain rfl:=sj h;exact hE
end Go.Dn

namespace Go.Dn
open Go Go.Proofs
set_option maxRecDepth 100000
set_option maxHeartbeats 4000000
theorem alter_turn_fn {fine:Form} {coarse:Form} {r:Int × Int × Int} (h:Z3q fine coarse = some r):Fn CX 53 [(.agg (vs (Form.cs fine))),(.agg (vs (Form.cs coarse)))] (.tup [(vi r.1),(vi r.2.1),(vi r.2.2)]):=by
 refine Fn.go Try.func53 V fun σ H => ?_;unfold Z3q at h;refine .tR 5 V H fun b1 σ H => (.bxc (cs:=(vF fine)) H V V V fun σ H => (.bxc (cs:=(vF coarse)) H V V V fun σ H => (.aV V (.aV V (.aV V (.na H fun H => (.tR 10 V H fun b2 σ H => (.fV H 1 V ?_))))))));refine .lV H 1 V (.fV H 0 V (.lV H 0 V ?_));obtain ⟨x1,q1,h⟩:=bs h;refine .cV (Z7n q1) V (.m1 (.tup [(vi x1.1),(vi x1.2)]) V V (.xV V (.xV V (.aV V (.aV V (.na H fun H => (.then (.tR 2 V H fun b3 σ H => ?_))))))));refine .mV V (.iV V (.na H fun H => ?_));refine .wh h V ?_ ?_ <;> intro h
 ·refine .tR 3 V H fun b4 σ H => (.aV V (.aV V (.aV V (.na H fun H => (.ret ?_)))));obtain rfl:=sj h;exact Ends.eR V
 refine .skip (.then (.Z0P 12 V (by kernel_rfl) H fun b5 σ H B5 => (.ZN H 0 V V V V V (so (B5 0 _ V _ V)) V (.ld (vi coarse.Count) H 0 V V V V V (so (B5 0 _ V _ V)) V (.mV V (.ZN H 0 V V V V V (so (B5 0 _ V _ V)) V (.ld (vi coarse.Period) H 0 V V V V V (so (B5 0 _ V _ V)) V ?_)))))));obtain ⟨u1,q2,h⟩:=bs h;refine .quo (m:=x1.1) (m':=coarse.Period) V V (Z6D q2) V (.cV (Z3s V) V (.m1 (.tup [(vi (Z7 coarse.Count (w64 (x1.1.tdiv coarse.Period))).1),(vi (Z7 coarse.Count (w64 (x1.1.tdiv coarse.Period))).2)]) V V (.xV V (.xV V (.aV V (.aV V (.na H fun H => (.then ?_))))))));refine .Z0P 12 V (by kernel_rfl) H fun b6 σ H B6 => (.ZN H 1 V V V V V (so (B6 1 _ V _ V)) V (.ld (vi fine.Count) H 1 V V V V V (so (B6 1 _ V _ V)) V (.mV V (.ZN H 1 V V V V V (so (B6 1 _ V _ V)) V (.ld (vi fine.Period) H 1 V V V V V (so (B6 1 _ V _ V)) V ?_)))));obtain ⟨u2,q3,h⟩:=bs h;refine .quo (m:=x1.1) (m':=fine.Period) V V (Z6D q3) V (.cV (Z3s V) V (.m1 (.tup [(vi (Z7 fine.Count (w64 (x1.1.tdiv fine.Period))).1),(vi (Z7 fine.Count (w64 (x1.1.tdiv fine.Period))).2)]) V V (.xV V (.xV V (.aV V (.aV V (.na H fun H => (.then ?_))))))))
 refine .tR 14 V H fun b7 σ H => (.mV V (.iV V (.mV V ?_)));refine .md H 3 [(48,(vb ((((Z7 coarse.Count (w64 (x1.1.tdiv coarse.Period))).2) != 0) || (((Z7 fine.Count (w64 (x1.1.tdiv fine.Period))).2) != 0)))),(9,(vi (Z7 coarse.Count (w64 (x1.1.tdiv coarse.Period))).1)),(11,(vi (Z7 fine.Count (w64 (x1.1.tdiv fine.Period))).1))] [] rfl ?_ fun e σ H => ?_
 ·refine .split V V ?_ ?_ <;> intro hc2
  ·refine .ps 2 V (.kT V (.nil ?_));exact ⟨⟨or_T hc2,V,V,U⟩,((H.erase 1).erase 0).wk (by omega)⟩
  ·refine .mV V (.iV V (.kF V (.nil ?_)));exact ⟨⟨or_F hc2,V,V,U⟩,((H.erase 1).erase 0).wk (by omega)⟩
 refine .mV V ?_;refine .md H 3 [(52,(vb (((((Z7 coarse.Count (w64 (x1.1.tdiv coarse.Period))).2) != 0) || (((Z7 fine.Count (w64 (x1.1.tdiv fine.Period))).2) != 0)) || (decide (((Z7 coarse.Count (w64 (x1.1.tdiv coarse.Period))).1) > 6000))))),(9,(vi (Z7 coarse.Count (w64 (x1.1.tdiv coarse.Period))).1)),(11,(vi (Z7 fine.Count (w64 (x1.1.tdiv fine.Period))).1))] [] rfl ?_ fun e σ H => ?_
 ·refine .split V V ?_ ?_ <;> intro hc3
  ·refine .ps 2 V (.kT V (.nil ?_));exact ⟨⟨or_T hc3,V,V,U⟩,H.wk (by omega)⟩
  ·refine .mV V (.iV V (.kF V (.nil ?_)));exact ⟨⟨or_F hc3,V,V,U⟩,H.wk (by omega)⟩
 refine .mV V ?_;refine .md H 3 [(56,(vb ((((((Z7 coarse.Count (w64 (x1.1.tdiv coarse.Period))).2) != 0) || (((Z7 fine.Count (w64 (x1.1.tdiv fine.Period))).2) != 0)) || (decide (((Z7 coarse.Count (w64 (x1.1.tdiv coarse.Period))).1) > 6000))) || (decide (((Z7 fine.Count (w64 (x1.1.tdiv fine.Period))).1) > 60000))))),(9,(vi (Z7 coarse.Count (w64 (x1.1.tdiv coarse.Period))).1)),(11,(vi (Z7 fine.Count (w64 (x1.1.tdiv fine.Period))).1))] [] rfl ?_ fun e σ H => ?_
 ·refine .split V V ?_ ?_ <;> intro hc4
  ·refine .ps 2 V (.kT V (.nil ?_));exact ⟨⟨or_T hc4,V,V,U⟩,H.wk (by omega)⟩
  ·refine .mV V (.iV V (.kF V (.nil ?_)));exact ⟨⟨or_F hc4,V,V,U⟩,H.wk (by omega)⟩
 refine .na H fun H => ?_;refine .wh h V ?_ ?_ <;> intro h
 ·refine .tR 3 V H fun b8 σ H => (.aV V (.aV V (.aV V (.na H fun H => (.ret ?_)))));obtain rfl:=sj h;exact Ends.eR V
 refine .skip (.tR 5 V H fun b9 σ H => (.mV V (.mV V (.aV V (.aV V (.aV V (.na H fun H => (.ret ?_))))))));obtain rfl:=sj h;exact Ends.eR V
theorem find_up_fn {r:Unit} (h:find_up = r):Fn CX 108 [] (.agg [(vi 1),(.v (.fn 60)),(.v (.fn 114)),(.v (.fn 115))]):=by
 refine Fn.go Try.func108 V fun σ H => ?_;unfold find_up at h;refine .tR 1 V H fun b1 σ H => (.alc (cs:=[(vi 0),(.v .nilf),(.v .nilf),(.v .nilf)]) H V V fun σ H => (.na H fun H => (.tR 2 V H fun b2 σ H => (.bV [(vi 1),(.v (.fn 60)),(.v (.fn 114)),(.v (.fn 115))] V (.sV [(vi 1),(.v (.fn 60)),(.v (.fn 114)),(.v (.fn 115))] H 0 V fun σ H => (.na H fun H => (.ret ?_)))))));subst h;exact (Ends.H (xs:=[(.agg [(vi 1),(.v (.fn 60)),(.v (.fn 114)),(.v (.fn 115))])]) (.inr V) H (.agg (cs:=[(vi 1),(.v (.fn 60)),(.v (.fn 114)),(.v (.fn 115))]) 0 V V V V V V V .nil) (.one (.p V)))
theorem Z91 {l:(List Span)} {r:Span × Bool} (h:Z2f l = some r):Fn CX 113 [(vl Span.cs l)] (.tup [(.agg (vs (Span.cs r.1))),(vb r.2)]):=by
 refine Fn.go Try.func113 V fun σ H => ?_;unfold Z2f at h;refine .tR 2 V H fun b1 σ H => (.alc (cs:=[(vi 0),(vi 0)]) H V V fun σ H => (.aV V (.na H fun H => (.then (.tR 3 V H fun b2 σ H => (.mV V (.nV V (.iV V ?_))))))));refine .na H fun H => ?_;refine .wh h V ?_ ?_ <;> intro h
 ·refine .tR 3 V H fun b3 σ H => (.bV [(vi 0),(vi 0)] V (.sV [(vi 0),(vi 0)] H 0 V fun σ H => (.aV V (.na H fun H => (.ret ?_)))));obtain rfl:=sj h;exact (Ends.H (xs:=[(.agg [(vi 0),(vi 0)]),(vb false)]) (.inr V) H (.agg (cs:=[(vi 0),(vi 0)]) 0 V V V V V V V (.tmp (v:=(vb false)) V .nil)) (.two (.cons (.p V) (.cons (.c (.v _)) .nil))))
 refine .skip (.then (.Z0P 14 V (by kernel_rfl) H fun b4 σ H B4 => (.mV V ?_)));obtain ⟨x1,q1,h⟩:=bs h;refine .jV q1 V (.Z0B V V V V (.pV V (.mV V (.mV V (.nV V (.iV V ?_))))));obtain ⟨x2,q2,h⟩:=bs h;refine .jV q2 V (.Z0B V V V V (.pV V (.bV [(vi x1.From),(vi x2.To)] V (.Z39 (cells':=[(vi x1.From),(vi x2.To)]) H 0 V V V V V V V V V (fun _ => .inl ⟨B4 0 _ V _ V,(Z2c (by kernel_rfl))⟩) fun σ H => (.aV V (.na H fun H => (.ret ?_)))))));obtain rfl:=sj h;exact (Ends.H (xs:=[(.agg [(vi x1.From),(vi x2.To)]),(vb true)]) (.inr V) H (.agg (cs:=[(vi x1.From),(vi x2.To)]) 0 V V V V V V V (.tmp (v:=(vb true)) V .nil)) (.two (.cons (.p V) (.cons (.c (.v _)) .nil))))
theorem find_up_1_fn {h':Span} {t:Int} {period:Int} {r:Int} (h:Z8U h' t period = some r):Fn CX 114 [(.agg (vs (Span.cs h'))),(vi t),(vi period)] (vi r):=by
 refine Fn.go Try.func114 V fun σ H => ?_;unfold Z8U at h;refine .tR 2 V H fun b1 σ H => (.bxc (cs:=[(vi h'.From),(vi h'.To)]) H V V V fun σ H => (.aV V (.na H fun H => (.tR 13 V H fun b2 σ H => (.fV H 0 V (.lV H 0 V (.mV V (.iV V ?_))))))));refine .mV V ?_;obtain ⟨x1,q1,h⟩:=bs h;refine .cV (Z23 q1) V (.m1 (.tup [(vi x1.1),(vi x1.2.1),(vi x1.2.2)]) V V (.xV V (.xV V (.xV V (.aV V (.aV V (.aV V (.na H fun H => ?_))))))));refine .tR 3 V H fun b3 σ H => (.mV V (.neg (m:=x1.1) V V (.aV V (.na H fun H => (.ret ?_)))));obtain rfl:=sj h;exact Ends.eR V
theorem Z33 {f:Form} {t:Int} {r:Int × Bool} (h:Z6 f t = some r):Fn CX 116 [(.agg (vs (Form.cs f))),(vi t),(.agg [(vi 1),(.v (.fn 60)),(.v (.fn 114)),(.v (.fn 115))])] (.tup [(vi r.1),(vb r.2)]):=by
 refine Fn.go Try.func116 V fun σ H => ?_;unfold Z6 at h;refine .tR 4 V H fun b1 σ H => (.bxc (cs:=(vF f)) H V V V fun σ H => (.bxc (cs:=[(vi 1),(.v (.fn 60)),(.v (.fn 114)),(.v (.fn 115))]) H V V V fun σ H => (.aV V (.aV V (.na H fun H => (.tR 2 V H fun b2 σ H => (.aV V (.aV V ?_))))))));refine .na H fun H => (.then (.tR 4 V H fun b3 σ H => (.fV H 1 V (.lV H 1 V (.nV V (.mV V (.na H fun H => (.inBlock ?_))))))));refine .lp h (fun s1 => [(1,(vi t)),(3,(.ptr (b1 + 0) 4 0)),(5,(.ptr (b1 + 1) 4 0)),(8,(vi s1.1)),(9,(vb s1.2.1)),(16,(vl (cL Span.cs) f.Core)),(17,(vi (f.Core.length:Int))),(18,(vi s1.2.2))]) (fun s1 => [.blk (b1 + 1) 136 [(vi 1),(.v (.fn 60)),(.v (.fn 114)),(.v (.fn 115))],.blk (b1 + 0) 25 (vF f)]) (.exit 0) (fun y1 => [(8,(vi y1.1)),(9,(vb y1.2))]) (fun y1 => []) (EI V) H (fun s1 e σ H z h => ?_) fun y1 e σ H h => ?_
 ·unfold Z6.s0 at h;refine .tR 1 V H fun b4 σ H => (.iV V (.na H fun H => (.then ?_)));refine .wh h V ?_ ?_ <;> intro h
  ·refine .skip (.then ?_);refine .jn h .normal (fun y2 => [(1,(vi t)),(3,(.ptr (b1 + 0) 4 0)),(5,(.ptr (b1 + 1) 4 0)),(8,(vi y2.1)),(9,(vb y2.2)),(16,(vl (cL Span.cs) f.Core)),(17,(vi (f.Core.length:Int))),(18,(vi s1.2.2))]) (fun y2 => [.blk (b1 + 1) 136 [(vi 1),(.v (.fn 60)),(.v (.fn 114)),(.v (.fn 115))],.blk (b1 + 0) 25 (vF f)]) (fun y2 h => ?_) fun y2 e σ H h => ?_
   ·refine .inBlock ?_;obtain ⟨y3,hj3,h⟩:=bs h;refine .mono (Q:=fun x e σ => (∃ a1,y3 = (.go a1)∧x = .normal∧ZE e [(1,(vi t)),(3,(.ptr (b1 + 0) 4 0)),(5,(.ptr (b1 + 1) 4 0)),(8,(vi a1.1)),(9,(vb a1.2)),(16,(vl (cL Span.cs) f.Core)),(17,(vi (f.Core.length:Int))),(18,(vi s1.2.2))]∧Hs σ [.blk (b1 + 1) 136 [(vi 1),(.v (.fn 60)),(.v (.fn 114)),(.v (.fn 115))],.blk (b1 + 0) 25 (vF f)])∨(∃ a2,y3 = (.ret a2)∧x = .exit 1∧ZE e [(1,(vi t)),(3,(.ptr (b1 + 0) 4 0)),(5,(.ptr (b1 + 1) 4 0)),(8,(vi s1.1)),(9,(vb s1.2.1)),(16,(vl (cL Span.cs) f.Core)),(17,(vi (f.Core.length:Int))),(18,(vi s1.2.2))]∧Hs σ [.blk (b1 + 1) 136 [(vi 1),(.v (.fn 60)),(.v (.fn 114)),(.v (.fn 115))],.blk (b1 + 0) 25 (vF f)])) ?_ ?_
    ·replace h:=hj3;refine .tR 5 V H fun b5 σ H => (.mV V ?_);obtain ⟨x1,q1,h⟩:=bs h;refine .jV q1 V (.pV V (.aV V (.aV V (.na H fun H => (.tR 8 V H fun b6 σ H => (.mV V ?_))))));obtain ⟨x2,q2,h⟩:=bs h;refine .cV (Z91 q2) V (.m1 (.tup [(.agg [(vi x2.1.From),(vi x2.1.To)]),(vb x2.2)]) V V (.xV V (.xV V (.alc (cs:=[(vi 0),(vi 0)]) H V V fun σ H => (.sV [(vi x2.1.From),(vi x2.1.To)] H 0 V fun σ H => (.aV V (.na H fun H => (.then ?_))))))));refine .tR 2 V H fun b7 σ H => (.mV V (.tV V (.na H fun H => ?_)));refine .wh h V ?_ ?_ <;> intro h
     ·refine .exit ?_;obtain rfl:=sj h;exact (.inr ⟨_,V,V,EI V,(H.erase 0)⟩)
     refine .skip (.then (.Z0P 13 V (by kernel_rfl) H fun b8 σ H B8 => (.ZN H 1 V V V V V (so (B8 1 _ V _ V)) V (.ld (.v (.fn 114)) H 1 V V V V V (so (B8 1 _ V _ V)) V (.Z2N (cs:=[(vi x2.1.From),(vi x2.1.To)]) H 0 V V V V V V V (so (B8 0 _ V _ V)) V (.mV V (.ZN H 2 V V V V V (so (B8 2 _ V _ V)) V (.ld (vi f.Period) H 2 V V V V V (so (B8 2 _ V _ V)) V ?_))))))));obtain ⟨x3,q3,h⟩:=bs h;refine .callF (ys:=[(.agg [(vi x2.1.From),(vi x2.1.To)]),(vi t),(vi f.Period)]) (r:=(vi x3)) V V (find_up_1_fn q3) V (.ZN H 2 V V V V V (so (B8 2 _ V _ V)) V (.ld (vi f.Count) H 2 V V V V V (so (B8 2 _ V _ V)) V (.iV V (.mV V (.iV V (.aV V (.na H fun H => (.tR 11 V H fun b9 σ H => ?_))))))));refine .mV V (.tV V (.mV V ?_));refine .md H 8 [(52,(vb ((!s1.2.1) || (decide ((w64 ((w64 ((w64 ((w64 (x3 * f.Count)) + s1.2.2)) - s1.1)) * 1)) < 0))))),(1,(vi t)),(3,(.ptr (b1 + 0) 4 0)),(5,(.ptr (b1 + 1) 4 0)),(8,(vi s1.1)),(9,(vb s1.2.1)),(14,(vi (w64 ((w64 (x3 * f.Count)) + s1.2.2)))),(16,(vl (cL Span.cs) f.Core)),(17,(vi (f.Core.length:Int))),(18,(vi s1.2.2))] [.blk (b1 + 1) 136 [(vi 1),(.v (.fn 60)),(.v (.fn 114)),(.v (.fn 115))],.blk (b1 + 0) 25 (vF f)] rfl ?_ fun e σ H => ?_
     ·refine .split V V ?_ ?_ <;> intro hc3
      ·refine .ps 7 V (.kT V (.nil ?_));exact ⟨⟨or_T hc3,V,V,V,V,V,V,V,V,V,U⟩,(H.erase 0).wk (by omega)⟩
      ·refine .mV V (.mV V (.iV V (.fV H 1 V (.lV H 1 V (.iV V (.iV V (.kF V (.nil ?_))))))));exact ⟨⟨or_F hc3,V,V,V,V,V,V,V,V,V,U⟩,(H.erase 0).wk (by omega)⟩
     refine .na H fun H => ?_;refine .wh h V ?_ ?_ <;> intro h
     ·refine .ZJ 3 V H fun b10 σ H => (.mV V (.aV V (.aV V (.na H fun H => ?_))));obtain rfl:=sj h;exact (.inl ⟨_,V,V,EI V,H⟩)
     refine .skip ?_;obtain rfl:=sj h;exact (.inl ⟨_,V,V,EI V,H⟩)
    ·rintro x e σ (⟨a3,rfl,rfl,he,H⟩ | ⟨a4,rfl,rfl,he,H⟩)
     ·replace h:=jgo h;obtain ⟨e,rfl⟩:=he.ex;obtain rfl:=sj h;exact ⟨V,EI V,H⟩
     ·replace h:=jret h;obtain ⟨e,rfl⟩:=he.ex;obtain rfl:=sj h;exact ⟨V,EI V,H⟩
   refine .ZJ 2 V H fun b11 σ H => (.iV V (.mV V (.na H fun H => ?_)));obtain rfl:=sj h;exact ⟨V,EI V,H⟩
  refine .exit ?_;obtain rfl:=sj h;exact ⟨nofun,⟨V,EI V,((H.erase 1).erase 0)⟩⟩
 refine .tR 4 V H fun b12 σ H => (.mV V (.mV V (.aV V (.aV V (.na H fun H => (.ret ?_))))));obtain rfl:=sj h;exact Ends.eR V
theorem Z32 {f:Form} {t:Int} {r:Int × Bool} (h:Z1 f t = some r):Fn CX 112 [(.agg (vs (Form.cs f))),(vi t),(.agg [(vi 1),(.v (.fn 60)),(.v (.fn 114)),(.v (.fn 115))])] (.tup [(vi r.1),(vb r.2)]):=by
 refine Fn.go Try.func112 V fun σ H => ?_;unfold Z1 at h;refine .tR 4 V H fun b1 σ H => (.bxc (cs:=(vF f)) H V V V fun σ H => (.bxc (cs:=[(vi 1),(.v (.fn 60)),(.v (.fn 114)),(.v (.fn 115))]) H V V V fun σ H => (.aV V (.aV V (.na H fun H => (.tR 9 V H fun b2 σ H => (.fV H 1 V (.lV H 1 V ?_))))))));refine .fV H 1 V (.lV H 1 V (.fV H 1 V (.lV H 1 V (.bV [(vi f.Period),(vi f.Count),(vl (cL Span.cs) f.Core),.nils] V (.alc (cs:=[(vi 0),(vi 0),.nils,.nils]) H V V fun σ H => (.sV [(vi f.Period),(vi f.Count),(vl (cL Span.cs) f.Core),.nils] H 0 V fun σ H => (.na H fun H => (.tR 9 V H fun b3 σ H => ?_))))))));refine .LV (vF f) H 2 V (.mV V (.LV [(vi 1),(.v (.fn 60)),(.v (.fn 114)),(.v (.fn 115))] H 1 V ?_));obtain ⟨x1,q1,h⟩:=bs h;refine .cV (Z33 q1) V (.m1 (.tup [(vi x1.1),(vb x1.2)]) V V (.xV V (.xV V (.aV V (.aV V (.na H fun H => (.then (.tR 2 V H fun b4 σ H => ?_))))))));refine .mV V (.tV V (.na H fun H => ?_));refine .wh h V ?_ ?_ <;> intro h
 ·refine .tR 2 V H fun b5 σ H => (.aV V (.aV V (.na H fun H => (.ret ?_))));obtain rfl:=sj h;exact Ends.eR V
 refine .skip (.tR 2 V H fun b6 σ H => (.makeMapH H (by omega) (by omega) V V fun σ H => (.a1 (.mp (b6 + 0)) V V (.na H fun H => (.then (.tR 4 V H fun b7 σ H => (.fV H 3 V (.lV H 3 V ?_))))))));refine .nV V (.mV V (.na H fun H => (.inBlock ?_)));refine .lp h (fun s1 => [(5,(.ptr (b1 + 1) 4 0)),(8,(.ptr (b2 + 7) 4 0)),(9,(vi x1.1)),(11,(.mp (b6 + 0))),(35,(vl Granule.cs f.Odd)),(36,(vi (f.Odd.length:Int))),(37,(vi s1.1))]) (fun s1 => [.mp (b6 + 0) s1.2,.blk (b2 + 7) 25 [(vi f.Period),(vi f.Count),(vl (cL Span.cs) f.Core),.nils],.blk (b1 + 1) 136 [(vi 1),(.v (.fn 60)),(.v (.fn 114)),(.v (.fn 115))]]) (.exit 0) (fun y1 => [(5,(.ptr (b1 + 1) 4 0)),(8,(.ptr (b2 + 7) 4 0)),(9,(vi x1.1)),(11,(.mp (b6 + 0)))]) (fun y1 => [.mp (b6 + 0) y1,.blk (b2 + 7) 25 [(vi f.Period),(vi f.Count),(vl (cL Span.cs) f.Core),.nils],.blk (b1 + 1) 136 [(vi 1),(.v (.fn 60)),(.v (.fn 114)),(.v (.fn 115))]]) (EI V) (H.erase 3) (fun s1 e σ H z h => ?_) fun y1 e σ H h => ?_
 ·unfold Z1.s0 at h;refine .tR 1 V H fun b8 σ H => (.iV V (.na H fun H => (.then ?_)));refine .wh h V ?_ ?_ <;> intro h
  ·refine .skip (.then (.inBlock (.tR 4 V H fun b9 σ H => ?_)));obtain ⟨x2,q2,h⟩:=bs h;refine .jV q2 V (.qV [(.int .i64 x2.Index),(.sl (x2.Ticks.map Span.cs))] V (.alc (cs:=[(vi 0),.nils]) H V V fun σ H => (.sV [(vi x2.Index),(vl Span.cs x2.Ticks)] H 0 V fun σ H => (.na H fun H => (.ZJ 6 V H fun b10 σ H => (.m1 (.mp (b6 + 0)) V V (.fV H 0 V (.lV H 0 V ?_))))))));refine .lookupH (a:=x2.Index) H 1 V V V V V (.iV V (.mapUpdateH (a:=x2.Index) (b:=(w64 ((mget s1.2 x2.Index) + 1))) H 1 V V V V V fun σ H => (.na H fun H => (.ZJ 2 V H fun b11 σ H => (.iV V (.mV V (.na H fun H => ?_)))))));obtain rfl:=sj h;exact ⟨V,EI V,(H.erase 0)⟩
  refine .exit ?_;obtain rfl:=sj h;exact ⟨nofun,⟨V,EI V,H⟩⟩
 refine .tR 1 V H fun b12 σ H => (.aV V (.na H fun H => (.then (.tR 13 V H fun b13 σ H => (.fV H 2 V (.lV H 2 V (.LV [(vi f.Period),(vi f.Count),(vl (cL Span.cs) f.Core),.nils] H 1 V (.mV V ?_))))))));refine .fV H 2 V (.lV H 2 V (.iV V ?_));obtain ⟨x3,q3,h⟩:=bs h;refine .callFX (xs:=[(.agg [(vi f.Period),(vi f.Count),(vl (cL Span.cs) f.Core),.nils]),(vi (w64 (x1.1 - 1)))]) (ys:=[(.agg (vs (Form.cs (Form.mk f.Period f.Count f.Core [])))),(vi (w64 (x1.1 - 1)))]) H V V (.cons (.a (.cons (.v _) (.cons (.v _) (.cons (.v _) (.cons (.n) .nil))))) (.cons (.c (.v _)) .nil)) (Z5l q3) V V nofun V fun σ H => (.m1 (.tup [(vi x3.1),(vb x3.2)]) V V (.xV V (.xV V (.aV V (.aV V (.na H fun H => (.inBlock ?_)))))));obtain ⟨y2,hj2,h⟩:=bs h;obtain ⟨n2,hj2⟩:=ZR.1 hj2;refine .mono (Runs.loopO hj2 (fun s2 e σ => ZE e [(5,(.ptr (b1 + 1) 4 0)),(8,(.ptr (b2 + 7) 4 0)),(9,(vi s2.1)),(10,(vb s2.2.1)),(11,(.mp (b6 + 0))),(14,(vi s2.2.2))]∧Hs σ [.mp (b6 + 0) y1,.blk (b2 + 7) 25 [(vi f.Period),(vi f.Count),(vl (cL Span.cs) f.Core),.nils],.blk (b1 + 1) 136 [(vi 1),(.v (.fn 60)),(.v (.fn 114)),(.v (.fn 115))]]) (fun y2 x e σ => (∃ a1,y2 = (.go a1)∧x = .exit 2∧ZE e []∧Hs σ [])∨(∃ r',y2 = (.ret r')∧x = .ret∧Ends CX Try.f112.results.toList (.tup [(vi r'.1),(vb r'.2)]) x e σ)) ⟨EI V,H⟩ ?_) ?_
 ·intro s2 e σ hI z h;obtain ⟨he,H⟩:=hI;obtain ⟨e,rfl⟩:=he.ex;unfold Z1.s1 at h;refine .then (.tR 5 V H fun b14 σ H => (.mV V (.mV V ?_)));refine .md H 3 [(62,(vb (s2.2.1 && (decide (s2.2.2 < 2))))),(5,(.ptr (b1 + 1) 4 0)),(8,(.ptr (b2 + 7) 4 0)),(9,(vi s2.1)),(11,(.mp (b6 + 0))),(14,(vi s2.2.2))] [.mp (b6 + 0) y1,.blk (b2 + 7) 25 [(vi f.Period),(vi f.Count),(vl (cL Span.cs) f.Core),.nils],.blk (b1 + 1) 136 [(vi 1),(.v (.fn 60)),(.v (.fn 114)),(.v (.fn 115))]] V ?_ fun e σ H => ?_
  ·refine .split V V ?_ ?_ <;> intro hc3
   ·refine .mV V (.iV V (.kT V (.nil ?_)));exact ⟨⟨Z3C hc3,V,V,V,V,V,U⟩,H.wk (by omega)⟩
   ·refine .ps 2 V (.kF V (.nil ?_));exact ⟨⟨Z3B hc3,V,V,V,V,V,U⟩,H.wk (by omega)⟩
  refine .na H fun H => ?_;refine .wh h V ?_ ?_ <;> intro h
  ·refine .skip (.then ?_);obtain ⟨y3,hj3,h⟩:=bs h;refine .mono (Q:=fun x e σ => (∃ a2,y3 = (.go a2)∧x = .normal∧ZE e [(5,(.ptr (b1 + 1) 4 0)),(8,(.ptr (b2 + 7) 4 0)),(9,(vi s2.1)),(11,(.mp (b6 + 0))),(14,(vi a2))]∧Hs σ [.mp (b6 + 0) y1,.blk (b2 + 7) 25 [(vi f.Period),(vi f.Count),(vl (cL Span.cs) f.Core),.nils],.blk (b1 + 1) 136 [(vi 1),(.v (.fn 60)),(.v (.fn 114)),(.v (.fn 115))]])∨(∃ r',y3 = (.ret r')∧x = .ret∧Ends CX Try.f112.results.toList (.tup [(vi r'.1),(vb r'.2)]) x e σ)) ?_ ?_
   ·replace h:=hj3;refine .inBlock ?_;obtain ⟨y4,hj4,h⟩:=bs h;refine .mono (Q:=fun x e σ => (∃ a3,y4 = (.go a3)∧x = .normal∧ZE e [(5,(.ptr (b1 + 1) 4 0)),(8,(.ptr (b2 + 7) 4 0)),(9,(vi s2.1)),(11,(.mp (b6 + 0))),(14,(vi a3))]∧Hs σ [.mp (b6 + 0) y1,.blk (b2 + 7) 25 [(vi f.Period),(vi f.Count),(vl (cL Span.cs) f.Core),.nils],.blk (b1 + 1) 136 [(vi 1),(.v (.fn 60)),(.v (.fn 114)),(.v (.fn 115))]])∨(∃ r',y4 = (.ret r')∧x = .ret∧Ends CX Try.f112.results.toList (.tup [(vi r'.1),(vb r'.2)]) x e σ)) ?_ ?_
    ·replace h:=hj4;refine .tR 8 V H fun b15 σ H => (.LV [(vi f.Period),(vi f.Count),(vl (cL Span.cs) f.Core),.nils] H 1 V (.mV V ?_));obtain ⟨x4,q4,h⟩:=bs h;refine .callX (xs:=[(.agg [(vi f.Period),(vi f.Count),(vl (cL Span.cs) f.Core),.nils]),(vi s2.1)]) (ys:=[(.agg (vs (Form.cs (Form.mk f.Period f.Count f.Core [])))),(vi s2.1)]) H V (.cons (.a (.cons (.v _) (.cons (.v _) (.cons (.v _) (.cons (.n) .nil))))) (.cons (.c (.v _)) .nil)) (Z2U q4) V V nofun V fun σ H => (.m1 (.tup [(vl Span.cs x4.1),(vi x4.2)]) V V (.xV V (.xV V (.aV V (.aV V (.na H fun H => (.tR 2 V H fun b16 σ H => (.mV V ?_))))))));refine .iV V (.na H fun H => ?_);refine .wh h V ?_ ?_ <;> intro h
     ·refine .ZJ 3 V H fun b17 σ H => (.mV V (.iV V (.aV V (.na H fun H => ?_))));obtain rfl:=sj h;exact (.inl ⟨_,V,V,EI V,H⟩)
     refine .tR 4 V H fun b18 σ H => (.m1 (.mp (b6 + 0)) V V (.mV V (.lookupH (a:=s2.1) H 0 V V V V V (.iV V (.na H fun H => ?_)))));refine .wh h V ?_ ?_ <;> intro h
     ·refine .tR 3 V H fun b19 σ H => (.mV V (.aV V (.aV V (.na H fun H => (.ret ?_)))));obtain rfl:=sj h;exact (.inr ⟨_,V,V,(Ends.H (xs:=[(vi s2.1),(vb true)]) (.inr V) H (.tmp (v:=(vi s2.1)) V (.tmp (v:=(vb true)) V .nil)) (.two (.cons (.c (.v _)) (.cons (.c (.v _)) .nil))))⟩)
     refine .skip ?_;obtain rfl:=sj h;exact (.inl ⟨_,V,V,EI V,H⟩)
    ·rintro x e σ (⟨a4,rfl,rfl,he,H⟩ | ⟨r',rfl,rfl,hE⟩)
     ·replace h:=jgo h;obtain ⟨e,rfl⟩:=he.ex;obtain rfl:=sj h;exact (.inl ⟨_,V,V,EI V,H⟩)
     ·replace h:=jret h;obtain rfl:=sj h;exact (.inr ⟨_,V,V,hE⟩)
   ·rintro x e σ (⟨a5,rfl,rfl,he,H⟩ | ⟨r',rfl,rfl,hE⟩)
    ·replace h:=jgo h;obtain ⟨e,rfl⟩:=he.ex;refine .ZJ 10 V H fun b20 σ H => (.fV H 2 V (.lV H 2 V (.LV [(vi f.Period),(vi f.Count),(vl (cL Span.cs) f.Core),.nils] H 1 V (.mV V ?_))));obtain ⟨x5,q5,h⟩:=bs h;refine .callFX (xs:=[(.agg [(vi f.Period),(vi f.Count),(vl (cL Span.cs) f.Core),.nils]),(vi s2.1)]) (ys:=[(.agg (vs (Form.cs (Form.mk f.Period f.Count f.Core [])))),(vi s2.1)]) H V V (.cons (.a (.cons (.v _) (.cons (.v _) (.cons (.v _) (.cons (.n) .nil))))) (.cons (.c (.v _)) .nil)) (Z5l q5) V V nofun V fun σ H => (.m1 (.tup [(vi x5.1),(vb x5.2)]) V V (.xV V (.xV V (.aV V (.aV V (.na H fun H => ?_))))));obtain rfl:=sj h;exact ⟨V,EI V,H⟩
    ·replace h:=jret h;obtain rfl:=sj h;exact ⟨nofun,(.inr ⟨_,V,V,hE⟩)⟩
  refine .exit ?_;obtain rfl:=sj h;exact ⟨nofun,(.inl ⟨_,V,V,U,(((H.erase 2).erase 1).erase 0)⟩)⟩
 ·rintro x e σ (⟨a6,rfl,rfl,he,H⟩ | ⟨r',rfl,rfl,hE⟩)
  ·replace h:=jgo h;obtain ⟨e,rfl⟩:=he.ex;refine .tR 2 V H fun b21 σ H => (.aV V (.aV V (.na H fun H => (.ret ?_))));obtain rfl:=sj h;exact Ends.eR V
  ·replace h:=jret h;obtain rfl:=sj h;exact hE
theorem find_up_2_fn {h':Span} {t:Int} {r:Bool} (h:Z4T h' t = r):Fn CX 115 [(.agg (vs (Span.cs h'))),(vi t)] (vb r):=by
 refine Fn.go Try.func115 V fun σ H => ?_;unfold Z4T at h;refine .tR 2 V H fun b1 σ H => (.bxc (cs:=[(vi h'.From),(vi h'.To)]) H V V V fun σ H => (.aV V (.na H fun H => (.tR 5 V H fun b2 σ H => (.fV H 0 V (.lV H 0 V (.mV V (.iV V ?_))))))));refine .aV V (.na H fun H => (.ret ?_));subst h;exact Ends.eR V
theorem Z2l {f:Form} {t:Int} {r:Int × Bool} (h:Z8 f t = some r):Fn CX 107 [(.agg (vs (Form.cs f))),(vi t),(.agg [(vi 1),(.v (.fn 60)),(.v (.fn 114)),(.v (.fn 115))])] (.tup [(vi r.1),(vb r.2)]):=by
 refine Fn.go Try.func107 V fun σ H => ?_;unfold Z8 at h;refine .tR 4 V H fun b1 σ H => (.bxc (cs:=(vF f)) H V V V fun σ H => (.bxc (cs:=[(vi 1),(.v (.fn 60)),(.v (.fn 114)),(.v (.fn 115))]) H V V V fun σ H => (.aV V (.aV V (.na H fun H => (.tR 4 V H fun b2 σ H => (.mV V (.min2 V V V ?_))))))));refine .max2 V V V (.aV V (.na H fun H => (.tR 9 V H fun b3 σ H => (.LV (vF f) H 1 V (.mV V (.LV [(vi 1),(.v (.fn 60)),(.v (.fn 114)),(.v (.fn 115))] H 0 V ?_))))));obtain ⟨x1,q1,h⟩:=bs h;refine .cV (Z32 q1) V (.m1 (.tup [(vi x1.1),(vb x1.2)]) V V (.xV V (.xV V (.aV V (.aV V (.na H fun H => (.then (.tR 4 V H fun b4 σ H => ?_))))))));refine .fV H 1 V (.lV H 1 V (.nV V (.mV V (.na H fun H => (.inBlock ?_)))));refine .lp h (fun s1 => [(1,(vi (iMax (iMin t 1099511627777) (-1099511627777)))),(5,(.ptr (b1 + 1) 4 0)),(8,(vi s1.1)),(9,(vb s1.2.1)),(25,(vl Granule.cs f.Odd)),(26,(vi (f.Odd.length:Int))),(27,(vi s1.2.2))]) (fun s1 => [.blk (b1 + 1) 136 [(vi 1),(.v (.fn 60)),(.v (.fn 114)),(.v (.fn 115))]]) (.exit 0) (fun y1 => [(8,(vi y1.1)),(9,(vb y1.2))]) (fun y1 => []) (EI V) (H.erase 1) (fun s1 e σ H z h => ?_) fun y1 e σ H h => ?_
 ·unfold Z8.s0 at h;refine .tR 1 V H fun b5 σ H => (.iV V (.na H fun H => (.then ?_)));refine .wh h V ?_ ?_ <;> intro h
  ·refine .skip (.then ?_);refine .jn h .normal (fun y2 => [(1,(vi (iMax (iMin t 1099511627777) (-1099511627777)))),(5,(.ptr (b1 + 1) 4 0)),(8,(vi y2.1)),(9,(vb y2.2)),(25,(vl Granule.cs f.Odd)),(26,(vi (f.Odd.length:Int))),(27,(vi s1.2.2))]) (fun y2 => [.blk (b1 + 1) 136 [(vi 1),(.v (.fn 60)),(.v (.fn 114)),(.v (.fn 115))]]) (fun y2 h => ?_) fun y2 e σ H h => ?_
   ·refine .inBlock ?_;refine .jn h .normal (fun y3 => [(1,(vi (iMax (iMin t 1099511627777) (-1099511627777)))),(5,(.ptr (b1 + 1) 4 0)),(8,(vi y3.1)),(9,(vb y3.2)),(25,(vl Granule.cs f.Odd)),(26,(vi (f.Odd.length:Int))),(27,(vi s1.2.2))]) (fun y3 => [.blk (b1 + 1) 136 [(vi 1),(.v (.fn 60)),(.v (.fn 114)),(.v (.fn 115))]]) (fun y3 h => ?_) fun y3 e σ H h => ?_
    ·refine .tR 4 V H fun b6 σ H => ?_;obtain ⟨x2,q2,h⟩:=bs h;refine .jV q2 V (.qV [(.int .i64 x2.Index),(.sl (x2.Ticks.map Span.cs))] V (.alc (cs:=[(vi 0),.nils]) H V V fun σ H => (.sV [(vi x2.Index),(vl Span.cs x2.Ticks)] H 0 V fun σ H => (.na H fun H => (.tR 9 V H fun b7 σ H => (.fV H 0 V (.lV H 0 V ?_)))))));obtain ⟨x3,q3,h⟩:=bs h;refine .cV (Z91 q3) V (.m1 (.tup [(.agg [(vi x3.1.From),(vi x3.1.To)]),(vb x3.2)]) V V (.xV V (.xV V (.alc (cs:=[(vi 0),(vi 0)]) H V V fun σ H => (.sV [(vi x3.1.From),(vi x3.1.To)] H 0 V fun σ H => (.aV V (.na H fun H => (.tR 22 V H fun b8 σ H => ?_))))))));refine .mV V (.mV V ?_);refine .md H 6 [(44,(vb (x3.2 && (Z4T x3.1 (iMax (iMin t 1099511627777) (-1099511627777)))))),(1,(vi (iMax (iMin t 1099511627777) (-1099511627777)))),(5,(.ptr (b1 + 1) 4 0)),(8,(vi s1.1)),(9,(vb s1.2.1)),(11,(.ptr (b6 + 2) 2 0)),(25,(vl Granule.cs f.Odd)),(26,(vi (f.Odd.length:Int))),(27,(vi s1.2.2))] [.blk (b6 + 2) 61 [(vi x2.Index),(vl Span.cs x2.Ticks)],.blk (b1 + 1) 136 [(vi 1),(.v (.fn 60)),(.v (.fn 114)),(.v (.fn 115))]] V ?_ fun e σ H => ?_
     ·refine .split V V ?_ ?_ <;> intro hc2
      ·refine .fV H 2 V (.lV H 2 V (.LV [(vi x3.1.From),(vi x3.1.To)] H 0 V (.mV V (.wt V V (.callF (ys:=[(.agg [(vi x3.1.From),(vi x3.1.To)]),(vi (iMax (iMin t 1099511627777) (-1099511627777)))]) (r:=(vb (Z4T x3.1 (iMax (iMin t 1099511627777) (-1099511627777))))) V V (find_up_2_fn (V:Z4T x3.1 (iMax (iMin t 1099511627777) (-1099511627777)) = _)) V (.kT V (.nil ?_)))))));exact ⟨⟨Z3C hc2,V,V,V,V,V,V,V,V,U⟩,(H.erase 0).wk (by omega)⟩
      ·refine .ps 5 V (.kF V (.nil ?_));exact ⟨⟨Z3B hc2,V,V,V,V,V,V,V,V,U⟩,(H.erase 0).wk (by omega)⟩
     refine .mV V ?_;refine .md H 13 [(58,(vb ((x3.2 && (Z4T x3.1 (iMax (iMin t 1099511627777) (-1099511627777)))) && ((!s1.2.1) || (decide ((w64 ((w64 (x2.Index - s1.1)) * 1)) < 0)))))),(1,(vi (iMax (iMin t 1099511627777) (-1099511627777)))),(5,(.ptr (b1 + 1) 4 0)),(8,(vi s1.1)),(9,(vb s1.2.1)),(11,(.ptr (b6 + 2) 2 0)),(25,(vl Granule.cs f.Odd)),(26,(vi (f.Odd.length:Int))),(27,(vi s1.2.2))] [.blk (b6 + 2) 61 [(vi x2.Index),(vl Span.cs x2.Ticks)],.blk (b1 + 1) 136 [(vi 1),(.v (.fn 60)),(.v (.fn 114)),(.v (.fn 115))]] rfl ?_ fun e σ H => ?_
     ·refine .split V V ?_ ?_ <;> intro hc3
      ·refine .mV V (.tV V (.mV V ?_));refine .md H 9 [(57,(vb ((!s1.2.1) || (decide ((w64 ((w64 (x2.Index - s1.1)) * 1)) < 0))))),(1,(vi (iMax (iMin t 1099511627777) (-1099511627777)))),(5,(.ptr (b1 + 1) 4 0)),(8,(vi s1.1)),(9,(vb s1.2.1)),(11,(.ptr (b6 + 2) 2 0)),(25,(vl Granule.cs f.Odd)),(26,(vi (f.Odd.length:Int))),(27,(vi s1.2.2)),(45,(vb true))] [.blk (b6 + 2) 61 [(vi x2.Index),(vl Span.cs x2.Ticks)],.blk (b1 + 1) 136 [(vi 1),(.v (.fn 60)),(.v (.fn 114)),(.v (.fn 115))]] rfl ?_ fun e σ H => ?_
       ·refine .split V V ?_ ?_ <;> intro hc4
        ·refine .ps 8 V (.kT V (.nil ?_));exact ⟨⟨or_T hc4,V,V,V,V,V,V,V,V,V,U⟩,H.wk (by omega)⟩
        ·refine .fV H 0 V (.lV H 0 V (.mV V (.iV V (.fV H 1 V (.lV H 1 V (.iV V (.iV V (.kF V ?_))))))));refine .nil ?_;exact ⟨⟨or_F hc4,V,V,V,V,V,V,V,V,V,U⟩,H.wk (by omega)⟩
       refine .kT V (.nil ?_);exact ⟨⟨Z3C hc3,V,V,V,V,V,V,V,V,U⟩,H.wk (by omega)⟩
      ·refine .ps 12 V (.kF V (.nil ?_));exact ⟨⟨Z3B hc3,V,V,V,V,V,V,V,V,U⟩,H.wk (by omega)⟩
     refine .na H fun H => ?_;refine .wh h V ?_ ?_ <;> intro h
     ·refine .ZJ 4 V H fun b9 σ H => (.fV H 0 V (.lV H 0 V (.aV V (.aV V (.na H fun H => ?_)))));obtain rfl:=sj h;exact ⟨V,EI V,(H.erase 0)⟩
     refine .skip ?_;obtain rfl:=sj h;exact ⟨V,EI V,(H.erase 0)⟩
    obtain rfl:=sj h;exact ⟨V,EI V,H⟩
   refine .ZJ 2 V H fun b10 σ H => (.iV V (.mV V (.na H fun H => ?_)));obtain rfl:=sj h;exact ⟨V,EI V,H⟩
  refine .exit ?_;obtain rfl:=sj h;exact ⟨nofun,⟨V,EI V,(H.erase 0)⟩⟩
 refine .tR 4 V H fun b11 σ H => (.mV V (.mV V (.aV V (.aV V (.na H fun H => (.ret ?_))))));obtain rfl:=sj h;exact Ends.eR V
theorem find_From_fn {f:Form} {t:Int} {r:Int × Bool} (h:Z5W f t = some r):Fn CX 96 [(.agg (vs (Form.cs f))),(vi t)] (.tup [(vi r.1),(vb r.2)]):=by
 refine Fn.go Try.func96 V fun σ H => ?_;unfold Z5W at h;refine .tR 3 V H fun b1 σ H => (.bxc (cs:=(vF f)) H V V V fun σ H => (.aV V (.aV V (.na H fun H => (.then (.Z0P 8 V (by kernel_rfl) H fun b2 σ H B2 => (.Z2N (cs:=(vF f)) H 0 V V V V V V V (so (B2 0 _ V _ V)) V (.mV V ?_))))))));refine .cV (find_up_fn V) V ?_;obtain ⟨x1,q1,h⟩:=bs h;refine .cV (Z2l q1) V (.xV V (.xV V (.aV V (.aV V (.na H fun H => (.ret ?_))))));obtain rfl:=sj h;exact Ends.eR V
theorem Z2i {x':(List Span)} {target:Int} {cmp:Span→Int→Option Int} {C:List Res} {cv0:PV} (hs0:cv0.one = true) (hp0:cv0.pure = true→C = []) (hf0:∀ z0 z1 y,cmp z0 z1 = some y→CloH CX cv0 [(.agg (vs (Span.cs z0))),(vi z1)] (vi y) C) {r:Int × Bool} (h:Z4 x' target cmp = some r):FnH CX 109 [(vl Span.cs x'),(vi target),cv0] (.tup [(vi r.1),(vb r.2)]) C:=by
 refine FnH.of Try.func109 V V V V (Z5J V (Z5J V (Z5J (Z5Y hs0) all_nil))) V (fun h => hp0 (Z4s h 2 V)) ?_;intro σ L hC H;unfold Z4 at h;refine .tR 2 V H fun b1 σ H => (.aV V (.aV V (.na H fun H => (.tR 3 V H fun b2 σ H => (.mV V (.nV V (.aV V (.na H fun H => ?_))))))));refine .tR 3 V H fun b3 σ H => (.mV V (.aV V (.aV V (.na H fun H => (.then (.inBlock ?_))))));refine .lp h (fun s1 => [(0,(vl Span.cs x')),(1,(vi target)),(2,cv0),(8,(vi (x'.length:Int))),(9,(vi s1.1)),(10,(vi s1.2))]) (fun s1 => (L)) (.exit 0) (fun y1 => [(0,(vl Span.cs x')),(1,(vi target)),(2,cv0),(8,(vi (x'.length:Int))),(9,(vi y1))]) (fun y1 => (L)) (EI V) H (fun s1 e σ H z h => ?_) fun y1 e σ H h => ?_
 ·unfold Z4.s0 at h;refine .then (.tR 3 V H fun b4 σ H => (.mV V (.mV V (.iV V (.na H fun H => ?_)))));refine .wh h V ?_ ?_ <;> intro h
  ·refine .skip (.inBlock ?_);refine .jn h .normal (fun y2 => [(0,(vl Span.cs x')),(1,(vi target)),(2,cv0),(8,(vi (x'.length:Int))),(9,(vi y2.1)),(10,(vi y2.2))]) (fun y2 => (L)) (fun y2 h => ?_) fun y2 e σ H h => ?_
   ·refine .tR 7 V H fun b5 σ H => (.mV V (.mV V (.iV V (.conv (m:=(w64 (s1.1 + s1.2))) V V V V (.shr (m:=(IntKind.u64.wrap (w64 (s1.1 + s1.2)))) (m':=1) V V (by decide) V (.conv (m:=((IntKind.u64.wrap (w64 (s1.1 + s1.2))).fdiv (2 ^ 1))) V V V V (.aV V (.na H fun H => ?_))))))));refine .tR 8 V H fun b6 σ H => (.m1 cv0 V V (.mV V (.mV V ?_)));obtain ⟨x1,q1,h⟩:=bs h;refine .jV q1 V (.qV [(.int .i64 x1.From),(.int .i64 x1.To)] V (.mV V ?_));obtain ⟨x2,q2,h⟩:=bs h;refine .callV (cv:=cv0) (ys:=[(.agg (vs (Span.cs x1))),(vi target)]) (r:=(vi x2)) H V V (hf0 x1 target _ q2) hC nofun V fun σ H => (.iV V (.na H fun H => ?_));refine .wh h V ?_ ?_ <;> intro h
    ·refine .ZJ 3 V H fun b7 σ H => (.mV V (.iV V (.aV V (.na H fun H => ?_))));obtain rfl:=sj h;exact ⟨V,EI V,H⟩
    refine .ZJ 2 V H fun b8 σ H => (.mV V (.aV V (.na H fun H => ?_)));obtain rfl:=sj h;exact ⟨V,EI V,H⟩
   obtain rfl:=sj h;exact ⟨V,EI V,H⟩
  refine .exit ?_;obtain rfl:=sj h;exact ⟨nofun,⟨V,EI V,H⟩⟩
 refine .tR 16 V H fun b9 σ H => (.mV V (.mV V (.mV V (.iV V (.mV V ?_)))));obtain ⟨y3,hj3,h⟩:=bs h;refine .md H 9 [(48,(vb y3)),(35,(vi y1))] (L) V ?_ fun e σ H => ?_
 ·refine .sp hj3 V ?_ ?_ <;> intro h
  ·refine .m1 cv0 V V (.mV V (.mV V (.wt V V ?_)));obtain ⟨x3,q3,h⟩:=bs h;refine .jV q3 V (.qV [(.int .i64 x3.From),(.int .i64 x3.To)] V (.mV V (.wt V V ?_)));obtain ⟨x4,q4,h⟩:=bs h;refine .callV (cv:=cv0) (ys:=[(.agg (vs (Span.cs x3))),(vi target)]) (r:=(vi x4)) H V V (hf0 x3 target _ q4) hC nofun V fun σ H => (.iV V (.kT V (.nil ?_)));obtain rfl:=sj h;exact ⟨EI V,H.wk (by omega)⟩
  refine .ps 8 V (.kF V (.nil ?_));obtain rfl:=sj h;exact ⟨EI V,H.wk (by omega)⟩
 refine .aV V (.aV V (.na H fun H => (.ret ?_)));obtain rfl:=sj h;exact (EndsH.H (xs:=[(vi y1),(vb y3)]) (.inr V) H (.tmp (v:=(vi y1)) V (.tmp (v:=(vb y3)) V .nil)) (.two (.cons (.c (.v _)) (.cons (.c (.v _)) .nil))) 0 V)
theorem ZCs {s:Span} {t:Int} {r:Int} (h:Z20 s t = r):Fn CX 110 [(.agg (vs (Span.cs s))),(vi t)] (vi r):=by
 refine Fn.go Try.func110 V fun σ H => ?_;unfold Z20 at h;refine .tR 2 V H fun b1 σ H => (.bxc (cs:=[(vi s.From),(vi s.To)]) H V V V fun σ H => (.aV V (.na H fun H => (.then (.inBlock (.tR 5 V H fun b2 σ H => (.fV H 0 V (.lV H 0 V ?_))))))));refine .mV V (.iV V (.aV V (.na H fun H => ?_)));refine .wh h V ?_ ?_ <;> intro h
 ·refine .tR 1 V H fun b3 σ H => (.aV V (.na H fun H => (.ret ?_)));subst h;exact Ends.eR V
 refine .tR 5 V H fun b4 σ H => (.fV H 0 V (.lV H 0 V (.mV V (.iV V (.aV V (.na H fun H => ?_))))));refine .wh h V ?_ ?_ <;> intro h
 ·refine .tR 1 V H fun b5 σ H => (.aV V (.na H fun H => (.ret ?_)));subst h;exact Ends.eR V
 refine .skip (.tR 1 V H fun b6 σ H => (.aV V (.na H fun H => (.ret ?_))));subst h;exact Ends.eR V
theorem spans_Has_fn {l:(List Span)} {t:Int} {r:Bool} (h:Z4a l t = some r):Fn CX 97 [(vl Span.cs l),(vi t)] (vb r):=by
 refine Fn.go Try.func97 V fun σ H => ?_;unfold Z4a at h;refine .tR 1 V H fun b1 σ H => (.aV V (.na H fun H => (.tR 8 V H fun b2 σ H => (.mV V (.mV V ?_)))));obtain ⟨x1,q1,h⟩:=bs h;refine .callH (ys:=[(vl Span.cs l),(vi t),(.v (.fn 110))]) (r:=(.tup [(vi x1.1),(vb x1.2)])) H V (Z2i (C:=[]) V (fun _ => V) (fun z0 z1 y hz => (CloH.fn (Fn.toH (ZCs (Option.some.inj hz)) _))) q1) .nil nofun V fun σ H => (.m1 (.tup [(vi x1.1),(vb x1.2)]) V V (.xV V (.xV V (.aV V (.aV V (.na H fun H => (.tR 8 V H fun b3 σ H => (.mV V ?_))))))));refine .mV V ?_;refine .md H 5 [(19,(vb (x1.2 && (decide (x1.1 < (l.length:Int))))))] [] V ?_ fun e σ H => ?_
 ·refine .split V V ?_ ?_ <;> intro hc1
  ·refine .mV V (.mV V (.nV V (.iV V (.kT V (.nil ?_)))));exact ⟨⟨Z3C hc1,U⟩,H.wk (by omega)⟩
  ·refine .ps 4 V (.kF V (.nil ?_));exact ⟨⟨Z3B hc1,U⟩,H.wk (by omega)⟩
 refine .aV V (.na H fun H => (.ret ?_));obtain rfl:=sj h;exact Ends.eR V
theorem find_At_fn {f:Form} {t:Int} {r:Int × Bool} (h:Z4l f t = some r):Fn CX 82 [(.agg (vs (Form.cs f))),(vi t)] (.tup [(vi r.1),(vb r.2)]):=by
 refine Fn.go Try.func82 V fun σ H => ?_;unfold Z4l at h;refine .tR 3 V H fun b1 σ H => (.bxc (cs:=(vF f)) H V V V fun σ H => (.aV V (.aV V (.na H fun H => (.tR 8 V H fun b2 σ H => (.LV (vF f) H 0 V (.mV V ?_)))))));obtain ⟨x1,q1,h⟩:=bs h;refine .cV (find_From_fn q1) V (.m1 (.tup [(vi x1.1),(vb x1.2)]) V V (.xV V (.xV V (.aV V (.aV V (.na H fun H => (.then (.tR 2 V H fun b3 σ H => ?_))))))));refine .mV V (.tV V (.na H fun H => ?_));refine .wh h V ?_ ?_ <;> intro h
 ·refine .tR 2 V H fun b4 σ H => (.aV V (.aV V (.na H fun H => (.ret ?_))));obtain rfl:=sj h;exact Ends.eR V
 refine .skip (.tR 8 V H fun b5 σ H => (.LV (vF f) H 0 V (.mV V ?_)));obtain ⟨x2,q2,h⟩:=bs h;refine .cV (Z2U q2) V (.m1 (.tup [(vl Span.cs x2.1),(vi x2.2)]) V V (.xV V (.xV V (.aV V (.aV V (.na H fun H => (.then (.tR 4 V H fun b6 σ H => ?_))))))));refine .mV V (.mV V ?_);obtain ⟨x3,q3,h⟩:=bs h;refine .cV (spans_Has_fn q3) V (.tV V (.na H fun H => ?_));refine .wh h V ?_ ?_ <;> intro h
 ·refine .tR 2 V H fun b7 σ H => (.aV V (.aV V (.na H fun H => (.ret ?_))));obtain rfl:=sj h;exact Ends.eR V
 refine .skip (.tR 3 V H fun b8 σ H => (.mV V (.aV V (.aV V (.na H fun H => (.ret ?_))))));obtain rfl:=sj h;exact Ends.eR V
theorem ZAQ {S:Type} {p1':Int} {p2':Form} {p3':Form} {C:S→List Res→Prop} {yield:S→((List Span) × Int)→Option (S × Bool)} {yid:Nat} {id0':Nat} {id1':Nat} {id2':Nat} (hy:YldH CX yid C (fun z => [(vl Span.cs z.1),(vi z.2)]) yield) (hcap:∀ s L,C s L→Sub [.blk id0' 3 [(vi p1')],.blk id1' 25 (vF p2'),.blk id2' 25 (vF p3')] L) {st' r:S} (h:Z0D p1' p2' p3' yield st' = some r):ItF CX 81 [(.yld yid),(.ptr id0' 1 0),(.ptr id1' 4 0),(.ptr id2' 4 0)] C st' r:=by
 refine ItF.of Try.func81 V V V V V V V V ?_;intro σ L hC H;have hc0:=hcap _ _ hC;obtain ⟨k0',hk0',hc0⟩:=hc0.inv;obtain ⟨k1',hk1',hc0⟩:=hc0.inv;obtain ⟨k2',hk2',hc0⟩:=hc0.inv;unfold Z0D at h;refine .tR 2 V H fun b1 σ H => (.ld (vi p1') H k0' hk0' V V V V nofun V (.mV V (.na H fun H => (.inBlock ?_))));obtain ⟨y1,hj1,h⟩:=bs h;obtain ⟨n1,hj1⟩:=ZR.1 hj1;refine .mono (Runs.loopO hj1 (fun s1 e σ => ∃ (L:List Res),C s1.2 L∧ZE e [(0,(.yld yid)),(2,(.ptr id1' 4 0)),(3,(.ptr id2' 4 0)),(10,(vi p1')),(11,(vi s1.1))]∧Hs σ (L)) (fun y1 x e σ => (∃ a1,∃ (L:List Res),C a1 L∧y1 = (.go a1)∧x = .exit 0∧ZE e []∧Hs σ (L))∨(∃ r',y1 = (.ret r')∧x = .ret∧EndsI C r' x e σ)) ⟨_,hC,EI V,H⟩ ?_) ?_
 ·intro s1 e σ hI z h;obtain ⟨L,hC,he,H⟩:=hI;obtain ⟨e,rfl⟩:=he.ex;have hc0:=hcap _ _ hC;obtain ⟨k0',hk0',hc0⟩:=hc0.inv;obtain ⟨k1',hk1',hc0⟩:=hc0.inv;obtain ⟨k2',hk2',hc0⟩:=hc0.inv;unfold Z0D.s0 at h;refine .tR 1 V H fun b2 σ H => (.iV V (.na H fun H => (.then ?_)));refine .wh h V ?_ ?_ <;> intro h
  ·refine .skip (.then (.inBlock (.tR 2 V H fun b3 σ H => (.mV V (.aV V (.na H fun H => (.tR 8 V H fun b4 σ H => (.Z2N (cs:=(vF p2')) H k1' hk1' V V V V V V nofun V ?_))))))));refine .mV V ?_;obtain ⟨x1,q1,h⟩:=bs h;refine .cV (Z4p q1) V (.m1 (.tup [(vl Span.cs x1.1),(vi x1.2)]) V V (.xV V (.xV V (.aV V (.aV V (.na H fun H => (.then (.Z0P 11 V (by kernel_rfl) H fun b5 σ H B5 => ?_))))))));refine .Z2N (cs:=(vF p3')) H k2' hk2' V V V V V V (so (B5 (k2' + 0) _ hk2' _ V)) V (.mV V ?_);obtain ⟨x2,q2,h⟩:=bs h;refine .jV q2 V (.Z0B V V V V (.pV V ?_));obtain ⟨x3,q3,h⟩:=bs h;refine .cV (find_At_fn q3) V (.m1 (.tup [(vi x3.1),(vb x3.2)]) V V (.xV V (.xV V (.aV V (.aV V (.na H fun H => (.tR 9 V H fun b6 σ H => (.mV V ?_))))))));refine .tV V (.mV V ?_);obtain ⟨y2,hj2,h⟩:=bs h;refine .mid 6 (K1:=fun e σ => ∃ L,C y2.2 L∧ZE e [(37,(vb y2.1)),(0,(.yld yid)),(2,(.ptr id1' 4 0)),(3,(.ptr id2' 4 0)),(10,(vi p1')),(11,(vi s1.1))]∧Hs σ (L)) V ?_ ?_
   ·refine .sp hj2 V ?_ ?_ <;> intro h
    ·refine .ps 5 V (.kT V (.nil ?_));obtain rfl:=sj h;exact ⟨_,hC,EI V,H.all⟩
    refine .m1 (.yld yid) V V (.mV V (.mV V (.wt V V ?_)));obtain ⟨x4,q4,h⟩:=bs h;refine .callY (z:=(x1.1,x3.1)) (s':=x4.1) (b:=x4.2) [] H hC V V hy q4 V V fun σ L hC H => ?_;have hc0:=hcap _ _ hC;obtain ⟨k0',hk0',hc0⟩:=hc0.inv;obtain ⟨k1',hk1',hc0⟩:=hc0.inv;obtain ⟨k2',hk2',hc0⟩:=hc0.inv;refine .tV V (.kF V (.nil ?_));obtain rfl:=sj h;exact ⟨_,hC,EI V,H.all⟩
   ·rintro e σ ⟨L,hC,he,H⟩;obtain ⟨e,rfl⟩:=he.ex;have hc0:=hcap _ _ hC;obtain ⟨k0',hk0',hc0⟩:=hc0.inv;obtain ⟨k1',hk1',hc0⟩:=hc0.inv;obtain ⟨k2',hk2',hc0⟩:=hc0.inv;refine .na H fun H => ?_;refine .wh h V ?_ ?_ <;> intro h
    ·refine .ret ?_;obtain rfl:=sj h;exact ⟨nofun,(.inr ⟨_,V,V,(EndsI.H (.inr V) H 0 V hC)⟩)⟩
    refine .skip (.ZJ 2 V H fun b7 σ H => (.iV V (.mV V (.na H fun H => ?_))));obtain rfl:=sj h;exact ⟨V,_,hC,EI V,H⟩
  refine .exit ?_;obtain rfl:=sj h;exact ⟨nofun,(.inl ⟨_,_,hC,V,V,U,H⟩)⟩
 ·rintro x e σ (⟨a2,L,hC,rfl,rfl,he,H⟩ | ⟨r',rfl,rfl,hE⟩)
  ·replace h:=jgo h;obtain ⟨e,rfl⟩:=he.ex;have hc0:=hcap _ _ hC;obtain ⟨k0',hk0',hc0⟩:=hc0.inv;obtain ⟨k1',hk1',hc0⟩:=hc0.inv;obtain ⟨k2',hk2',hc0⟩:=hc0.inv;obtain rfl:=sj h;exact (EndsI.H (.inl V) H 0 V hC)
  ·replace h:=jret h;obtain rfl:=sj h;exact hE
theorem Z44 {f:Form} {from':Int} {to':Int} {r:(List Span) × Int} (h:Zo f from' to' = some r):Fn CX 51 [(.agg (vs (Form.cs f))),(vi from'),(vi to')] (.tup [(vl Span.cs r.1),(vi r.2)]):=by
 refine Fn.go Try.func51 V fun σ H => ?_;unfold Zo at h;refine .tR 3 V H fun b1 σ H => (.bxc (cs:=(vF f)) H V V V fun σ H => (.a1 .nils V V (.aV V (.na H fun H => (.tR 1 V H fun b2 σ H => (.a1 .nils V V (.na H fun H => (.then ?_))))))));refine .tR 2 V H fun b3 σ H => (.mV V (.aV V (.na H fun H => (.inBlock ?_))));replace H:=H.pushNil 59 2 true;obtain ⟨y1,hj1,h⟩:=bs h;obtain ⟨n1,hj1⟩:=ZR.1 hj1;refine .mono (Runs.loopO hj1 (fun s2 e σ => ∃ (w3:PV),ZE e [(2,(vi to')),(3,(.ptr (b1 + 0) 4 0)),(8,w3),(9,(vi s2.1))]∧Hs σ [.sl w3 59 2 (s2.2.map Span.cs) true,.blk (b1 + 0) 25 (vF f)]) (fun y1 x e σ => (∃ a1,∃ (w4:PV),y1 = (.go a1)∧x = .exit 0∧ZE e [(8,w4)]∧Hs σ [.sl w4 59 2 (a1.map Span.cs) true])∨(∃ r',y1 = (.ret r')∧x = .ret∧Ends CX Try.f51.results.toList (.tup [(vl Span.cs r'.1),(vi r'.2)]) x e σ)) ⟨.nils,EI V,H⟩ ?_) ?_
 ·intro s2 e σ hI z h;obtain ⟨w3,he,H⟩:=hI;obtain ⟨e,rfl⟩:=he.ex;unfold Zo.s0 at h;refine .then (.tR 3 V H fun b4 σ H => (.mV V (.mV V (.iV V (.na H fun H => ?_)))));refine .wh h V ?_ ?_ <;> intro h
  ·refine .skip (.then ?_);obtain ⟨y2,hj2,h⟩:=bs h;refine .mono (Q:=fun x e σ => (∃ a2,∃ (w5:PV),y2 = (.go a2)∧x = .normal∧ZE e [(2,(vi to')),(3,(.ptr (b1 + 0) 4 0)),(8,w5),(9,(vi s2.1))]∧Hs σ [.sl w5 59 2 (a2.map Span.cs) true,.blk (b1 + 0) 25 (vF f)])∨(∃ r',y2 = (.ret r')∧x = .ret∧Ends CX Try.f51.results.toList (.tup [(vl Span.cs r'.1),(vi r'.2)]) x e σ)) ?_ ?_
   ·replace h:=hj2;refine .inBlock ?_;obtain ⟨y3,hj3,h⟩:=bs h;refine .mono (Q:=fun x e σ => (∃ a3,∃ (w6:PV),y3 = (.go a3)∧x = .normal∧ZE e [(2,(vi to')),(3,(.ptr (b1 + 0) 4 0)),(8,w6),(9,(vi s2.1))]∧Hs σ [.sl w6 59 2 (a3.map Span.cs) true,.blk (b1 + 0) 25 (vF f)])∨(∃ r',y3 = (.ret r')∧x = .ret∧Ends CX Try.f51.results.toList (.tup [(vl Span.cs r'.1),(vi r'.2)]) x e σ)) ?_ ?_
    ·replace h:=hj3;refine .tR 8 V H fun b5 σ H => (.LV (vF f) H 1 V (.mV V ?_));obtain ⟨x1,q1,h⟩:=bs h;refine .cV (Z4p q1) V (.m1 (.tup [(vl Span.cs x1.1),(vi x1.2)]) V V (.xV V (.xV V (.aV V (.aV V (.na H fun H => (.then (.tR 2 V H fun b6 σ H => ?_))))))));refine .mV V (.iV V (.na H fun H => ?_));refine .wh h V ?_ ?_ <;> intro h
     ·refine .tR 2 V H fun b7 σ H => (.a1 .nils V V (.aV V (.na H fun H => (.ret ?_))));obtain rfl:=sj h;exact (.inr ⟨_,V,V,(Ends.H (xs:=[.nils,(vi 20)]) (.inr V) H (.tmp (v:=.nils) V (.tmp (v:=(vi 20)) V .nil)) (.two (.cons (.c .n) (.cons (.c (.v _)) .nil))))⟩)
     refine .skip (.then ?_);refine .jn h .normal (fun y4 => [(2,(vi to')),(3,(.ptr (b1 + 0) 4 0)),(8,w3),(9,(vi s2.1)),(10,(vl Span.cs y4.1))]) (fun y4 => [.sl w3 59 2 (y4.2.map Span.cs) true,.blk (b1 + 0) 25 (vF f)]) (fun y4 h => ?_) fun y4 e σ H h => ?_
     ·refine .tR 4 V H fun b8 σ H => (.m1 w3 V V (.Z8t (c:=Span.cs) (xs:=s2.2) H 0 V V V nofun V (.iV V (.aV V (.na H fun H => (.then (.Z0P 15 V (by kernel_rfl) H fun b9 σ H B9 => (.mV V ?_))))))));refine .iV V (.mV V ?_);obtain ⟨y5,hj5,h⟩:=bs h;refine .md H 12 [(44,(vb y5)),(2,(vi to')),(3,(.ptr (b1 + 0) 4 0)),(8,w3),(9,(vi s2.1)),(10,(vl Span.cs x1.1)),(12,(vi (w64 ((s2.2.length:Int) - 1))))] [.sl w3 59 2 (s2.2.map Span.cs) true,.blk (b1 + 0) 25 (vF f)] V ?_ fun e σ H => ?_
      ·refine .sp hj5 V ?_ ?_ <;> intro h
       ·refine .mV V (.wt V V ?_);obtain ⟨x2,q2,h⟩:=bs h;refine .jV q2 V (.wt V V (.Z0B V V V V (.pV V (.m1 w3 V V (.mV V (.wt V V ?_))))));obtain ⟨x3,q3,h⟩:=bs h;refine .Z5B H 0 V V V (at?_map q3) V V (fun _ id ho => .inl ⟨B9 0 _ V id ho,nofun,(fun _ => by kernel_rfl)⟩) V ?_;intro id1 hv1;refine .wt V V (.Z65 (id:=id1) H 0 V hv1 (by simp) V V V (fun _ => .inl ⟨B9 0 _ V _ (by rw [(hv1:(w3:PV) = _)];rfl),nofun,(fun _ => by kernel_rfl)⟩) V (.wt V V ?_));refine .loadS (id:=id1) (j:=1) (w:=(.int .i64 x3.To)) H 0 V hv1 (by simp) (at?_map q3) V (by simp) V V V (fun _ => .inl ⟨B9 0 _ V _ (by rw [(hv1:(w3:PV) = _)];rfl),nofun,(fun _ => by kernel_rfl)⟩) V ?_;refine .iV V (.iV V (.kT V (.nil ?_)));obtain rfl:=sj h;exact ⟨EI V,H.wk (by omega)⟩
       refine .ps 11 V (.kF V (.nil ?_));obtain rfl:=sj h;exact ⟨EI V,H.wk (by omega)⟩
      refine .na H fun H => ?_;refine .wh h V ?_ ?_ <;> intro h
      ·refine .tR 9 V H fun b10 σ H => (.m1 w3 V V (.mV V (.mV V ?_)));obtain ⟨x4,q4,h⟩:=bs h;refine .jV q4 V (.Z0B V V V V (.pV V ?_));obtain ⟨x5,q5,h⟩:=bs h;refine .Z5B H 0 V V V (at?_map q5) V V nofun V ?_;intro id2 hv2;refine .Z65 (id:=id2) H 0 V hv2 (by simp) V V V nofun V (.storeSt (id:=id2) (j:=1) (zs:=[(.int .i64 x4.To)]) (u:=x5) (u':=(Span.mk x5.From x4.To)) H 0 V hv2 (by simp) q5 V (by simp) V V V V V V nofun fun σ H => (.na H fun H => (.ZJ 3 V H fun b11 σ H => (.mV V ?_))));obtain ⟨x6,q6,h⟩:=bs h;refine .sliceP10 (c:=Span.cs) q6 V V V V (fun _ => V) V (.aV V (.na H fun H => ?_));obtain rfl:=sj h;exact ⟨V,EI V,H⟩
      refine .skip ?_;obtain rfl:=sj h;exact ⟨V,EI V,H⟩
     refine .ZJ 4 V H fun b12 σ H => (.m1 w3 V V (.mV V ?_));obtain ⟨x7,q7,h⟩:=bs h;refine .Z3Z (c:=Span.cs) (v:=w3) (w:=(vl Span.cs y4.1)) (xs:=y4.2) (ys:=y4.1) H (by omega) (by omega) 0 V V V (.m (fun _ => V)) q7 V V V V V nofun V fun w7 σ H => (.a1 w7 V V (.na H fun H => ?_));obtain rfl:=sj h;exact (.inl ⟨_,w7,V,V,EI V,H⟩)
    ·rintro x e σ (⟨a4,w8,rfl,rfl,he,H⟩ | ⟨r',rfl,rfl,hE⟩)
     ·replace h:=jgo h;obtain ⟨e,rfl⟩:=he.ex;obtain rfl:=sj h;exact (.inl ⟨_,w8,V,V,EI V,H⟩)
     ·replace h:=jret h;obtain rfl:=sj h;exact (.inr ⟨_,V,V,hE⟩)
   ·rintro x e σ (⟨a5,w9,rfl,rfl,he,H⟩ | ⟨r',rfl,rfl,hE⟩)
    ·replace h:=jgo h;obtain ⟨e,rfl⟩:=he.ex;refine .ZJ 3 V H fun b13 σ H => (.mV V (.iV V (.aV V (.na H fun H => ?_))));obtain rfl:=sj h;exact ⟨V,w9,EI V,H⟩
    ·replace h:=jret h;obtain rfl:=sj h;exact ⟨nofun,(.inr ⟨_,V,V,hE⟩)⟩
  refine .exit ?_;obtain rfl:=sj h;exact ⟨nofun,(.inl ⟨_,w3,V,V,EI V,(H.erase 1)⟩)⟩
 ·rintro x e σ (⟨a6,w10,rfl,rfl,he,H⟩ | ⟨r',rfl,rfl,hE⟩)
  ·replace h:=jgo h;obtain ⟨e,rfl⟩:=he.ex;refine .tR 3 V H fun b14 σ H => (.m1 w10 V V (.a1 w10 V V (.aV V (.na H fun H => (.ret ?_)))));obtain rfl:=sj h;exact (Ends.H (xs:=[w10,(vi 0)]) (.inr V) H (.tmp (v:=w10) V (.tmp (v:=(vi 0)) V .nil)) (.two (.cons (.c (.s 0 V)) (.cons (.c (.v _)) .nil))))
  ·replace h:=jret h;obtain rfl:=sj h;exact hE
end Go.Dn

namespace Go.Dn
open Go Go.Proofs
set_option maxRecDepth 100000
set_option maxHeartbeats 4000000
theorem Z5r {fine:Form} {coarse:Form} {r:(List Int) × Int × Int} (h:ZL fine coarse = some r):Fn CX 24 [(.agg (vs (Form.cs fine))),(.agg (vs (Form.cs coarse)))] (.tup [(vl (cI .i64) r.1),(vi r.2.1),(vi r.2.2)]):=by
 refine Fn.go Try.func24 V fun σ H => ?_;unfold ZL at h;refine .tR 5 V H fun b1 σ H => (.bxc (cs:=(vF fine)) H V V V fun σ H => (.bxc (cs:=(vF coarse)) H V V V fun σ H => (.a1 .nils V V (.aV V (.aV V (.na H fun H => (.then (.tR 8 V H fun b2 σ H => ?_))))))));refine .LV (vF fine) H 1 V ?_;obtain ⟨x1,q1,h⟩:=bs h;refine .cV (Z7s q1) V (.tV V (.mV V ?_));obtain ⟨y1,hj1,h⟩:=bs h;refine .md H 4 [(30,(vb y1)),(2,(.ptr (b1 + 0) 4 0)),(3,(.ptr (b1 + 1) 4 0))] [.blk (b1 + 1) 25 (vF coarse),.blk (b1 + 0) 25 (vF fine)] V ?_ fun e σ H => ?_
 ·refine .sp hj1 V ?_ ?_ <;> intro h
  ·refine .ps 3 V (.kT V (.nil ?_));obtain rfl:=sj h;exact ⟨EI V,H.wk (by omega)⟩
  refine .LV (vF coarse) H 0 V (.wt V V ?_);obtain ⟨x2,q2,h⟩:=bs h;refine .cV (Z7s q2) V (.tV V (.kF V (.nil ?_)));obtain rfl:=sj h;exact ⟨EI V,H.wk (by omega)⟩
 refine .na H fun H => ?_;refine .wh h V ?_ ?_ <;> intro h
 ·refine .tR 3 V H fun b3 σ H => (.a1 .nils V V (.aV V (.aV V (.na H fun H => (.ret ?_)))));obtain rfl:=sj h;exact (Ends.H (xs:=[.nils,(vi 0),(vi 51)]) (.inr V) H (.tmp (v:=.nils) V (.tmp (v:=(vi 0)) V (.tmp (v:=(vi 51)) V .nil))) (.two (.cons (.c .n) (.cons (.c (.v _)) (.cons (.c (.v _)) .nil)))))
 refine .skip (.tR 10 V H fun b4 σ H => (.LV (vF fine) H 1 V (.LV (vF coarse) H 0 V ?_)));obtain ⟨x3,q3,h⟩:=bs h;refine .cV (alter_turn_fn q3) V (.m1 (.tup [(vi x3.1),(vi x3.2.1),(vi x3.2.2)]) V V (.xV V (.xV V (.xV V (.aV V (.aV V (.aV V (.na H fun H => ?_))))))));refine .then (.tR 2 V H fun b5 σ H => (.mV V (.iV V (.na H fun H => ?_))));refine .wh h V ?_ ?_ <;> intro h
 ·refine .tR 4 V H fun b6 σ H => (.mV V (.a1 .nils V V (.aV V (.aV V (.na H fun H => (.ret ?_))))));obtain rfl:=sj h;exact (Ends.H (xs:=[.nils,(vi 0),(vi x3.2.2)]) (.inr V) H (.tmp (v:=.nils) V (.tmp (v:=(vi 0)) V (.tmp (v:=(vi x3.2.2)) V .nil))) (.two (.cons (.c .n) (.cons (.c (.v _)) (.cons (.c (.v _)) .nil)))))
 refine .skip (.then (.tR 3 V H fun b7 σ H => (.mV V (.iV V (.mV V (.na H fun H => (.inBlock ?_)))))));obtain ⟨y2,hj2,h⟩:=bs h;obtain ⟨n1,hj2⟩:=ZR.1 hj2;refine .mono (Runs.loopO hj2 (fun s1 e σ => ZE e [(2,(.ptr (b1 + 0) 4 0)),(3,(.ptr (b1 + 1) 4 0)),(7,(vi x3.1)),(8,(vi x3.2.1)),(42,(vi (w64 (x3.1 + 1)))),(43,(vi s1))]∧Hs σ [.blk (b1 + 1) 25 (vF coarse),.blk (b1 + 0) 25 (vF fine)]) (fun y2 x e σ => (∃ a1,y2 = (.go a1)∧x = .exit 0∧ZE e [(2,(.ptr (b1 + 0) 4 0)),(3,(.ptr (b1 + 1) 4 0)),(7,(vi x3.1)),(8,(vi x3.2.1))]∧Hs σ [.blk (b1 + 1) 25 (vF coarse),.blk (b1 + 0) 25 (vF fine)])∨(∃ r',y2 = (.ret r')∧x = .ret∧Ends CX Try.f24.results.toList (.tup [(vl (cI .i64) r'.1),(vi r'.2.1),(vi r'.2.2)]) x e σ)) ⟨EI V,H⟩ ?_) ?_
 ·intro s1 e σ hI z h;obtain ⟨he,H⟩:=hI;obtain ⟨e,rfl⟩:=he.ex;unfold ZL.s0 at h;refine .tR 1 V H fun b8 σ H => (.iV V (.na H fun H => (.then ?_)));refine .wh h V ?_ ?_ <;> intro h
  ·refine .skip (.then (.inBlock (.tR 2 V H fun b9 σ H => (.mV V (.aV V (.na H fun H => (.tR 8 V H fun b10 σ H => (.LV (vF coarse) H 0 V ?_))))))));refine .mV V ?_;obtain ⟨x4,q4,h⟩:=bs h;refine .cV (Z4p q4) V (.m1 (.tup [(vl Span.cs x4.1),(vi x4.2)]) V V (.xV V (.xV V (.aV V (.aV V (.na H fun H => (.tR 2 V H fun b11 σ H => (.mV V ?_))))))));refine .iV V (.na H fun H => ?_);refine .wh h V ?_ ?_ <;> intro h
   ·refine .tR 3 V H fun b12 σ H => (.a1 .nils V V (.aV V (.aV V (.na H fun H => (.ret ?_)))));obtain rfl:=sj h;exact ⟨nofun,(.inr ⟨_,V,V,(Ends.H (xs:=[.nils,(vi 0),(vi 20)]) (.inr V) H (.tmp (v:=.nils) V (.tmp (v:=(vi 0)) V (.tmp (v:=(vi 20)) V .nil))) (.two (.cons (.c .n) (.cons (.c (.v _)) (.cons (.c (.v _)) .nil)))))⟩)⟩
   refine .skip (.ZJ 2 V H fun b13 σ H => (.iV V (.mV V (.na H fun H => ?_))));obtain rfl:=sj h;exact ⟨V,EI V,H⟩
  refine .exit ?_;obtain rfl:=sj h;exact ⟨nofun,(.inl ⟨_,V,V,EI V,H⟩)⟩
 ·rintro x e σ (⟨a2,rfl,rfl,he,H⟩ | ⟨r',rfl,rfl,hE⟩)
  ·replace h:=jgo h;obtain ⟨e,rfl⟩:=he.ex;refine .tR 1 V H fun b14 σ H => (.alc (cs:=[.nils]) H V V fun σ H => (.na H fun H => (.tR 1 V H fun b15 σ H => (.alc (cs:=[.nils]) H V V fun σ H => (.na H fun H => (.then (.tR 5 V H fun b16 σ H => (.LV (vF fine) H 3 V ?_))))))));refine .LV (vF coarse) H 2 V (.mV V (.iV V ?_));obtain ⟨y3,hj3,h⟩:=bs h;refine .callI (PostA:=fun r A => ∃ (id1:Nat) (id2:Nat) (id3:Nat),r = (.clo 81 [] [(.ptr id1 1 0),(.ptr id2 4 0),(.ptr id3 4 0)])∧A = [.blk id1 3 [(vi y3)],.blk id2 25 (vF coarse),.blk id3 25 (vF fine),.blk (b15 + 0) 36 [.nils],.blk (b14 + 0) 22 [.nils],.blk (b1 + 1) 25 (vF coarse),.blk (b1 + 0) 25 (vF fine)]) (cv:=(.v (.fn 54))) (ys:=[(.agg (vF fine)),(.agg (vF coarse)),(vi (w64 (x3.1 + 1)))]) (L:=[]) [.blk (b15 + 0) 36 [.nils],.blk (b14 + 0) 22 [.nils],.blk (b1 + 1) 25 (vF coarse),.blk (b1 + 0) 25 (vF fine)] H V V (fun T1 hT H => callI_of Try.func54 V (fun _ => V) V V V V ?_) nofun V ?_
   ·replace h:=hj3;refine .tR 4 V H fun b17 σ H => (.bxc (cs:=(vF fine)) H V V V fun σ H => (.bxc (cs:=(vF coarse)) H V V V fun σ H => (.bxc (cs:=[(vi (w64 (x3.1 + 1)))]) H V V V fun σ H => (.aV V (.na H fun H => (.tR 2 V H fun b18 σ H => (.Z7M (fs:=[]) (cs:=[(.ptr (b17 + 2) 1 0),(.ptr (b17 + 1) 4 0),(.ptr (b17 + 0) 4 0)]) V V V V (.a1 (.clo 81 [] [(.ptr (b17 + 2) 1 0),(.ptr (b17 + 1) 4 0),(.ptr (b17 + 0) 4 0)]) V V ?_))))))));refine .na H fun H => (.ret ?_);obtain rfl:=sj h;exact ⟨.inr V,_,Z4J H (.tmp (v:=(.clo 81 [] [(.ptr (b17 + 2) 1 0),(.ptr (b17 + 1) 4 0),(.ptr (b17 + 0) 4 0)])) V .nil),_,⟨(b17 + 2),(b17 + 1),(b17 + 0),V,V⟩,H⟩
   ·rintro _ _ σ ⟨id1,id2,id3,rfl,rfl⟩ H;refine .na H fun H => (.inBlock ?_);replace H:=H.pushNil 3 1 true;replace H:=H.pushNil 37 1 true;replace H:=(H.erase 7);obtain ⟨y4,hj4,h⟩:=bs h;refine .rangeH H rfl (fun s4 M => ∃ (w5:PV) (w6:PV),M = [.sl w5 37 1 (s4.1.map (cL Span.cs)) true,.sl w6 3 1 (s4.2.map (cI .i64)) true,.blk id1 3 [(vi y3)],.blk id2 25 (vF coarse),.blk id3 25 (vF fine),.blk (b15 + 0) 36 [w6],.blk (b14 + 0) 22 [w5],.blk (b1 + 0) 25 (vF fine)]) (fun z3 => [(vl Span.cs z3.1),(vi z3.2)]) ZL.b1 (fun p => none) rfl (fun p => ⟨_,rfl⟩) (r:=y4) ⟨.nils,.nils,rfl⟩ (fun _ => rfl) (fun _ => rfl) ?_ (fun id hy => ZAQ hy (fun s L hL => by obtain ⟨M,hM,rfl⟩:=hL;obtain ⟨_,_,rfl⟩:=hM;exact (.cons 3 rfl (.cons 4 rfl (.cons 5 rfl .nil)))) hj4) ?_
    ·intro R0 R1 s4 z3 s' p h σ M O hM H;obtain ⟨w5,w6,rfl⟩:=hM;unfold ZL.b1 at h;refine .env [(60,(vl Span.cs z3.1)),(61,(vi z3.2)),(2,(.ptr (b1 + 0) 4 0)),(7,(vi x3.1)),(8,(vi x3.2.1)),(13,(.ptr (b14 + 0) 1 0)),(14,(.ptr (b15 + 0) 1 0)),(59,(.clo 81 [] [(.ptr id1 1 0),(.ptr id2 4 0),(.ptr id3 4 0)]))] (EI V) fun e => (.tR 1 V H fun b19 σ H => (.aV V (.na H fun H => (.ZJ 1 V H fun b20 σ H => (.aV V (.na H fun H => ?_))))));refine ⟨V,[.sl w5 37 1 (s4.1.map (cL Span.cs)) true,.sl w6 3 1 (s4.2.map (cI .i64)) true,.blk id1 3 [(vi y3)],.blk id2 25 (vF coarse),.blk id3 25 (vF fine),.blk (b15 + 0) 36 [w6],.blk (b14 + 0) 22 [w5],.blk (b1 + 0) 25 (vF fine)],H,?_⟩;intro σ H;refine .inBlock (.Z0P 10 V (by kernel_rfl) H fun b21 σ H B21 => (.ld w5 H 7 V V V V V (so (B21 7 _ V _ V)) V (.mV V (.Z3o (sz:=1) ([z3.1].map (cL Span.cs)) H (by omega) (by omega) V V V V V V V V V fun σ H => ?_))));obtain ⟨x5,q5,h⟩:=bs h;refine .appendSW (c:=(cL Span.cs)) (v:=w5) (w:=(.buf (b21 + 2) 1 1)) (xs:=s4.1) (ys:=[z3.1]) H (by omega) (by omega) 2 V V V (.s 0 V) q5 V V V V V (fun _ => ⟨(fun id ho => .inl ⟨B21 1 _ V id ho,(Z63 [4] (by kernel_rfl) (.cons V V (ne_one (H.ne (j:=2) (k:=7) V V V ho V)) .nil))⟩),(fun _ ho => .inr ⟨2,(by cases ho;rfl),by kernel_rfl,by decide⟩)⟩) V fun w7 σ H => (.ld w6 H 7 V V V V V (so (B21 6 _ V _ V)) V (.mV V (.Z3o (sz:=1) ([z3.2].map (cI .i64)) H (by omega) (by omega) V V V V V V V V V fun σ H => ?_)))
     obtain ⟨x6,q6,h⟩:=bs h;refine .Z3Z (c:=(cI .i64)) (v:=w6) (w:=(.buf (b21 + 6) 1 1)) (xs:=s4.2) (ys:=[z3.2]) H (by omega) (by omega) 4 V V V (.s 0 V) q6 V V V V V (fun h => ⟨(fun id ho => .inl ⟨B21 2 _ V id ho,(fun _ => by kernel_rfl),nofun⟩),(fun id ho => .inr ⟨6,(by cases ho;rfl),(fun h => nomatch h),by kernel_rfl,by decide⟩)⟩) V fun w8 σ H => (.Z39 (v:=w7) (ys:=[w7]) (cells':=[w7]) H 9 V V V V (H.slCells (k:=3) V) V V V V (fun _ => .inl ⟨B21 7 _ V _ V,(Z2c (by kernel_rfl))⟩) fun σ H => (.Z39 (v:=w8) (ys:=[w8]) (cells':=[w8]) H 8 V V V V (H.slCells (k:=4) V) V V V V (fun _ => .inl ⟨B21 6 _ V _ V,(Z2c (by kernel_rfl))⟩) fun σ H => (.na H fun H => ?_)));obtain ⟨rfl,rfl⟩:=Prod.mk.inj (Option.some.inj h);exact ⟨⟨V,(iff_of_true V V)⟩,_,⟨w7,w8,V⟩,((H.erase 1).erase 0)⟩
    ·intro x σ M hx hM H;obtain ⟨w9,w10,rfl⟩:=hM;cases hx;refine .then (.tR 4 V H fun b22 σ H => (.lV H 5 V (.Z8t (c:=(cI .i64)) (xs:=y4.1.2) H 1 V V V nofun V (.mV V (.iV V (.na H fun H => ?_))))));refine .wh h V ?_ ?_ <;> intro h
     ·refine .tR 3 V H fun b23 σ H => (.a1 .nils V V (.aV V (.aV V (.na H fun H => (.ret ?_)))));obtain rfl:=sj h;exact (Ends.H (xs:=[.nils,(vi 0),(vi 51)]) (.inr V) H (.tmp (v:=.nils) V (.tmp (v:=(vi 0)) V (.tmp (v:=(vi 51)) V .nil))) (.two (.cons (.c .n) (.cons (.c (.v _)) (.cons (.c (.v _)) .nil)))))
     refine .skip (.then (.then (.Z0P 14 V (by kernel_rfl) H fun b24 σ H B24 => (.Z2N (cs:=(vF fine)) H 7 V V V V V V V (so (B24 7 _ V _ V)) V (.ld w10 H 5 V V V V V (so (B24 5 _ V _ V)) V ?_)))));obtain ⟨x7,q7,h⟩:=bs h;refine .Z5B H 1 V V V (at?_map q7) V V (fun _ id ho => .inl ⟨B24 1 _ V id ho,nofun,(fun _ => by kernel_rfl)⟩) V ?_;intro id4 hv1;refine .loadS (id:=id4) (j:=0) (w:=(.int .i64 x7)) H 1 V hv1 (by simp) (at?_map q7) V (by simp) V V V (fun _ => .inl ⟨B24 1 _ V _ (by rw [(hv1:(w10:PV) = _)];rfl),nofun,(fun _ => by kernel_rfl)⟩) V ?_;refine .ld w10 H 5 V V V V V (so (B24 5 _ V _ V)) V (.mV V ?_);obtain ⟨x8,q8,h⟩:=bs h;refine .Z5B H 1 V V V (at?_map q8) V V (fun _ id ho => .inl ⟨B24 1 _ V id ho,nofun,(fun _ => by kernel_rfl)⟩) V ?_;intro id5 hv2;refine .loadS (id:=id5) (j:=0) (w:=(.int .i64 x8)) H 1 V hv2 (by simp) (at?_map q8) V (by simp) V V V (fun _ => .inl ⟨B24 1 _ V _ (by rw [(hv2:(w10:PV) = _)];rfl),nofun,(fun _ => by kernel_rfl)⟩) V ?_;obtain ⟨x9,q9,h⟩:=bs h;refine .cV (Z44 q9) V (.m1 (.tup [(vl Span.cs x9.1),(vi x9.2)]) V V (.xV V (.xV V (.aV V (.aV V (.na H fun H => (.tR 2 V H fun b25 σ H => (.mV V ?_))))))));refine .iV V (.na H fun H => ?_);refine .wh h V ?_ ?_ <;> intro h
     ·refine .tR 4 V H fun b26 σ H => (.mV V (.a1 .nils V V (.aV V (.aV V (.na H fun H => (.ret ?_))))));obtain rfl:=sj h;exact (Ends.H (xs:=[.nils,(vi 0),(vi x9.2)]) (.inr V) H (.tmp (v:=.nils) V (.tmp (v:=(vi 0)) V (.tmp (v:=(vi x9.2)) V .nil))) (.two (.cons (.c .n) (.cons (.c (.v _)) (.cons (.c (.v _)) .nil)))))
     refine .skip (.then (.tR 5 V H fun b27 σ H => (.lV H 6 V (.mV V ?_))));obtain ⟨u1,q10,h⟩:=bs h;obtain ⟨id6,rfl⟩:=H.bufOf 0 rfl q10;obtain ⟨x10,q11,h⟩:=bs h;refine .sliceS (c:=(cL Span.cs)) q11 H 0 V V V V V (fun _ => V) nofun V fun σ H => (.nV V (.mV V (.na H fun H => (.inBlock ?_))));obtain ⟨y5,hj5,h⟩:=bs h;obtain ⟨n2,hj5⟩:=ZR.1 hj5;refine .mono (Runs.loopO hj5 (fun s5 e σ => ZE e [(2,(.ptr (b1 + 0) 4 0)),(7,(vi x3.1)),(8,(vi x3.2.1)),(14,(.ptr (b15 + 0) 1 0)),(91,(vl (cL Span.cs) x10)),(92,(vi (x10.length:Int))),(93,(vi s5))]∧Hs σ [.sl w10 3 1 (y4.1.2.map (cI .i64)) true,.blk (b15 + 0) 36 [w10],.blk (b1 + 0) 25 (vF fine)]) (fun y5 x e σ => (∃ a3,y5 = (.go a3)∧x = .exit 4∧ZE e [(7,(vi x3.1)),(8,(vi x3.2.1)),(14,(.ptr (b15 + 0) 1 0))]∧Hs σ [.sl w10 3 1 (y4.1.2.map (cI .i64)) true,.blk (b15 + 0) 36 [w10]])∨(∃ r',y5 = (.ret r')∧x = .ret∧Ends CX Try.f24.results.toList (.tup [(vl (cI .i64) r'.1),(vi r'.2.1),(vi r'.2.2)]) x e σ)) ⟨EI V,(((((H.erase 6).erase 4).erase 3).erase 2).erase 0)⟩ ?_) ?_
     ·intro s5 e σ hI z h;obtain ⟨he,H⟩:=hI;obtain ⟨e,rfl⟩:=he.ex;unfold ZL.s2 at h;refine .tR 1 V H fun b28 σ H => (.iV V (.na H fun H => (.then ?_)));refine .wh h V ?_ ?_ <;> intro h
      ·refine .skip (.then (.inBlock (.tR 5 V H fun b29 σ H => (.mV V ?_))));obtain ⟨x11,q12,h⟩:=bs h;refine .jV q12 V (.pV V (.aV V (.aV V (.na H fun H => (.then (.Z0P 16 V (by kernel_rfl) H fun b30 σ H B30 => (.Z2N (cs:=(vF fine)) H 2 V V V V V V V (so (B30 2 _ V _ V)) V (.ld w10 H 1 V V V V V (so (B30 1 _ V _ V)) V ?_))))))));refine .mV V ?_;obtain ⟨x12,q13,h⟩:=bs h;refine .Z5B H 0 V V V (at?_map q13) V V (fun _ id ho => .inl ⟨B30 0 _ V id ho,nofun,(fun _ => by kernel_rfl)⟩) V ?_;intro id7 hv3;refine .loadS (id:=id7) (j:=0) (w:=(.int .i64 x12)) H 0 V hv3 (by simp) (at?_map q13) V (by simp) V V V (fun _ => .inl ⟨B30 0 _ V _ (by rw [(hv3:(w10:PV) = _)];rfl),nofun,(fun _ => by kernel_rfl)⟩) V ?_;refine .ld w10 H 1 V V V V V (so (B30 1 _ V _ V)) V (.mV V (.iV V ?_));obtain ⟨x13,q14,h⟩:=bs h;refine .Z5B H 0 V V V (at?_map q14) V V (fun _ id ho => .inl ⟨B30 0 _ V id ho,nofun,(fun _ => by kernel_rfl)⟩) V ?_;intro id8 hv4;refine .loadS (id:=id8) (j:=0) (w:=(.int .i64 x13)) H 0 V hv4 (by simp) (at?_map q14) V (by simp) V V V (fun _ => .inl ⟨B30 0 _ V _ (by rw [(hv4:(w10:PV) = _)];rfl),nofun,(fun _ => by kernel_rfl)⟩) V ?_;obtain ⟨x14,q15,h⟩:=bs h;refine .cV (Z44 q15) V (.m1 (.tup [(vl Span.cs x14.1),(vi x14.2)]) V V (.xV V (.xV V (.aV V (.aV V (.na H fun H => (.tR 4 V H fun b31 σ H => (.mV V ?_))))))))
       refine .mV V ?_;obtain ⟨x15,q16,h⟩:=bs h;refine .cV (Z8w q16) V (.tV V (.na H fun H => ?_));refine .wh h V ?_ ?_ <;> intro h
       ·refine .tR 3 V H fun b32 σ H => (.a1 .nils V V (.aV V (.aV V (.na H fun H => (.ret ?_)))));obtain rfl:=sj h;exact ⟨nofun,(.inr ⟨_,V,V,(Ends.H (xs:=[.nils,(vi 0),(vi 51)]) (.inr V) H (.tmp (v:=.nils) V (.tmp (v:=(vi 0)) V (.tmp (v:=(vi 51)) V .nil))) (.two (.cons (.c .n) (.cons (.c (.v _)) (.cons (.c (.v _)) .nil)))))⟩)⟩
       refine .skip (.ZJ 2 V H fun b33 σ H => (.iV V (.mV V (.na H fun H => ?_))));obtain rfl:=sj h;exact ⟨V,EI V,H⟩
      refine .exit ?_;obtain rfl:=sj h;exact ⟨nofun,(.inl ⟨_,V,V,EI V,(H.erase 2)⟩)⟩
     ·rintro x e σ (⟨a4,rfl,rfl,he,H⟩ | ⟨r',rfl,rfl,hE⟩)
      ·replace h:=jgo h;obtain ⟨e,rfl⟩:=he.ex;refine .tR 8 V H fun b34 σ H => (.lV H 1 V (.mV V (.mV V ?_)));obtain ⟨u2,q17,h⟩:=bs h;obtain ⟨id9,rfl⟩:=H.bufOf 0 rfl q17;obtain ⟨x16,q18,h⟩:=bs h;refine .sliceSF (c:=(cI .i64)) q18 H 0 V V V V V V (fun _ => V) nofun V fun σ H => (.mV V (.a1 (.full (x16.map (cI .i64))) V V (.aV V (.aV V (.na H fun H => (.ret ?_))))));obtain rfl:=sj h;exact (Ends.H (xs:=[(.full (x16.map (cI .i64))),(vi x3.2.1),(vi 0)]) (.inr V) H (.tmp (v:=(.full (x16.map (cI .i64)))) V (.tmp (v:=(vi x3.2.1)) V (.tmp (v:=(vi 0)) V .nil))) (.two (.cons (.c (.full _)) (.cons (.c (.v _)) (.cons (.c (.v _)) .nil)))))
      ·replace h:=jret h;obtain rfl:=sj h;exact hE
  ·replace h:=jret h;obtain rfl:=sj h;exact hE
theorem Z1B {i:Int} {p1':Int} {p2':Int} {p3':Int} {p4':(List Int)} {p5':Int} {p6':Int} {id0':Nat} {id1':Nat} {id2':Nat} {id3':Nat} {id4':Nat} {id5':Nat} {r:Int} (h:Zt i p1' p2' p3' p4' p5' p6' = some r):FnH CX 76 [(vi i),(.ptr id0' 1 0),(.ptr id1' 1 0),(.ptr id2' 1 0),(.ptr id3' 1 0),(.ptr id4' 1 0),(.ptr id5' 1 0)] (vi r) [.blk id0' 3 [(vi p1')],.blk id1' 3 [(vi p2')],.blk id2' 3 [(vi p3')],.blk id3' 36 [(vl (cI .i64) p4')],.blk id4' 3 [(vi p5')],.blk id5' 3 [(vi p6')]]:=by
 refine FnH.of Try.func76 V V V V V V (fun h => by have:=Z4s h 1 V;cases this) ?_;intro σ L hC H;have hC0:=hC;obtain ⟨k0',hk0',hC⟩:=hC.inv;obtain ⟨k1',hk1',hC⟩:=hC.inv;obtain ⟨k2',hk2',hC⟩:=hC.inv;obtain ⟨k3',hk3',hC⟩:=hC.inv;obtain ⟨k4',hk4',hC⟩:=hC.inv;obtain ⟨k5',hk5',hC⟩:=hC.inv;unfold Zt at h;refine .tR 1 V H fun b1 σ H => (.aV V (.na H fun H => (.tR 10 V H fun b2 σ H => (.mV V (.ld (vi p1') H k0' hk0' V V V V nofun V ?_)))));obtain ⟨x1,q1,h⟩:=bs h;refine .cV (Z23 q1) V (.m1 (.tup [(vi x1.1),(vi x1.2.1),(vi x1.2.2)]) V V (.xV V (.xV V (.xV V (.aV V (.aV V (.aV V (.na H fun H => ?_))))))));refine .tR 13 V H fun b3 σ H => (.mV V (.iV V (.ld (vi p2') H k1' hk1' V V V V nofun V (.iV V (.ld (vi p3') H k2' hk2' V V V V nofun V ?_)))));obtain ⟨x2,q2,h⟩:=bs h;refine .cV (Z23 q2) V (.m1 (.tup [(vi x2.1),(vi x2.2.1),(vi x2.2.2)]) V V (.xV V (.xV V (.xV V (.aV V (.aV V (.aV V (.na H fun H => ?_))))))));refine .then (.Z0P 14 V (by kernel_rfl) H fun b4 σ H B4 => (.ld (vl (cI .i64) p4') H k3' hk3' V V V V (so (B4 (k3' + 0) _ hk3' _ V)) V (.mV V ?_)));obtain ⟨x3,q3,h⟩:=bs h;refine .jV q3 V (.pV V (.mV V (.ld (vi p5') H k4' hk4' V V V V (so (B4 (k4' + 0) _ hk4' _ V)) V (.iV V (.iV V (.ld (vi p6') H k5' hk5' V V V V (so (B4 (k5' + 0) _ hk5' _ V)) V (.mV V (.iV V ?_))))))))
 refine .iV V (.iV V (.aV V (.na H fun H => (.ret ?_))));obtain rfl:=sj h;exact (EndsH.H (xs:=[(vi (w64 ((w64 (x3 + (w64 (x1.1 * p5')))) + (w64 (p6' * (w64 (x2.1 + 1)))))))]) (.inr V) H (.tmp (v:=(vi (w64 ((w64 (x3 + (w64 (x1.1 * p5')))) + (w64 (p6' * (w64 (x2.1 + 1)))))))) V .nil) (.one (.c (.v _))) 0 V)
theorem safe_Gcd_fn {a:Int} {b:Int} {r:Int × Int} (h:Z5b a b = some r):Fn CX 49 [(vi a),(vi b)] (.tup [(vi r.1),(vi r.2)]):=by
 refine Fn.go Try.func49 V fun σ H => ?_;unfold Z5b at h;refine .tR 2 V H fun b1 σ H => (.aV V (.aV V (.na H fun H => (.tR 10 V H fun b2 σ H => (.mV V (.cV (Z3P V) V (.mV V (.cV (Z3P V) V ?_))))))));obtain ⟨x1,q1,h⟩:=bs h;refine .cV (ZBj q1) V (.cV (Z5x V) V (.xV V (.xV V (.aV V (.aV V (.na H fun H => (.ret ?_)))))));obtain rfl:=sj h;exact Ends.eR V
theorem Z1f {fine:Form} {coarse:Form} {k:Int} {l:Int} {m:Int} {r:Form × Int} (h:Zb fine coarse k l m = some r):Fn CX 22 [(.agg (vs (Form.cs fine))),(.agg (vs (Form.cs coarse))),(vi k),(vi l),(vi m)] (.tup [(.agg (vs (Form.cs r.1))),(vi r.2)]):=by
 refine Fn.go Try.func22 V fun σ H => ?_;unfold Zb at h;refine .tR 4 V H fun b1 σ H => (.bxc (cs:=(vF fine)) H V V V fun σ H => (.bxc (cs:=(vF coarse)) H V V V fun σ H => (.alc (cs:=[(vi 0),(vi 0),.nils,.nils]) H V V fun σ H => (.aV V (.na H fun H => (.then (.tR 23 V H fun b2 σ H => (.mV V ?_))))))));refine .iV V (.mV V ?_);refine .md H 3 [(30,(vb ((decide (m < 1)) || (decide (m > 6000))))),(2,(vi k)),(3,(vi l)),(4,(vi m)),(5,(.ptr (b1 + 0) 4 0)),(6,(.ptr (b1 + 1) 4 0)),(10,(.ptr (b1 + 2) 4 0))] [.blk (b1 + 2) 25 [(vi 0),(vi 0),.nils,.nils],.blk (b1 + 1) 25 (vF coarse),.blk (b1 + 0) 25 (vF fine)] rfl ?_ fun e σ H => ?_
 ·refine .split V V ?_ ?_ <;> intro hc1
  ·refine .ps 2 V (.kT V (.nil ?_));exact ⟨⟨or_T hc1,V,V,V,V,V,V,U⟩,H.wk (by omega)⟩
  ·refine .mV V (.iV V (.kF V (.nil ?_)));exact ⟨⟨or_F hc1,V,V,V,V,V,V,U⟩,H.wk (by omega)⟩
 refine .mV V ?_;refine .md H 3 [(34,(vb (((decide (m < 1)) || (decide (m > 6000))) || (decide (l < 0))))),(2,(vi k)),(3,(vi l)),(4,(vi m)),(5,(.ptr (b1 + 0) 4 0)),(6,(.ptr (b1 + 1) 4 0)),(10,(.ptr (b1 + 2) 4 0))] [.blk (b1 + 2) 25 [(vi 0),(vi 0),.nils,.nils],.blk (b1 + 1) 25 (vF coarse),.blk (b1 + 0) 25 (vF fine)] rfl ?_ fun e σ H => ?_
 ·refine .split V V ?_ ?_ <;> intro hc2
  ·refine .ps 2 V (.kT V (.nil ?_));exact ⟨⟨or_T hc2,V,V,V,V,V,V,U⟩,H.wk (by omega)⟩
  ·refine .mV V (.iV V (.kF V (.nil ?_)));exact ⟨⟨or_F hc2,V,V,V,V,V,V,U⟩,H.wk (by omega)⟩
 refine .mV V ?_;refine .md H 4 [(39,(vb ((((decide (m < 1)) || (decide (m > 6000))) || (decide (l < 0))) || (decide (l ≥ m))))),(2,(vi k)),(3,(vi l)),(4,(vi m)),(5,(.ptr (b1 + 0) 4 0)),(6,(.ptr (b1 + 1) 4 0)),(10,(.ptr (b1 + 2) 4 0))] [.blk (b1 + 2) 25 [(vi 0),(vi 0),.nils,.nils],.blk (b1 + 1) 25 (vF coarse),.blk (b1 + 0) 25 (vF fine)] rfl ?_ fun e σ H => ?_
 ·refine .split V V ?_ ?_ <;> intro hc3
  ·refine .ps 3 V (.kT V (.nil ?_));exact ⟨⟨or_T hc3,V,V,V,V,V,V,U⟩,H.wk (by omega)⟩
  ·refine .mV V (.mV V (.iV V (.kF V (.nil ?_))));exact ⟨⟨or_F hc3,V,V,V,V,V,V,U⟩,H.wk (by omega)⟩
 refine .mV V ?_;refine .md H 3 [(43,(vb (((((decide (m < 1)) || (decide (m > 6000))) || (decide (l < 0))) || (decide (l ≥ m))) || (decide (k < (-6000)))))),(2,(vi k)),(3,(vi l)),(4,(vi m)),(5,(.ptr (b1 + 0) 4 0)),(6,(.ptr (b1 + 1) 4 0)),(10,(.ptr (b1 + 2) 4 0))] [.blk (b1 + 2) 25 [(vi 0),(vi 0),.nils,.nils],.blk (b1 + 1) 25 (vF coarse),.blk (b1 + 0) 25 (vF fine)] rfl ?_ fun e σ H => ?_
 ·refine .split V V ?_ ?_ <;> intro hc4
  ·refine .ps 2 V (.kT V (.nil ?_));exact ⟨⟨or_T hc4,V,V,V,V,V,V,U⟩,H.wk (by omega)⟩
  ·refine .mV V (.iV V (.kF V (.nil ?_)));exact ⟨⟨or_F hc4,V,V,V,V,V,V,U⟩,H.wk (by omega)⟩
 refine .mV V ?_;refine .md H 3 [(47,(vb ((((((decide (m < 1)) || (decide (m > 6000))) || (decide (l < 0))) || (decide (l ≥ m))) || (decide (k < (-6000)))) || (decide (k > 6000))))),(2,(vi k)),(3,(vi l)),(4,(vi m)),(5,(.ptr (b1 + 0) 4 0)),(6,(.ptr (b1 + 1) 4 0)),(10,(.ptr (b1 + 2) 4 0))] [.blk (b1 + 2) 25 [(vi 0),(vi 0),.nils,.nils],.blk (b1 + 1) 25 (vF coarse),.blk (b1 + 0) 25 (vF fine)] rfl ?_ fun e σ H => ?_
 ·refine .split V V ?_ ?_ <;> intro hc5
  ·refine .ps 2 V (.kT V (.nil ?_));exact ⟨⟨or_T hc5,V,V,V,V,V,V,U⟩,H.wk (by omega)⟩
  ·refine .mV V (.iV V (.kF V (.nil ?_)));exact ⟨⟨or_F hc5,V,V,V,V,V,V,U⟩,H.wk (by omega)⟩
 refine .na H fun H => ?_;refine .wh h V ?_ ?_ <;> intro h
 ·refine .tR 3 V H fun b3 σ H => (.bV [(vi 0),(vi 0),.nils,.nils] V (.sV [(vi 0),(vi 0),.nils,.nils] H 0 V fun σ H => (.aV V (.na H fun H => (.ret ?_)))));obtain rfl:=sj h;exact (Ends.H (xs:=[(.agg [(vi 0),(vi 0),.nils,.nils]),(vi 2)]) (.inr V) H (.agg (cs:=[(vi 0),(vi 0),.nils,.nils]) 0 V V V V V V V (.tmp (v:=(vi 2)) V .nil)) (.two (.cons (.a (.cons (.v _) (.cons (.v _) (.cons .n (.cons .n .nil))))) (.cons (.c (.v _)) .nil))))
 refine .skip (.tR 10 V H fun b4 σ H => (.LV (vF fine) H 2 V (.LV (vF coarse) H 1 V ?_)));obtain ⟨x1,q1,h⟩:=bs h;refine .cV (Z5r q1) V (.m1 (.tup [(vl (cI .i64) x1.1),(vi x1.2.1),(vi x1.2.2)]) V V (.xV V (.xV V (.xV V (.aV V (.aV V (.aV V (.na H fun H => ?_))))))));refine .then (.tR 2 V H fun b5 σ H => (.mV V (.iV V (.na H fun H => ?_))));refine .wh h V ?_ ?_ <;> intro h
 ·refine .tR 4 V H fun b6 σ H => (.bV [(vi 0),(vi 0),.nils,.nils] V (.mV V (.sV [(vi 0),(vi 0),.nils,.nils] H 0 V fun σ H => (.aV V (.na H fun H => (.ret ?_))))));obtain rfl:=sj h;exact (Ends.H (xs:=[(.agg [(vi 0),(vi 0),.nils,.nils]),(vi x1.2.2)]) (.inr V) H (.agg (cs:=[(vi 0),(vi 0),.nils,.nils]) 0 V V V V V V V (.tmp (v:=(vi x1.2.2)) V .nil)) (.two (.cons (.a (.cons (.v _) (.cons (.v _) (.cons .n (.cons .n .nil))))) (.cons (.c (.v _)) .nil))))
 refine .skip (.tR 8 V H fun b7 σ H => (.mV V (.mV V (.mV V (.mV V (.mV V ?_))))));obtain ⟨y1,hj1,h⟩:=bs h;refine .callI (PostA:=fun r A => ∃ (id1:Nat) (id2:Nat) (id3:Nat) (id4:Nat) (id5:Nat) (id6:Nat),r = (.agg [(.clo 76 [] [(.ptr id1 1 0),(.ptr id3 1 0),(.ptr id2 1 0),(.ptr id6 1 0),(.ptr id5 1 0),(.ptr id4 1 0)]),(vi y1.1),(vi y1.2)])∧A = [.blk id1 3 [(vi (x1.1.length:Int))],.blk id2 3 [(vi m)],.blk id3 3 [(vi l)],.blk id4 3 [(vi k)],.blk id5 3 [(vi x1.2.1)],.blk id6 36 [(vl (cI .i64) x1.1)],.blk (b1 + 2) 25 [(vi 0),(vi 0),.nils,.nils],.blk (b1 + 1) 25 (vF coarse),.blk (b1 + 0) 25 (vF fine)]) (cv:=(.v (.fn 48))) (ys:=[(vl (cI .i64) x1.1),(vi x1.2.1),(vi k),(vi l),(vi m)]) (L:=[]) [.blk (b1 + 2) 25 [(vi 0),(vi 0),.nils,.nils],.blk (b1 + 1) 25 (vF coarse),.blk (b1 + 0) 25 (vF fine)] H V V (fun T1 hT H => callI_of Try.func48 V (fun _ => V) V V V V ?_) nofun V ?_
 ·replace h:=hj1;refine .tR 6 V H fun b8 σ H => (.bxc (cs:=[(vl (cI .i64) x1.1)]) H V V V fun σ H => (.bxc (cs:=[(vi x1.2.1)]) H V V V fun σ H => (.bxc (cs:=[(vi k)]) H V V V fun σ H => (.bxc (cs:=[(vi l)]) H V V V fun σ H => (.bxc (cs:=[(vi m)]) H V V V fun σ H => (.alc (cs:=[(.v .nilf),(vi 0),(vi 0)]) H V V fun σ H => (.na H fun H => (.tR 4 V H fun b9 σ H => ?_))))))));refine .lV H 5 V (.nV V (.alc (cs:=[(vi 0)]) H V V fun σ H => (.sV [(vi (x1.1.length:Int))] H 0 V fun σ H => (.na H fun H => (.tR 8 V H fun b10 σ H => (.lV H 0 V (.lV H 2 V ?_)))))));obtain ⟨x2,q2,h⟩:=bs h;refine .cV (Z7n q2) V (.m1 (.tup [(vi x2.1),(vi x2.2)]) V V (.xV V (.xV V (.aV V (.aV V (.na H fun H => (.tR 2 V H fun b11 σ H => (.Z7M (fs:=[]) (cs:=[(.ptr (b9 + 2) 1 0),(.ptr (b8 + 3) 1 0),(.ptr (b8 + 4) 1 0),(.ptr (b8 + 0) 1 0),(.ptr (b8 + 1) 1 0),(.ptr (b8 + 2) 1 0)]) V V V V ?_))))))));refine .a1 (.clo 76 [] [(.ptr (b9 + 2) 1 0),(.ptr (b8 + 3) 1 0),(.ptr (b8 + 4) 1 0),(.ptr (b8 + 0) 1 0),(.ptr (b8 + 1) 1 0),(.ptr (b8 + 2) 1 0)]) V V (.na H fun H => (.tR 10 V H fun b12 σ H => (.m1 (.clo 76 [] [(.ptr (b9 + 2) 1 0),(.ptr (b8 + 3) 1 0),(.ptr (b8 + 4) 1 0),(.ptr (b8 + 0) 1 0),(.ptr (b8 + 1) 1 0),(.ptr (b8 + 2) 1 0)]) V V (.mV V (.m1 (.clo 76 [] [(.ptr (b9 + 2) 1 0),(.ptr (b8 + 3) 1 0),(.ptr (b8 + 4) 1 0),(.ptr (b8 + 0) 1 0),(.ptr (b8 + 1) 1 0),(.ptr (b8 + 2) 1 0)]) V V (.mV V ?_))))))
  obtain ⟨x3,q3,h⟩:=bs h;refine .callV (cv:=(.clo 76 [] [(.ptr (b9 + 2) 1 0),(.ptr (b8 + 3) 1 0),(.ptr (b8 + 4) 1 0),(.ptr (b8 + 0) 1 0),(.ptr (b8 + 1) 1 0),(.ptr (b8 + 2) 1 0)])) (ys:=[(vi x2.1)]) (r:=(vi x3)) H V V (CloH.clo (Z1B q3)) (.cons 0 V (.cons 3 V (.cons 2 V (.cons 6 V (.cons 5 V (.cons 4 V .nil)))))) nofun V fun σ H => (.m1 (.clo 76 [] [(.ptr (b9 + 2) 1 0),(.ptr (b8 + 3) 1 0),(.ptr (b8 + 4) 1 0),(.ptr (b8 + 0) 1 0),(.ptr (b8 + 1) 1 0),(.ptr (b8 + 2) 1 0)]) V V ?_);obtain ⟨x4,q4,h⟩:=bs h;refine .callV (cv:=(.clo 76 [] [(.ptr (b9 + 2) 1 0),(.ptr (b8 + 3) 1 0),(.ptr (b8 + 4) 1 0),(.ptr (b8 + 0) 1 0),(.ptr (b8 + 1) 1 0),(.ptr (b8 + 2) 1 0)])) (ys:=[(vi 0)]) (r:=(vi x4)) H V V (CloH.clo (Z1B q4)) (.cons 0 V (.cons 3 V (.cons 2 V (.cons 6 V (.cons 5 V (.cons 4 V .nil)))))) nofun V fun σ H => (.iV V (.bV [(.clo 76 [] [(.ptr (b9 + 2) 1 0),(.ptr (b8 + 3) 1 0),(.ptr (b8 + 4) 1 0),(.ptr (b8 + 0) 1 0),(.ptr (b8 + 1) 1 0),(.ptr (b8 + 2) 1 0)]),(vi x2.1),(vi (w64 (x3 - x4)))] V (.sV [(.clo 76 [] [(.ptr (b9 + 2) 1 0),(.ptr (b8 + 3) 1 0),(.ptr (b8 + 4) 1 0),(.ptr (b8 + 0) 1 0),(.ptr (b8 + 1) 1 0),(.ptr (b8 + 2) 1 0)]),(vi x2.1),(vi (w64 (x3 - x4)))] H 1 V fun σ H => (.na H fun H => (.ret ?_)))));obtain rfl:=sj h;exact ⟨.inr V,_,Z4J H (.agg (cs:=[(.clo 76 [] [(.ptr (b9 + 2) 1 0),(.ptr (b8 + 3) 1 0),(.ptr (b8 + 4) 1 0),(.ptr (b8 + 0) 1 0),(.ptr (b8 + 1) 1 0),(.ptr (b8 + 2) 1 0)]),(vi x2.1),(vi (w64 (x3 - x4)))]) 1 V V V V V V V .nil),_,⟨(b9 + 2),(b8 + 4),(b8 + 3),(b8 + 2),(b8 + 1),(b8 + 0),V,V⟩,(H.erase 1)⟩
 ·rintro _ _ σ ⟨id1,id2,id3,id4,id5,id6,rfl,rfl⟩ H;refine .alc (cs:=[(.v .nilf),(vi 0),(vi 0)]) H V V fun σ H => (.sV [(.clo 76 [] [(.ptr id1 1 0),(.ptr id3 1 0),(.ptr id2 1 0),(.ptr id6 1 0),(.ptr id5 1 0),(.ptr id4 1 0)]),(vi y1.1),(vi y1.2)] H 0 V fun σ H => (.na H fun H => (.then (.tR 3 V H fun b13 σ H => (.fV H 0 V (.lV H 0 V (.iV V (.na H fun H => ?_))))))));refine .wh h V ?_ ?_ <;> intro h
  ·refine .tR 3 V H fun b14 σ H => (.bV [(vi 0),(vi 0),.nils,.nils] V (.sV [(vi 0),(vi 0),.nils,.nils] H 7 V fun σ H => (.aV V (.na H fun H => (.ret ?_)))));obtain rfl:=sj h;exact (Ends.H (xs:=[(.agg [(vi 0),(vi 0),.nils,.nils]),(vi 3)]) (.inr V) H (.agg (cs:=[(vi 0),(vi 0),.nils,.nils]) 7 V V V V V V V (.tmp (v:=(vi 3)) V .nil)) (.two (.cons (.a (.cons (.v _) (.cons (.v _) (.cons .n (.cons .n .nil))))) (.cons (.c (.v _)) .nil))))
  refine .skip (.then (.tR 3 V H fun b15 σ H => (.fV H 0 V (.lV H 0 V (.mV V (.na H fun H => (.inBlock ?_)))))));obtain ⟨y2,hj2,h⟩:=bs h;obtain ⟨n1,hj2⟩:=ZR.1 hj2;refine .mono (Runs.loopO hj2 (fun s1 e σ => ZE e [(5,(.ptr (b1 + 0) 4 0)),(10,(.ptr (b1 + 2) 4 0)),(15,(.ptr (b7 + 6) 3 0)),(71,(vi y1.1)),(72,(vi s1))]∧Hs σ [.blk (b7 + 6) 77 [(.clo 76 [] [(.ptr id1 1 0),(.ptr id3 1 0),(.ptr id2 1 0),(.ptr id6 1 0),(.ptr id5 1 0),(.ptr id4 1 0)]),(vi y1.1),(vi y1.2)],.blk id1 3 [(vi (x1.1.length:Int))],.blk id2 3 [(vi m)],.blk id3 3 [(vi l)],.blk id4 3 [(vi k)],.blk id5 3 [(vi x1.2.1)],.blk id6 36 [(vl (cI .i64) x1.1)],.blk (b1 + 2) 25 [(vi 0),(vi 0),.nils,.nils],.blk (b1 + 0) 25 (vF fine)]) (fun y2 x e σ => (∃ a1,y2 = (.go a1)∧x = .exit 0∧ZE e [(5,(.ptr (b1 + 0) 4 0)),(10,(.ptr (b1 + 2) 4 0)),(15,(.ptr (b7 + 6) 3 0))]∧Hs σ [.blk (b7 + 6) 77 [(.clo 76 [] [(.ptr id1 1 0),(.ptr id3 1 0),(.ptr id2 1 0),(.ptr id6 1 0),(.ptr id5 1 0),(.ptr id4 1 0)]),(vi y1.1),(vi y1.2)],.blk id1 3 [(vi (x1.1.length:Int))],.blk id2 3 [(vi m)],.blk id3 3 [(vi l)],.blk id4 3 [(vi k)],.blk id5 3 [(vi x1.2.1)],.blk id6 36 [(vl (cI .i64) x1.1)],.blk (b1 + 2) 25 [(vi 0),(vi 0),.nils,.nils],.blk (b1 + 0) 25 (vF fine)])∨(∃ r',y2 = (.ret r')∧x = .ret∧Ends CX Try.f22.results.toList (.tup [(.agg (vs (Form.cs r'.1))),(vi r'.2)]) x e σ)) ⟨EI V,(H.erase 8)⟩ ?_) ?_
  ·intro s1 e σ hI z h;obtain ⟨he,H⟩:=hI;obtain ⟨e,rfl⟩:=he.ex;unfold Zb.s0 at h;refine .tR 1 V H fun b16 σ H => (.iV V (.na H fun H => (.then ?_)));refine .wh h V ?_ ?_ <;> intro h
   ·refine .skip (.then (.inBlock (.tR 2 V H fun b17 σ H => (.mV V (.aV V (.na H fun H => (.then (.Z0P 10 V (by kernel_rfl) H fun b18 σ H B18 => ?_))))))));refine .ZN H 0 V V V V V (so (B18 0 _ V _ V)) V (.ld (.clo 76 [] [(.ptr id1 1 0),(.ptr id3 1 0),(.ptr id2 1 0),(.ptr id6 1 0),(.ptr id5 1 0),(.ptr id4 1 0)]) H 0 V V V V V (so (B18 0 _ V _ V)) V (.mV V (.iV V ?_)));obtain ⟨x5,q5,h⟩:=bs h;refine .callVS (cv:=(.clo 76 [] [(.ptr id1 1 0),(.ptr id3 1 0),(.ptr id2 1 0),(.ptr id6 1 0),(.ptr id5 1 0),(.ptr id4 1 0)])) (ys:=[(vi (w64 (s1 + 1)))]) (r:=(vi x5)) H V V (CloH.clo (Z1B q5)) (.cons 1 V (.cons 3 V (.cons 2 V (.cons 6 V (.cons 5 V (.cons 4 V .nil)))))) V V (fun _ => by kernel_rfl) V fun σ H => (.ZN H 0 V V V V V (so (B18 0 _ V _ V)) V (.ld (.clo 76 [] [(.ptr id1 1 0),(.ptr id3 1 0),(.ptr id2 1 0),(.ptr id6 1 0),(.ptr id5 1 0),(.ptr id4 1 0)]) H 0 V V V V V (so (B18 0 _ V _ V)) V (.mV V ?_)));obtain ⟨x6,q6,h⟩:=bs h;refine .callV (cv:=(.clo 76 [] [(.ptr id1 1 0),(.ptr id3 1 0),(.ptr id2 1 0),(.ptr id6 1 0),(.ptr id5 1 0),(.ptr id4 1 0)])) (ys:=[(vi s1)]) (r:=(vi x6)) H V V (CloH.clo (Z1B q6)) (.cons 1 V (.cons 3 V (.cons 2 V (.cons 6 V (.cons 5 V (.cons 4 V .nil)))))) (fun _ => by kernel_rfl) V fun σ H => (.iV V (.na H fun H => ?_))
    refine .wh h V ?_ ?_ <;> intro h
    ·refine .tR 3 V H fun b19 σ H => (.bV [(vi 0),(vi 0),.nils,.nils] V (.sV [(vi 0),(vi 0),.nils,.nils] H 7 V fun σ H => (.aV V (.na H fun H => (.ret ?_)))));obtain rfl:=sj h;exact ⟨nofun,(.inr ⟨_,V,V,(Ends.H (xs:=[(.agg [(vi 0),(vi 0),.nils,.nils]),(vi 51)]) (.inr V) H (.agg (cs:=[(vi 0),(vi 0),.nils,.nils]) 7 V V V V V V V (.tmp (v:=(vi 51)) V .nil)) (.two (.cons (.a (.cons (.v _) (.cons (.v _) (.cons .n (.cons .n .nil))))) (.cons (.c (.v _)) .nil))))⟩)⟩
    refine .skip (.ZJ 2 V H fun b20 σ H => (.iV V (.mV V (.na H fun H => ?_))));obtain rfl:=sj h;exact ⟨V,EI V,H⟩
   refine .exit ?_;obtain rfl:=sj h;exact ⟨nofun,(.inl ⟨_,V,V,EI V,H⟩)⟩
  ·rintro x e σ (⟨a2,rfl,rfl,he,H⟩ | ⟨r',rfl,rfl,hE⟩)
   ·replace h:=jgo h;obtain ⟨e,rfl⟩:=he.ex;refine .tR 10 V H fun b21 σ H => (.fV H 8 V (.lV H 8 V (.fV H 0 V (.lV H 0 V ?_))));obtain ⟨x7,q7,h⟩:=bs h;refine .cV (safe_Gcd_fn q7) V (.m1 (.tup [(vi x7.1),(vi x7.2)]) V V (.xV V (.xV V (.aV V (.aV V (.na H fun H => (.tR 5 V H fun b22 σ H => (.fV H 8 V ?_))))))));refine .lV H 8 V (.mV V ?_);obtain ⟨u1,q8,h⟩:=bs h;refine .quo (m:=fine.Count) (m':=x7.1) V V (Z6D q8) V (.aV V (.na H fun H => (.then (.tR 12 V H fun b23 σ H => (.fV H 0 V (.lV H 0 V (.mV V (.iV V ?_))))))));refine .iV V (.mV V ?_);refine .md H 6 [(110,(vb ((decide ((w64 (y1.1 * (w64 (fine.Count.tdiv x7.1)))) > 6000)) || (decide ((w64 (y1.2 * (w64 (fine.Count.tdiv x7.1)))) > 60000))))),(5,(.ptr (b1 + 0) 4 0)),(10,(.ptr (b1 + 2) 4 0)),(15,(.ptr (b7 + 6) 3 0)),(19,(vi (w64 (fine.Count.tdiv x7.1))))] [.blk (b7 + 6) 77 [(.clo 76 [] [(.ptr id1 1 0),(.ptr id3 1 0),(.ptr id2 1 0),(.ptr id6 1 0),(.ptr id5 1 0),(.ptr id4 1 0)]),(vi y1.1),(vi y1.2)],.blk id1 3 [(vi (x1.1.length:Int))],.blk id2 3 [(vi m)],.blk id3 3 [(vi l)],.blk id4 3 [(vi k)],.blk id5 3 [(vi x1.2.1)],.blk id6 36 [(vl (cI .i64) x1.1)],.blk (b1 + 2) 25 [(vi 0),(vi 0),.nils,.nils],.blk (b1 + 0) 25 (vF fine)] rfl ?_ fun e σ H => ?_
    ·refine .split V V ?_ ?_ <;> intro hc11
     ·refine .ps 5 V (.kT V (.nil ?_));exact ⟨⟨or_T hc11,V,V,V,V,U⟩,H.wk (by omega)⟩
     ·refine .fV H 0 V (.lV H 0 V (.mV V (.iV V (.iV V (.kF V (.nil ?_))))));exact ⟨⟨or_F hc11,V,V,V,V,U⟩,H.wk (by omega)⟩
    refine .na H fun H => ?_;refine .wh h V ?_ ?_ <;> intro h
    ·refine .tR 3 V H fun b24 σ H => (.bV [(vi 0),(vi 0),.nils,.nils] V (.sV [(vi 0),(vi 0),.nils,.nils] H 7 V fun σ H => (.aV V (.na H fun H => (.ret ?_)))));obtain rfl:=sj h;exact (Ends.H (xs:=[(.agg [(vi 0),(vi 0),.nils,.nils]),(vi 3)]) (.inr V) H (.agg (cs:=[(vi 0),(vi 0),.nils,.nils]) 7 V V V V V V V (.tmp (v:=(vi 3)) V .nil)) (.two (.cons (.a (.cons (.v _) (.cons (.v _) (.cons .n (.cons .n .nil))))) (.cons (.c (.v _)) .nil))))
    refine .skip (.then (.Z0P 15 V (by kernel_rfl) H fun b25 σ H B25 => (.ZN H 0 V V V V V (so (B25 0 _ V _ V)) V (.ld (vi y1.2) H 0 V V V V V (so (B25 0 _ V _ V)) V (.mV V (.iV V (.ZN H 8 V V V V V (so (B25 8 _ V _ V)) V (.ld (vi fine.Count) H 8 V V V V V (so (B25 8 _ V _ V)) V ?_))))))));obtain ⟨u2,q9,h⟩:=bs h;refine .quo (m:=(w64 (y1.2 * (w64 (fine.Count.tdiv x7.1))))) (m':=fine.Count) V V (Z6D q9) V (.ZN H 8 V V V V V (so (B25 8 _ V _ V)) V (.ld (vi fine.Period) H 8 V V V V V (so (B25 8 _ V _ V)) V (.cV (Z3s V) V (.m1 (.tup [(vi (Z7 (w64 ((w64 (y1.2 * (w64 (fine.Count.tdiv x7.1)))).tdiv fine.Count)) fine.Period).1),(vi (Z7 (w64 ((w64 (y1.2 * (w64 (fine.Count.tdiv x7.1)))).tdiv fine.Count)) fine.Period).2)]) V V (.xV V (.xV V (.aV V (.aV V ?_))))))));refine .na H fun H => (.then (.tR 6 V H fun b26 σ H => (.mV V (.iV V (.mV V ?_)))));refine .md H 3 [(130,(vb ((((Z7 (w64 ((w64 (y1.2 * (w64 (fine.Count.tdiv x7.1)))).tdiv fine.Count)) fine.Period).2) != 0) || (decide (((Z7 (w64 ((w64 (y1.2 * (w64 (fine.Count.tdiv x7.1)))).tdiv fine.Count)) fine.Period).1) > 1099511627776))))),(5,(.ptr (b1 + 0) 4 0)),(10,(.ptr (b1 + 2) 4 0)),(15,(.ptr (b7 + 6) 3 0)),(19,(vi (w64 (fine.Count.tdiv x7.1)))),(20,(vi (Z7 (w64 ((w64 (y1.2 * (w64 (fine.Count.tdiv x7.1)))).tdiv fine.Count)) fine.Period).1))] [.blk (b7 + 6) 77 [(.clo 76 [] [(.ptr id1 1 0),(.ptr id3 1 0),(.ptr id2 1 0),(.ptr id6 1 0),(.ptr id5 1 0),(.ptr id4 1 0)]),(vi y1.1),(vi y1.2)],.blk id1 3 [(vi (x1.1.length:Int))],.blk id2 3 [(vi m)],.blk id3 3 [(vi l)],.blk id4 3 [(vi k)],.blk id5 3 [(vi x1.2.1)],.blk id6 36 [(vl (cI .i64) x1.1)],.blk (b1 + 2) 25 [(vi 0),(vi 0),.nils,.nils],.blk (b1 + 0) 25 (vF fine)] rfl ?_ fun e σ H => ?_
    ·refine .split V V ?_ ?_ <;> intro hc13
     ·refine .ps 2 V (.kT V (.nil ?_));exact ⟨⟨or_T hc13,V,V,V,V,V,U⟩,H.wk (by omega)⟩
     ·refine .mV V (.iV V (.kF V (.nil ?_)));exact ⟨⟨or_F hc13,V,V,V,V,V,U⟩,H.wk (by omega)⟩
    refine .na H fun H => ?_;refine .wh h V ?_ ?_ <;> intro h
    ·refine .tR 3 V H fun b27 σ H => (.bV [(vi 0),(vi 0),.nils,.nils] V (.sV [(vi 0),(vi 0),.nils,.nils] H 7 V fun σ H => (.aV V (.na H fun H => (.ret ?_)))));obtain rfl:=sj h;exact (Ends.H (xs:=[(.agg [(vi 0),(vi 0),.nils,.nils]),(vi 20)]) (.inr V) H (.agg (cs:=[(vi 0),(vi 0),.nils,.nils]) 7 V V V V V V V (.tmp (v:=(vi 20)) V .nil)) (.two (.cons (.a (.cons (.v _) (.cons (.v _) (.cons .n (.cons .n .nil))))) (.cons (.c (.v _)) .nil))))
    refine .skip (.tR 8 V H fun b28 σ H => (.mV V (.fV H 0 V (.lV H 0 V (.mV V (.iV V (.bV [(vi (Z7 (w64 ((w64 (y1.2 * (w64 (fine.Count.tdiv x7.1)))).tdiv fine.Count)) fine.Period).1),(vi (w64 (y1.1 * (w64 (fine.Count.tdiv x7.1))))),.nils,.nils] V (.alc (cs:=[(vi 0),(vi 0),.nils,.nils]) H V V fun σ H => ?_))))))));refine .sV [(vi (Z7 (w64 ((w64 (y1.2 * (w64 (fine.Count.tdiv x7.1)))).tdiv fine.Count)) fine.Period).1),(vi (w64 (y1.1 * (w64 (fine.Count.tdiv x7.1))))),.nils,.nils] H 0 V fun σ H => (.na H fun H => (.then (.tR 3 V H fun b29 σ H => (.fV H 0 V (.lV H 0 V (.mV V (.na H fun H => (.inBlock ?_))))))));replace H:=H.pushNil 37 1 true;obtain ⟨y3,hj3,h⟩:=bs h;obtain ⟨n2,hj3⟩:=ZR.1 hj3;refine .mono (Runs.loopO hj3 (fun s3 e σ => ∃ (w3:PV),ZE e [(5,(.ptr (b1 + 0) 4 0)),(10,(.ptr (b1 + 2) 4 0)),(15,(.ptr (b7 + 6) 3 0)),(21,(.ptr (b28 + 6) 4 0)),(139,(vi (w64 (y1.1 * (w64 (fine.Count.tdiv x7.1)))))),(140,(vi s3.1))]∧Hs σ [.sl w3 37 1 (s3.2.map (cL Span.cs)) true,.blk (b28 + 6) 25 [(vi (Z7 (w64 ((w64 (y1.2 * (w64 (fine.Count.tdiv x7.1)))).tdiv fine.Count)) fine.Period).1),(vi (w64 (y1.1 * (w64 (fine.Count.tdiv x7.1))))),w3,.nils],.blk (b7 + 6) 77 [(.clo 76 [] [(.ptr id1 1 0),(.ptr id3 1 0),(.ptr id2 1 0),(.ptr id6 1 0),(.ptr id5 1 0),(.ptr id4 1 0)]),(vi y1.1),(vi y1.2)],.blk id1 3 [(vi (x1.1.length:Int))],.blk id2 3 [(vi m)],.blk id3 3 [(vi l)],.blk id4 3 [(vi k)],.blk id5 3 [(vi x1.2.1)],.blk id6 36 [(vl (cI .i64) x1.1)],.blk (b1 + 2) 25 [(vi 0),(vi 0),.nils,.nils],.blk (b1 + 0) 25 (vF fine)]) (fun y3 x e σ => (∃ a3,∃ (w4:PV),y3 = (.go a3)∧x = .exit 2∧ZE e [(10,(.ptr (b1 + 2) 4 0)),(21,(.ptr (b28 + 6) 4 0))]∧Hs σ [.sl w4 37 1 (a3.1.map (cL Span.cs)) true,.blk (b28 + 6) 25 [(vi a3.2.1),(vi a3.2.2),w4,.nils],.blk (b1 + 2) 25 [(vi 0),(vi 0),.nils,.nils]])∨(∃ r',y3 = (.ret r')∧x = .ret∧Ends CX Try.f22.results.toList (.tup [(.agg (vs (Form.cs r'.1))),(vi r'.2)]) x e σ)) ⟨.nils,EI V,H⟩ ?_) ?_
    ·intro s3 e σ hI z h;obtain ⟨w3,he,H⟩:=hI;obtain ⟨e,rfl⟩:=he.ex;unfold Zb.s1 at h;refine .tR 1 V H fun b30 σ H => (.iV V (.na H fun H => (.then ?_)));refine .wh h V ?_ ?_ <;> intro h
     ·refine .skip (.then (.inBlock (.tR 2 V H fun b31 σ H => (.mV V (.aV V (.na H fun H => (.then (.Z0P 16 V (by kernel_rfl) H fun b32 σ H B32 => ?_))))))));refine .Z2N (cs:=(vF fine)) H 10 V V V V V V V (so (B32 10 _ V _ V)) V (.ZN H 2 V V V V V (so (B32 2 _ V _ V)) V (.ld (.clo 76 [] [(.ptr id1 1 0),(.ptr id3 1 0),(.ptr id2 1 0),(.ptr id6 1 0),(.ptr id5 1 0),(.ptr id4 1 0)]) H 2 V V V V V (so (B32 2 _ V _ V)) V (.mV V ?_)));obtain ⟨x8,q10,h⟩:=bs h;refine .callVS (cv:=(.clo 76 [] [(.ptr id1 1 0),(.ptr id3 1 0),(.ptr id2 1 0),(.ptr id6 1 0),(.ptr id5 1 0),(.ptr id4 1 0)])) (ys:=[(vi s3.1)]) (r:=(vi x8)) H V V (CloH.clo (Z1B q10)) (.cons 3 V (.cons 5 V (.cons 4 V (.cons 8 V (.cons 7 V (.cons 6 V .nil)))))) V V (fun _ => by kernel_rfl) V fun σ H => (.ZN H 2 V V V V V (so (B32 2 _ V _ V)) V (.ld (.clo 76 [] [(.ptr id1 1 0),(.ptr id3 1 0),(.ptr id2 1 0),(.ptr id6 1 0),(.ptr id5 1 0),(.ptr id4 1 0)]) H 2 V V V V V (so (B32 2 _ V _ V)) V (.mV V (.iV V ?_))));obtain ⟨x9,q11,h⟩:=bs h;refine .callVS (cv:=(.clo 76 [] [(.ptr id1 1 0),(.ptr id3 1 0),(.ptr id2 1 0),(.ptr id6 1 0),(.ptr id5 1 0),(.ptr id4 1 0)])) (ys:=[(vi (w64 (s3.1 + 1)))]) (r:=(vi x9)) H V V (CloH.clo (Z1B q11)) (.cons 3 V (.cons 5 V (.cons 4 V (.cons 8 V (.cons 7 V (.cons 6 V .nil)))))) V V (fun _ => by kernel_rfl) V fun σ H => ?_
      obtain ⟨x10,q12,h⟩:=bs h;refine .cV (Z44 q12) V (.m1 (.tup [(vl Span.cs x10.1),(vi x10.2)]) V V (.xV V (.xV V (.aV V (.aV V (.na H fun H => (.then (.tR 2 V H fun b33 σ H => ?_))))))));refine .mV V (.iV V (.na H fun H => ?_));refine .wh h V ?_ ?_ <;> intro h
      ·refine .tR 4 V H fun b34 σ H => (.bV [(vi 0),(vi 0),.nils,.nils] V (.mV V (.sV [(vi 0),(vi 0),.nils,.nils] H 9 V fun σ H => (.aV V (.na H fun H => (.ret ?_))))));obtain rfl:=sj h;exact ⟨nofun,(.inr ⟨_,V,V,(Ends.H (xs:=[(.agg [(vi 0),(vi 0),.nils,.nils]),(vi x10.2)]) (.inr V) H (.agg (cs:=[(vi 0),(vi 0),.nils,.nils]) 9 V V V V V V V (.tmp (v:=(vi x10.2)) V .nil)) (.two (.cons (.a (.cons (.v _) (.cons (.v _) (.cons .n (.cons .n .nil))))) (.cons (.c (.v _)) .nil))))⟩)⟩
      refine .skip (.ZJ 7 V H fun b35 σ H => (.fV H 1 V (.lV H 1 V (.mV V (.Z3o (sz:=1) ([x10.1].map (cL Span.cs)) H (by omega) (by omega) V V V V V V V V V fun σ H => ?_)))));obtain ⟨x11,q13,h⟩:=bs h;refine .Z3Z (c:=(cL Span.cs)) (v:=w3) (w:=(.buf (b35 + 3) 1 1)) (xs:=s3.2) (ys:=[x10.1]) H (by omega) (by omega) 1 V V V (.s 0 V) q13 V V V V V nofun V fun w5 σ H => (.fV H 2 V (.Z39 (v:=w5) (ys:=[w5]) (cells':=[(vi (Z7 (w64 ((w64 (y1.2 * (w64 (fine.Count.tdiv x7.1)))).tdiv fine.Count)) fine.Period).1),(vi (w64 (y1.1 * (w64 (fine.Count.tdiv x7.1))))),w5,.nils]) H 2 V V V V (H.slCells (k:=1) V) V V V V nofun fun σ H => (.na H fun H => (.ZJ 2 V H fun b36 σ H => (.iV V (.mV V (.na H fun H => ?_)))))));obtain rfl:=sj h;exact ⟨V,w5,EI V,(H.erase 0)⟩
     refine .exit ?_;obtain rfl:=sj h;exact ⟨nofun,(.inl ⟨_,w3,V,V,EI V,((((((((H.erase 10).erase 8).erase 7).erase 6).erase 5).erase 4).erase 3).erase 2)⟩)⟩
    ·rintro x e σ (⟨a4,w6,rfl,rfl,he,H⟩ | ⟨r',rfl,rfl,hE⟩)
     ·replace h:=jgo h;obtain ⟨e,rfl⟩:=he.ex;refine .tR 6 V H fun b37 σ H => (.LV [(vi a4.2.1),(vi a4.2.2),w6,.nils] H 1 V ?_);obtain ⟨x12,q14,h⟩:=bs h;refine .callX (xs:=[(.agg [(vi a4.2.1),(vi a4.2.2),w6,.nils])]) (ys:=[(.agg (vs (Form.cs (Form.mk a4.2.1 a4.2.2 a4.1 []))))]) H V (.cons (.a (.cons (.v _) (.cons (.v _) (.cons (.s 0 V) (.cons (.n) .nil))))) .nil) (Z8D q14) V V nofun V fun σ H => (.xV V (.xV V (.sV (vF x12.1) H 2 V fun σ H => (.aV V (.na H fun H => (.ret ?_))))));obtain rfl:=sj h;exact (Ends.H (xs:=[(.agg (vF x12.1)),(vi x12.2)]) (.inr V) H (.agg (cs:=(vF x12.1)) 2 V V V V V V V (.tmp (v:=(vi x12.2)) V .nil)) (.two (.cons (.p V) (.cons (.c (.v _)) .nil))))
     ·replace h:=jret h;obtain rfl:=sj h;exact hE
   ·replace h:=jret h;obtain rfl:=sj h;exact hE
theorem Z8n {r:Form} (h:Z3N = r):Fn CX 29 [] (.agg (vs (Form.cs r))):=by
 refine Fn.go Try.func29 V fun σ H => ?_;unfold Z3N at h;refine .tR 1 V H fun b1 σ H => (.alc (cs:=[(vi 0),(vi 0),.nils,.nils]) H V V fun σ H => (.na H fun H => (.tR 5 V H fun b2 σ H => (.bV [(vi 0),(vi 4)] V (.Z3o (sz:=2) ([(Span.mk 0 4)].map Span.cs) H (by omega) (by omega) V V V V V V V V V fun σ H => (.buildSF (sz:=1) ([[(Span.mk 0 4)]].map (cL Span.cs)) H (by omega) (by omega) V V (.exp (.c (.s 0 V)) .nil) V V V V V V V nofun fun σ H => (.bV [(vi 7),(vi 1),(.buf (b2 + 2) 1 1),.nils] V (.sV [(vi 7),(vi 1),(.buf (b2 + 2) 1 1),.nils] H 2 V fun σ H => ?_))))))));refine .na H fun H => (.ret ?_);subst h;exact (Ends.H (xs:=[(.agg [(vi 7),(vi 1),(.buf (b2 + 2) 1 1),.nils])]) (.inr V) H (.agg (cs:=[(vi 7),(vi 1),(.buf (b2 + 2) 1 1),.nils]) 2 V V V V V V V .nil) (.one (.a (.cons (.v _) (.cons (.v _) (.cons (.s 0 V) (.cons .n .nil)))))))
theorem Z9e {a:(List Int)} {b:(List Int)} {r:Bool} (h:Z0h a b = some r):Fn CX 47 [(vl (cI .i64) a),(vl (cI .i64) b)] (vb r):=by
 refine Fn.go Try.func47 V fun σ H => ?_;unfold Z0h at h;refine .tR 1 V H fun b1 σ H => (.aV V (.na H fun H => (.then (.tR 5 V H fun b2 σ H => (.mV V (.nV V (.mV V (.nV V ?_))))))));refine .iV V (.na H fun H => ?_);refine .wh h V ?_ ?_ <;> intro h
 ·refine .tR 1 V H fun b3 σ H => (.aV V (.na H fun H => (.ret ?_)));obtain rfl:=sj h;exact Ends.eR V
 refine .skip (.then (.tR 3 V H fun b4 σ H => (.mV V (.nV V (.mV V (.na H fun H => (.inBlock ?_)))))));obtain ⟨y1,hj1,h⟩:=bs h;obtain ⟨n1,hj1⟩:=ZR.1 hj1;refine .mono (Runs.loopO hj1 (fun s1 e σ => ZE e [(0,(vl (cI .i64) a)),(1,(vl (cI .i64) b)),(12,(vi (a.length:Int))),(13,(vi s1))]∧Hs σ []) (fun y1 x e σ => (∃ a1,y1 = (.go a1)∧x = .exit 0∧ZE e []∧Hs σ [])∨(∃ r',y1 = (.ret r')∧x = .ret∧Ends CX Try.f47.results.toList (vb r') x e σ)) ⟨EI V,H⟩ ?_) ?_
 ·intro s1 e σ hI z h;obtain ⟨he,H⟩:=hI;obtain ⟨e,rfl⟩:=he.ex;unfold Z0h.s0 at h;refine .tR 1 V H fun b5 σ H => (.iV V (.na H fun H => (.then ?_)));refine .wh h V ?_ ?_ <;> intro h
  ·refine .skip (.then (.inBlock (.tR 2 V H fun b6 σ H => (.mV V (.aV V (.na H fun H => (.then (.Z0P 9 V (by kernel_rfl) H fun b7 σ H B7 => ?_))))))));refine .mV V (.mV V ?_);obtain ⟨x1,q1,h⟩:=bs h;refine .jV q1 V (.pV V (.mV V (.mV V ?_)));obtain ⟨x2,q2,h⟩:=bs h;refine .jV q2 V (.pV V (.iV V (.na H fun H => ?_)));refine .wh h V ?_ ?_ <;> intro h
   ·refine .tR 1 V H fun b8 σ H => (.aV V (.na H fun H => (.ret ?_)));obtain rfl:=sj h;exact ⟨nofun,(.inr ⟨_,V,V,(Ends.H (xs:=[(vb false)]) (.inr V) H (.tmp (v:=(vb false)) V .nil) (.one (.c (.v _))))⟩)⟩
   refine .skip (.ZJ 2 V H fun b9 σ H => (.iV V (.mV V (.na H fun H => ?_))));obtain rfl:=sj h;exact ⟨V,EI V,H⟩
  refine .exit ?_;obtain rfl:=sj h;exact ⟨nofun,(.inl ⟨_,V,V,U,H⟩)⟩
 ·rintro x e σ (⟨a2,rfl,rfl,he,H⟩ | ⟨r',rfl,rfl,hE⟩)
  ·replace h:=jgo h;obtain ⟨e,rfl⟩:=he.ex;refine .tR 1 V H fun b10 σ H => (.aV V (.na H fun H => (.ret ?_)));obtain rfl:=sj h;exact Ends.eR V
  ·replace h:=jret h;obtain rfl:=sj h;exact hE
theorem Z3z {a:(List Span)} {b:(List Span)} {r:Bool} (h:Zh a b = some r):Fn CX 30 [(vl Span.cs a),(vl Span.cs b)] (vb r):=by
 refine Fn.go Try.func30 V fun σ H => ?_;unfold Zh at h;refine .tR 1 V H fun b1 σ H => (.aV V (.na H fun H => (.then (.tR 5 V H fun b2 σ H => (.mV V (.nV V (.mV V (.nV V ?_))))))));refine .iV V (.na H fun H => ?_);refine .wh h V ?_ ?_ <;> intro h
 ·refine .tR 1 V H fun b3 σ H => (.aV V (.na H fun H => (.ret ?_)));obtain rfl:=sj h;exact Ends.eR V
 refine .skip (.then (.tR 3 V H fun b4 σ H => (.mV V (.nV V (.mV V (.na H fun H => (.inBlock ?_)))))));obtain ⟨y1,hj1,h⟩:=bs h;obtain ⟨n1,hj1⟩:=ZR.1 hj1;refine .mono (Runs.loopO hj1 (fun s1 e σ => ZE e [(1,(vl Span.cs b)),(12,(vl Span.cs a)),(13,(vi (a.length:Int))),(14,(vi s1))]∧Hs σ []) (fun y1 x e σ => (∃ a1,y1 = (.go a1)∧x = .exit 0∧ZE e []∧Hs σ [])∨(∃ r',y1 = (.ret r')∧x = .ret∧Ends CX Try.f30.results.toList (vb r') x e σ)) ⟨EI V,H⟩ ?_) ?_
 ·intro s1 e σ hI z h;obtain ⟨he,H⟩:=hI;obtain ⟨e,rfl⟩:=he.ex;unfold Zh.s0 at h;refine .tR 1 V H fun b5 σ H => (.iV V (.na H fun H => (.then ?_)));refine .wh h V ?_ ?_ <;> intro h
  ·refine .skip (.then (.inBlock (.tR 6 V H fun b6 σ H => (.mV V ?_))));obtain ⟨x1,q1,h⟩:=bs h;refine .jV q1 V (.qV [(.int .i64 x1.From),(.int .i64 x1.To)] V (.alc (cs:=[(vi 0),(vi 0)]) H V V fun σ H => (.aV V (.sV [(vi x1.From),(vi x1.To)] H 0 V fun σ H => (.na H fun H => (.then (.Z0P 6 V (by kernel_rfl) H fun b7 σ H B7 => (.mV V ?_))))))));refine .mV V ?_;obtain ⟨x2,q2,h⟩:=bs h;refine .jV q2 V (.qV [(.int .i64 x2.From),(.int .i64 x2.To)] V (.Z2N (cs:=[(vi x1.From),(vi x1.To)]) H 0 V V V V V V V (so (B7 0 _ V _ V)) V (.binA (u:=(.agg [(vi x2.From),(vi x2.To)])) (w:=(.agg [(vi x1.From),(vi x1.To)])) (r:=.bool (!((x2.From == x1.From) && ((x2.To == x1.To) && true)))) V V (by kernel_rfl) (fun _ => ask_eqA V V V V) V (.na H fun H => ?_))));refine .wh h V ?_ ?_ <;> intro h
   ·refine .tR 1 V H fun b8 σ H => (.aV V (.na H fun H => (.ret ?_)));obtain rfl:=sj h;exact ⟨nofun,(.inr ⟨_,V,V,(Ends.H (xs:=[(vb false)]) (.inr V) H (.tmp (v:=(vb false)) V .nil) (.one (.c (.v _))))⟩)⟩
   refine .skip (.ZJ 2 V H fun b9 σ H => (.iV V (.mV V (.na H fun H => ?_))));obtain rfl:=sj h;exact ⟨V,EI V,(H.erase 0)⟩
  refine .exit ?_;obtain rfl:=sj h;exact ⟨nofun,(.inl ⟨_,V,V,U,H⟩)⟩
 ·rintro x e σ (⟨a2,rfl,rfl,he,H⟩ | ⟨r',rfl,rfl,hE⟩)
  ·replace h:=jgo h;obtain ⟨e,rfl⟩:=he.ex;refine .tR 1 V H fun b10 σ H => (.aV V (.na H fun H => (.ret ?_)));obtain rfl:=sj h;exact Ends.eR V
  ·replace h:=jret h;obtain rfl:=sj h;exact hE
end Go.Dn

namespace Go.Dn
open Go Go.Proofs
set_option maxRecDepth 100000
set_option maxHeartbeats 4000000
theorem Z8C {r:Bool} (h:Z0G = some r):Fn CX 21 [] (vb r):=by
 refine Fn.go Try.func21 V fun σ H => ?_;unfold Z0G at h;refine .tR 1 V H fun b1 σ H => (.aV V (.na H fun H => (.tR 3 V H fun b2 σ H => (.cV (Z9f V) V (.alc (cs:=[(vi 0),(vi 0),.nils,.nils]) H V V fun σ H => (.sV (vF Z9) H 0 V fun σ H => (.na H fun H => (.tR 8 V H fun b3 σ H => ?_))))))));refine .LV (vF Z9) H 0 V ?_;obtain ⟨x1,q1,h⟩:=bs h;refine .cV (Z7g q1) V (.m1 (.tup [(.agg (vF x1.1)),(vi x1.2)]) V V (.xV V (.xV V (.alc (cs:=[(vi 0),(vi 0),.nils,.nils]) H V V fun σ H => (.sV (vF x1.1) H 0 V fun σ H => (.aV V (.na H fun H => (.tR 10 V H fun b4 σ H => ?_))))))));refine .LV (vF Z9) H 1 V (.LV (vF x1.1) H 0 V ?_);obtain ⟨x2,q2,h⟩:=bs h;refine .cV (Z5r q2) V (.m1 (.tup [(vl (cI .i64) x2.1),(vi x2.2.1),(vi x2.2.2)]) V V (.xV V (.xV V (.xV V (.aV V (.aV V (.aV V (.na H fun H => ?_))))))));refine .tR 9 V H fun b5 σ H => (.LV (vF Z9) H 1 V (.LV (vF x1.1) H 0 V ?_));obtain ⟨x3,q3,h⟩:=bs h;refine .cV (Z1f q3) V (.m1 (.tup [(.agg (vF x3.1)),(vi x3.2)]) V V (.xV V (.xV V (.alc (cs:=[(vi 0),(vi 0),.nils,.nils]) H V V fun σ H => (.sV (vF x3.1) H 0 V fun σ H => (.aV V (.na H fun H => (.tR 9 V H fun b6 σ H => ?_))))))));refine .LV (vF Z9) H 2 V (.LV (vF x1.1) H 1 V ?_);obtain ⟨x4,q4,h⟩:=bs h;refine .cV (Z1f q4) V (.m1 (.tup [(.agg (vF x4.1)),(vi x4.2)]) V V (.xV V (.xV V (.alc (cs:=[(vi 0),(vi 0),.nils,.nils]) H V V fun σ H => (.sV (vF x4.1) H 0 V fun σ H => (.aV V (.na H fun H => (.then ?_))))))))
 refine .Z0P 10 V (by kernel_rfl) H fun b7 σ H B7 => (.Z2N (cs:=(vF Z9)) H 3 V V V V V V V (so (B7 3 _ V _ V)) V (.cV (Z8n V) V ?_));obtain ⟨x5,q5,h⟩:=bs h;refine .cV (Z5r q5) V (.m1 (.tup [(vl (cI .i64) x5.1),(vi x5.2.1),(vi x5.2.2)]) V V (.xV V (.xV V (.xV V (.aV V (.aV V (.aV V (.na H fun H => ?_))))))));refine .tR 9 V H fun b8 σ H => (.LV (vF Z9) H 3 V (.LV (vF x1.1) H 2 V ?_));obtain ⟨x6,q6,h⟩:=bs h;refine .cV (Z1f q6) V (.m1 (.tup [(.agg (vF x6.1)),(vi x6.2)]) V V (.xV V (.xV V (.alc (cs:=[(vi 0),(vi 0),.nils,.nils]) H V V fun σ H => (.sV (vF x6.1) H 0 V fun σ H => (.aV V (.na H fun H => (.then ?_))))))));refine .tR 42 V H fun b9 σ H => (.mV V (.iV V (.mV V ?_)));refine .md H 3 [(63,(vb ((x1.2 != 0) || (x2.2.2 != 0)))),(4,(vl (cI .i64) x2.1)),(5,(vi x2.2.1)),(7,(.ptr (b5 + 6) 4 0)),(8,(vi x3.2)),(10,(vi x4.2)),(13,(vi x5.2.2)),(15,(vi x6.2))] [.blk (b5 + 6) 25 (vF x3.1)] rfl ?_ fun e σ H => ?_
 ·refine .split V V ?_ ?_ <;> intro hc1
  ·refine .ps 2 V (.kT V (.nil ?_));exact ⟨⟨or_T hc1,V,V,V,V,V,V,V,U⟩,((((H.erase 4).erase 3).erase 1).erase 0).wk (by omega)⟩
  ·refine .mV V (.iV V (.kF V (.nil ?_)));exact ⟨⟨or_F hc1,V,V,V,V,V,V,V,U⟩,((((H.erase 4).erase 3).erase 1).erase 0).wk (by omega)⟩
 refine .mV V ?_;refine .md H 3 [(67,(vb (((x1.2 != 0) || (x2.2.2 != 0)) || (x3.2 != 0)))),(4,(vl (cI .i64) x2.1)),(5,(vi x2.2.1)),(7,(.ptr (b5 + 6) 4 0)),(10,(vi x4.2)),(13,(vi x5.2.2)),(15,(vi x6.2))] [.blk (b5 + 6) 25 (vF x3.1)] rfl ?_ fun e σ H => ?_
 ·refine .split V V ?_ ?_ <;> intro hc2
  ·refine .ps 2 V (.kT V (.nil ?_));exact ⟨⟨or_T hc2,V,V,V,V,V,V,U⟩,H.wk (by omega)⟩
  ·refine .mV V (.iV V (.kF V (.nil ?_)));exact ⟨⟨or_F hc2,V,V,V,V,V,V,U⟩,H.wk (by omega)⟩
 refine .mV V ?_;refine .md H 3 [(71,(vb ((((x1.2 != 0) || (x2.2.2 != 0)) || (x3.2 != 0)) || (x4.2 != 51)))),(4,(vl (cI .i64) x2.1)),(5,(vi x2.2.1)),(7,(.ptr (b5 + 6) 4 0)),(13,(vi x5.2.2)),(15,(vi x6.2))] [.blk (b5 + 6) 25 (vF x3.1)] rfl ?_ fun e σ H => ?_
 ·refine .split V V ?_ ?_ <;> intro hc3
  ·refine .ps 2 V (.kT V (.nil ?_));exact ⟨⟨or_T hc3,V,V,V,V,V,U⟩,H.wk (by omega)⟩
  ·refine .mV V (.iV V (.kF V (.nil ?_)));exact ⟨⟨or_F hc3,V,V,V,V,V,U⟩,H.wk (by omega)⟩
 refine .mV V ?_;refine .md H 3 [(75,(vb (((((x1.2 != 0) || (x2.2.2 != 0)) || (x3.2 != 0)) || (x4.2 != 51)) || (x5.2.2 != 51)))),(4,(vl (cI .i64) x2.1)),(5,(vi x2.2.1)),(7,(.ptr (b5 + 6) 4 0)),(15,(vi x6.2))] [.blk (b5 + 6) 25 (vF x3.1)] rfl ?_ fun e σ H => ?_
 ·refine .split V V ?_ ?_ <;> intro hc4
  ·refine .ps 2 V (.kT V (.nil ?_));exact ⟨⟨or_T hc4,V,V,V,V,U⟩,H.wk (by omega)⟩
  ·refine .mV V (.iV V (.kF V (.nil ?_)));exact ⟨⟨or_F hc4,V,V,V,V,U⟩,H.wk (by omega)⟩
 refine .mV V ?_;refine .md H 3 [(79,(vb ((((((x1.2 != 0) || (x2.2.2 != 0)) || (x3.2 != 0)) || (x4.2 != 51)) || (x5.2.2 != 51)) || (x6.2 != 2)))),(4,(vl (cI .i64) x2.1)),(5,(vi x2.2.1)),(7,(.ptr (b5 + 6) 4 0))] [.blk (b5 + 6) 25 (vF x3.1)] rfl ?_ fun e σ H => ?_
 ·refine .split V V ?_ ?_ <;> intro hc5
  ·refine .ps 2 V (.kT V (.nil ?_));exact ⟨⟨or_T hc5,V,V,V,U⟩,H.wk (by omega)⟩
  ·refine .mV V (.iV V (.kF V (.nil ?_)));exact ⟨⟨or_F hc5,V,V,V,U⟩,H.wk (by omega)⟩
 refine .mV V ?_;refine .md H 3 [(83,(vb (((((((x1.2 != 0) || (x2.2.2 != 0)) || (x3.2 != 0)) || (x4.2 != 51)) || (x5.2.2 != 51)) || (x6.2 != 2)) || (x2.2.1 != 7)))),(4,(vl (cI .i64) x2.1)),(7,(.ptr (b5 + 6) 4 0))] [.blk (b5 + 6) 25 (vF x3.1)] rfl ?_ fun e σ H => ?_
 ·refine .split V V ?_ ?_ <;> intro hc6
  ·refine .ps 2 V (.kT V (.nil ?_));exact ⟨⟨or_T hc6,V,V,U⟩,H.wk (by omega)⟩
  ·refine .mV V (.iV V (.kF V (.nil ?_)));exact ⟨⟨or_F hc6,V,V,U⟩,H.wk (by omega)⟩
 refine .mV V ?_;obtain ⟨y1,hj1,h⟩:=bs h;refine .md H 5 [(89,(vb y1)),(7,(.ptr (b5 + 6) 4 0))] [.blk (b5 + 6) 25 (vF x3.1)] V ?_ fun e σ H => ?_
 ·refine .sp hj1 V ?_ ?_ <;> intro h
  ·refine .ps 4 V (.kT V (.nil ?_));obtain rfl:=sj h;exact ⟨EI V,H.wk (by omega)⟩
  refine .mV V (.wt V V (.Z3o (sz:=1) ([0].map (cI .i64)) H (by omega) (by omega) V V V V V V V V V fun σ H => (.wt V V ?_)));obtain ⟨x7,q7,h⟩:=bs h;refine .callX (xs:=[(vl (cI .i64) x2.1),(.buf (b9 + 28) 1 1)]) (ys:=[(vl (cI .i64) x2.1),(vl (cI .i64) [0])]) H V (.cons (.c (.v _)) (.cons (.c (.s 0 V)) .nil)) (Z9e q7) V V nofun V fun σ H => (.tV V (.kF V (.nil ?_)));obtain rfl:=sj h;exact ⟨EI V,(H.erase 0).wk (by omega)⟩
 refine .mV V ?_;refine .md H 4 [(94,(vb (y1 || (x3.1.Period != 29)))),(7,(.ptr (b5 + 6) 4 0))] [.blk (b5 + 6) 25 (vF x3.1)] rfl ?_ fun e σ H => ?_
 ·refine .split V V ?_ ?_ <;> intro hc8
  ·refine .ps 3 V (.kT V (.nil ?_));exact ⟨⟨or_T hc8,V,U⟩,H.wk (by omega)⟩
  ·refine .fV H 0 V (.lV H 0 V (.iV V (.kF V (.nil ?_))));exact ⟨⟨or_F hc8,V,U⟩,H.wk (by omega)⟩
 refine .mV V ?_;refine .md H 4 [(99,(vb ((y1 || (x3.1.Period != 29)) || (x3.1.Count != 4)))),(7,(.ptr (b5 + 6) 4 0))] [.blk (b5 + 6) 25 (vF x3.1)] rfl ?_ fun e σ H => ?_
 ·refine .split V V ?_ ?_ <;> intro hc9
  ·refine .ps 3 V (.kT V (.nil ?_));exact ⟨⟨or_T hc9,V,U⟩,H.wk (by omega)⟩
  ·refine .fV H 0 V (.lV H 0 V (.iV V (.kF V (.nil ?_))));exact ⟨⟨or_F hc9,V,U⟩,H.wk (by omega)⟩
 refine .na H fun H => ?_;refine .wh h V ?_ ?_ <;> intro h
 ·refine .tR 1 V H fun b10 σ H => (.aV V (.na H fun H => (.ret ?_)));obtain rfl:=sj h;exact Ends.eR V
 refine .skip (.then (.tR 7 V H fun b11 σ H => (.bV [(vi 0),(vi 7)] V (.bV [(vi 8),(vi 14)] V (.bV [(vi 15),(vi 21)] V (.bV [(vi 22),(vi 28)] V (.Z3o (sz:=2) ([(Span.mk 0 7),(Span.mk 8 14),(Span.mk 15 21),(Span.mk 22 28)].map Span.cs) H (by omega) (by omega) V V V V V V V V V fun σ H => (.Z8t (c:=Span.cs) (xs:=[(Span.mk 0 7),(Span.mk 8 14),(Span.mk 15 21),(Span.mk 22 28)]) H 0 V V V nofun V ?_))))))));refine .mV V (.na H fun H => (.inBlock ?_));obtain ⟨y2,hj2,h⟩:=bs h;obtain ⟨n1,hj2⟩:=ZR.1 hj2;refine .mono (Runs.loopO hj2 (fun s1 e σ => ZE e [(7,(.ptr (b5 + 6) 4 0)),(104,(.buf (b11 + 4) 4 2)),(105,(vi ([(Span.mk 0 7),(Span.mk 8 14),(Span.mk 15 21),(Span.mk 22 28)].length:Int))),(106,(vi s1))]∧Hs σ [.sl (.buf (b11 + 4) 4 2) 59 2 ([(Span.mk 0 7),(Span.mk 8 14),(Span.mk 15 21),(Span.mk 22 28)].map Span.cs) true,.blk (b5 + 6) 25 (vF x3.1)]) (fun y2 x e σ => (∃ a1,y2 = (.go a1)∧x = .exit 0∧ZE e []∧Hs σ [])∨(∃ r',y2 = (.ret r')∧x = .ret∧Ends CX Try.f21.results.toList (vb r') x e σ)) ⟨EI V,H⟩ ?_) ?_
 ·intro s1 e σ hI z h;obtain ⟨he,H⟩:=hI;obtain ⟨e,rfl⟩:=he.ex;unfold Z0G.s0 at h;refine .tR 1 V H fun b12 σ H => (.iV V (.na H fun H => (.then ?_)));refine .wh h V ?_ ?_ <;> intro h
  ·refine .skip (.then (.inBlock (.tR 6 V H fun b13 σ H => (.mV V ?_))));obtain ⟨x8,q8,h⟩:=bs h;refine .Z5B H 0 V V V (at?_map q8) V V nofun V ?_;intro id1 hv1;refine .loadSA (id:=id1) H 0 V hv1 (by simp) (at?_map q8) V V V V nofun V ?_;refine .alc (cs:=[(vi 0),(vi 0)]) H V V fun σ H => (.aV V (.sV [(vi x8.From),(vi x8.To)] H 0 V fun σ H => (.na H fun H => (.tR 8 V H fun b14 σ H => (.LV (vF x3.1) H 2 V (.mV V ?_))))));obtain ⟨x9,q9,h⟩:=bs h;refine .cV (Z2U q9) V (.m1 (.tup [(vl Span.cs x9.1),(vi x9.2)]) V V (.xV V (.xV V (.aV V (.aV V (.na H fun H => (.tR 9 V H fun b15 σ H => (.mV V ?_))))))));refine .iV V (.mV V ?_);obtain ⟨y3,hj3,h⟩:=bs h;refine .md H 6 [(125,(vb y3)),(7,(.ptr (b5 + 6) 4 0)),(104,(.buf (b11 + 4) 4 2)),(105,(vi ([(Span.mk 0 7),(Span.mk 8 14),(Span.mk 15 21),(Span.mk 22 28)].length:Int))),(106,(vi s1))] [.sl (.buf (b11 + 4) 4 2) 59 2 ([(Span.mk 0 7),(Span.mk 8 14),(Span.mk 15 21),(Span.mk 22 28)].map Span.cs) true,.blk (b5 + 6) 25 (vF x3.1)] V ?_ fun e σ H => ?_
   ·refine .sp hj3 V ?_ ?_ <;> intro h
    ·refine .ps 5 V (.kT V (.nil ?_));obtain rfl:=sj h;exact ⟨EI V,(H.erase 0).wk (by omega)⟩
    refine .mV V (.LV [(vi x8.From),(vi x8.To)] H 0 V (.wt V V (.Z3o (sz:=2) ([x8].map Span.cs) H (by omega) (by omega) V V V V V V V V V fun σ H => (.wt V V ?_))));obtain ⟨x10,q10,h⟩:=bs h;refine .callX (xs:=[(vl Span.cs x9.1),(.buf (b15 + 5) 1 2)]) (ys:=[(vl Span.cs x9.1),(vl Span.cs [x8])]) H V (.cons (.c (.v _)) (.cons (.c (.s 0 V)) .nil)) (Z3z q10) V V nofun V fun σ H => (.tV V (.kF V (.nil ?_)));obtain rfl:=sj h;exact ⟨EI V,((H.erase 1).erase 0).wk (by omega)⟩
   refine .na H fun H => ?_;refine .wh h V ?_ ?_ <;> intro h
   ·refine .tR 1 V H fun b16 σ H => (.aV V (.na H fun H => (.ret ?_)));obtain rfl:=sj h;exact ⟨nofun,(.inr ⟨_,V,V,(Ends.H (xs:=[(vb false)]) (.inr V) H (.tmp (v:=(vb false)) V .nil) (.one (.c (.v _))))⟩)⟩
   refine .skip (.ZJ 2 V H fun b17 σ H => (.iV V (.mV V (.na H fun H => ?_))));obtain rfl:=sj h;exact ⟨V,EI V,H⟩
  refine .exit ?_;obtain rfl:=sj h;exact ⟨nofun,(.inl ⟨_,V,V,U,((H.erase 1).erase 0)⟩)⟩
 ·rintro x e σ (⟨a2,rfl,rfl,he,H⟩ | ⟨r',rfl,rfl,hE⟩)
  ·replace h:=jgo h;obtain ⟨e,rfl⟩:=he.ex;refine .tR 1 V H fun b18 σ H => (.aV V (.na H fun H => (.ret ?_)));obtain rfl:=sj h;exact Ends.eR V
  ·replace h:=jret h;obtain rfl:=sj h;exact hE
theorem Z2G {r:Bool} (h:Zm = r):Fn CX 21 [] (vb r):=by
 subst h;exact Z8C Z7U
theorem Z9d {f:Form} {m:Int} {r:Form × Form × Bool} (h:Z08 f m = some r):Fn CX 20 [(.agg (vs (Form.cs f))),(.v (.int .u8 m))] (.tup [(.agg (vs (Form.cs r.1))),(.agg (vs (Form.cs r.2.1))),(vb r.2.2)]):=by
 refine Fn.go Try.func20 V fun σ H => ?_;unfold Z08 at h;refine .tR 4 V H fun b1 σ H => (.bxc (cs:=(vF f)) H V V V fun σ H => (.alc (cs:=[(vi 0),(vi 0),.nils,.nils]) H V V fun σ H => (.alc (cs:=[(vi 0),(vi 0),.nils,.nils]) H V V fun σ H => (.aV V (.na H fun H => (.then (.tR 14 V H fun b2 σ H => (.LV (vF f) H 2 V ?_))))))));obtain ⟨x1,q1,h⟩:=bs h;refine .cV (ZA8 q1) V (.tV V (.mV V ?_));refine .md H 4 [(18,(vb ((!x1) || (f.Count == 0)))),(1,(.v (.int .u8 m))),(2,(.ptr (b1 + 0) 4 0)),(4,(.ptr (b1 + 1) 4 0)),(5,(.ptr (b1 + 2) 4 0))] [.blk (b1 + 2) 25 [(vi 0),(vi 0),.nils,.nils],.blk (b1 + 1) 25 [(vi 0),(vi 0),.nils,.nils],.blk (b1 + 0) 25 (vF f)] rfl ?_ fun e σ H => ?_
 ·refine .split V V ?_ ?_ <;> intro hc1
  ·refine .ps 3 V (.kT V (.nil ?_));exact ⟨⟨or_T hc1,V,V,V,V,U⟩,H.wk (by omega)⟩
  ·refine .fV H 2 V (.lV H 2 V (.iV V (.kF V (.nil ?_))));exact ⟨⟨or_F hc1,V,V,V,V,U⟩,H.wk (by omega)⟩
 refine .mV V ?_;refine .md H 5 [(24,(vb (((!x1) || (f.Count == 0)) || (decide ((f.Odd.length:Int) > 0))))),(1,(.v (.int .u8 m))),(2,(.ptr (b1 + 0) 4 0)),(4,(.ptr (b1 + 1) 4 0)),(5,(.ptr (b1 + 2) 4 0))] [.blk (b1 + 2) 25 [(vi 0),(vi 0),.nils,.nils],.blk (b1 + 1) 25 [(vi 0),(vi 0),.nils,.nils],.blk (b1 + 0) 25 (vF f)] rfl ?_ fun e σ H => ?_
 ·refine .split V V ?_ ?_ <;> intro hc2
  ·refine .ps 4 V (.kT V (.nil ?_));exact ⟨⟨or_T hc2,V,V,V,V,U⟩,H.wk (by omega)⟩
  ·refine .fV H 2 V (.lV H 2 V (.nV V (.iV V (.kF V (.nil ?_)))));exact ⟨⟨or_F hc2,V,V,V,V,U⟩,H.wk (by omega)⟩
 refine .na H fun H => ?_;refine .wh h V ?_ ?_ <;> intro h
 ·refine .then (.Z0P 5 V (by kernel_rfl) H fun b3 σ H B3 => (.Z2N (cs:=(vF f)) H 2 V V V V V V V (so (B3 2 _ V _ V)) V (.Z2N (cs:=(vF f)) H 2 V V V V V V V (so (B3 2 _ V _ V)) V (.Z39 (cells':=(vF f)) H 1 V V V V V V V V V (fun _ => .inl ⟨B3 1 _ V _ V,(Z63 [1] (by kernel_rfl) (.cons V V (ne_one (H.ne (j:=1) (k:=2) V V V V V)) .nil))⟩) fun σ H => (.Z39 (cells':=(vF f)) H 0 V V V V V V V V V (fun _ => .inl ⟨B3 0 _ V _ V,(Z2c (by kernel_rfl))⟩) fun σ H => (.aV V (.na H fun H => (.ret ?_))))))));obtain rfl:=sj h;exact (Ends.H (xs:=[(.agg (vF f)),(.agg (vF f)),(vb false)]) (.inr V) H (.agg (cs:=(vF f)) 1 V V V V V V V (.agg (cs:=(vF f)) 0 V V V V V V V (.tmp (v:=(vb false)) V .nil))) (.two (.cons (.p V) (.cons (.p V) (.cons (.c (.v _)) .nil)))))
 refine .skip (.then (.tR 4 V H fun b4 σ H => (.fV H 2 V (.lV H 2 V (.nV V (.mV V (.na H fun H => (.inBlock ?_))))))));obtain ⟨y1,hj1,h⟩:=bs h;obtain ⟨n1,hj1⟩:=ZR.1 hj1;refine .mono (Runs.loopO hj1 (fun s1 e σ => ZE e [(1,(.v (.int .u8 m))),(2,(.ptr (b1 + 0) 4 0)),(4,(.ptr (b1 + 1) 4 0)),(5,(.ptr (b1 + 2) 4 0)),(28,(vl (cL Span.cs) f.Core)),(29,(vi (f.Core.length:Int))),(30,(vi s1))]∧Hs σ [.blk (b1 + 2) 25 [(vi 0),(vi 0),.nils,.nils],.blk (b1 + 1) 25 [(vi 0),(vi 0),.nils,.nils],.blk (b1 + 0) 25 (vF f)]) (fun y1 x e σ => (∃ a1,y1 = (.go a1)∧x = .exit 0∧ZE e [(1,(.v (.int .u8 m))),(2,(.ptr (b1 + 0) 4 0)),(4,(.ptr (b1 + 1) 4 0)),(5,(.ptr (b1 + 2) 4 0))]∧Hs σ [.blk (b1 + 2) 25 [(vi 0),(vi 0),.nils,.nils],.blk (b1 + 1) 25 [(vi 0),(vi 0),.nils,.nils],.blk (b1 + 0) 25 (vF f)])∨(∃ r',y1 = (.ret r')∧x = .ret∧Ends CX Try.f20.results.toList (.tup [(.agg (vs (Form.cs r'.1))),(.agg (vs (Form.cs r'.2.1))),(vb r'.2.2)]) x e σ)) ⟨EI V,H⟩ ?_) ?_
 ·intro s1 e σ hI z h;obtain ⟨he,H⟩:=hI;obtain ⟨e,rfl⟩:=he.ex;unfold Z08.s0 at h;refine .tR 1 V H fun b5 σ H => (.iV V (.na H fun H => (.then ?_)));refine .wh h V ?_ ?_ <;> intro h
  ·refine .skip (.then (.inBlock (.tR 3 V H fun b6 σ H => ?_)));obtain ⟨x2,q2,h⟩:=bs h;refine .jV q2 V (.pV V (.aV V (.na H fun H => (.tR 20 V H fun b7 σ H => (.mV V (.nV V (.iV V (.mV V ?_))))))));obtain ⟨y2,hj2,h⟩:=bs h;refine .md H 6 [(43,(vb y2)),(1,(.v (.int .u8 m))),(2,(.ptr (b1 + 0) 4 0)),(4,(.ptr (b1 + 1) 4 0)),(5,(.ptr (b1 + 2) 4 0)),(8,(vl Span.cs x2)),(28,(vl (cL Span.cs) f.Core)),(29,(vi (f.Core.length:Int))),(30,(vi s1))] [.blk (b1 + 2) 25 [(vi 0),(vi 0),.nils,.nils],.blk (b1 + 1) 25 [(vi 0),(vi 0),.nils,.nils],.blk (b1 + 0) 25 (vF f)] V ?_ fun e σ H => ?_
   ·refine .sp hj2 V ?_ ?_ <;> intro h
    ·refine .ps 5 V (.kT V (.nil ?_));obtain rfl:=sj h;exact ⟨EI V,H.wk (by omega)⟩
    refine .mV V (.wt V V ?_);obtain ⟨x3,q3,h⟩:=bs h;refine .jV q3 V (.wt V V (.Z0B V V V V (.pV V (.iV V (.kF V (.nil ?_))))));obtain rfl:=sj h;exact ⟨EI V,H.wk (by omega)⟩
   refine .mV V ?_;obtain ⟨y3,hj3,h⟩:=bs h;refine .md H 9 [(53,(vb y3)),(1,(.v (.int .u8 m))),(2,(.ptr (b1 + 0) 4 0)),(4,(.ptr (b1 + 1) 4 0)),(5,(.ptr (b1 + 2) 4 0)),(28,(vl (cL Span.cs) f.Core)),(29,(vi (f.Core.length:Int))),(30,(vi s1))] [.blk (b1 + 2) 25 [(vi 0),(vi 0),.nils,.nils],.blk (b1 + 1) 25 [(vi 0),(vi 0),.nils,.nils],.blk (b1 + 0) 25 (vF f)] V ?_ fun e σ H => ?_
   ·refine .sp hj3 V ?_ ?_ <;> intro h
    ·refine .ps 8 V (.kT V (.nil ?_));obtain rfl:=sj h;exact ⟨EI V,H.wk (by omega)⟩
    refine .mV V (.mV V (.nV V (.iV V (.wt V V ?_))));obtain ⟨x4,q4,h⟩:=bs h;refine .jV q4 V (.wt V V (.Z0B V V V V (.pV V (.iV V (.kF V (.nil ?_))))));obtain rfl:=sj h;exact ⟨EI V,H.wk (by omega)⟩
   refine .na H fun H => ?_;refine .wh h V ?_ ?_ <;> intro h
   ·refine .then (.Z0P 5 V (by kernel_rfl) H fun b8 σ H B8 => (.Z2N (cs:=(vF f)) H 2 V V V V V V V (so (B8 2 _ V _ V)) V (.Z2N (cs:=(vF f)) H 2 V V V V V V V (so (B8 2 _ V _ V)) V (.Z39 (cells':=(vF f)) H 1 V V V V V V V V V (fun _ => .inl ⟨B8 1 _ V _ V,(Z63 [1] (by kernel_rfl) (.cons V V (ne_one (H.ne (j:=1) (k:=2) V V V V V)) .nil))⟩) fun σ H => (.Z39 (cells':=(vF f)) H 0 V V V V V V V V V (fun _ => .inl ⟨B8 0 _ V _ V,(Z2c (by kernel_rfl))⟩) fun σ H => (.aV V (.na H fun H => (.ret ?_))))))));obtain rfl:=sj h;exact ⟨nofun,(.inr ⟨_,V,V,(Ends.H (xs:=[(.agg (vF f)),(.agg (vF f)),(vb false)]) (.inr V) H (.agg (cs:=(vF f)) 1 V V V V V V V (.agg (cs:=(vF f)) 0 V V V V V V V (.tmp (v:=(vb false)) V .nil))) (.two (.cons (.p V) (.cons (.p V) (.cons (.c (.v _)) .nil)))))⟩)⟩
   refine .skip (.ZJ 2 V H fun b9 σ H => (.iV V (.mV V (.na H fun H => ?_))));obtain rfl:=sj h;exact ⟨V,EI V,H⟩
  refine .exit ?_;obtain rfl:=sj h;exact ⟨nofun,(.inl ⟨_,V,V,EI V,H⟩)⟩
 ·rintro x e σ (⟨a2,rfl,rfl,he,H⟩ | ⟨r',rfl,rfl,hE⟩)
  ·replace h:=jgo h;obtain ⟨e,rfl⟩:=he.ex;refine .tR 12 V H fun b10 σ H => (.LV (vF f) H 2 V (.mV V (.rem (m:=m) (m':=9) V V (by decide) V (.conv (m:=(m.tmod 9)) V V V V (.iV V ?_)))));obtain ⟨x5,q5,h⟩:=bs h;refine .cV (Z7g q5) V (.m1 (.tup [(.agg (vF x5.1)),(vi x5.2)]) V V (.xV V (.xV V (.alc (cs:=[(vi 0),(vi 0),.nils,.nils]) H V V fun σ H => (.sV (vF x5.1) H 0 V fun σ H => (.aV V (.na H fun H => (.then ?_))))))));refine .Z0P 7 V (by kernel_rfl) H fun b11 σ H B11 => (.Z2N (cs:=(vF f)) H 3 V V V V V V V (so (B11 3 _ V _ V)) V (.Z2N (cs:=(vF x5.1)) H 0 V V V V V V V (so (B11 0 _ V _ V)) V (.mV V (.iV V (.Z39 (cells':=(vF f)) H 2 V V V V V V V V V (fun _ => .inl ⟨B11 2 _ V _ V,(Z63 [1,3] (by kernel_rfl) (.cons V V (ne_one (H.ne (j:=2) (k:=0) V V V V V)) (.cons V V ne_none .nil)))⟩) fun σ H => (.Z39 (cells':=(vF x5.1)) H 1 V V V V V V V V V (fun _ => .inl ⟨B11 1 _ V _ V,(Z63 [3] (by kernel_rfl) (.cons V V ne_none .nil))⟩) fun σ H => (.aV V (.na H fun H => ?_))))))));refine .ret ?_;obtain rfl:=sj h;exact (Ends.H (xs:=[(.agg (vF f)),(.agg (vF x5.1)),(vb (x5.2 == 0))]) (.inr V) H (.agg (cs:=(vF f)) 2 V V V V V V V (.agg (cs:=(vF x5.1)) 1 V V V V V V V (.tmp (v:=(vb (x5.2 == 0))) V .nil))) (.two (.cons (.p V) (.cons (.p V) (.cons (.c (.v _)) .nil)))))
  ·replace h:=jret h;obtain rfl:=sj h;exact hE
end Go.Dn

namespace Go.Dn
open Go Go.Proofs
set_option maxRecDepth 100000
set_option maxHeartbeats 4000000
theorem Z2Y {a:Form} {b:Form} {r:Bool} (h:Z3 a b = some r):Fn CX 12 [(.agg (vs (Form.cs a))),(.agg (vs (Form.cs b)))] (vb r):=by
 refine Fn.go Try.func12 V fun σ H => ?_;unfold Z3 at h;refine .tR 3 V H fun b1 σ H => (.bxc (cs:=(vF a)) H V V V fun σ H => (.bxc (cs:=(vF b)) H V V V fun σ H => (.aV V (.na H fun H => (.then (.tR 30 V H fun b2 σ H => (.fV H 1 V (.lV H 1 V ?_))))))));refine .fV H 0 V (.lV H 0 V (.iV V (.mV V ?_)));refine .md H 6 [(20,(vb ((a.Period != b.Period) || (a.Count != b.Count)))),(2,(.ptr (b1 + 0) 4 0)),(3,(.ptr (b1 + 1) 4 0))] [.blk (b1 + 1) 25 (vF b),.blk (b1 + 0) 25 (vF a)] rfl ?_ fun e σ H => ?_
 ·refine .split V V ?_ ?_ <;> intro hc1
  ·refine .ps 5 V (.kT V (.nil ?_));exact ⟨⟨or_T hc1,V,V,U⟩,H.wk (by omega)⟩
  ·refine .fV H 1 V (.lV H 1 V (.fV H 0 V (.lV H 0 V (.iV V (.kF V (.nil ?_))))));exact ⟨⟨or_F hc1,V,V,U⟩,H.wk (by omega)⟩
 refine .mV V ?_;refine .md H 8 [(29,(vb (((a.Period != b.Period) || (a.Count != b.Count)) || ((a.Core.length:Int) != (b.Core.length:Int))))),(2,(.ptr (b1 + 0) 4 0)),(3,(.ptr (b1 + 1) 4 0))] [.blk (b1 + 1) 25 (vF b),.blk (b1 + 0) 25 (vF a)] rfl ?_ fun e σ H => ?_
 ·refine .split V V ?_ ?_ <;> intro hc2
  ·refine .ps 7 V (.kT V (.nil ?_));exact ⟨⟨or_T hc2,V,V,U⟩,H.wk (by omega)⟩
  ·refine .fV H 1 V (.lV H 1 V (.nV V (.fV H 0 V (.lV H 0 V (.nV V (.iV V (.kF V (.nil ?_))))))));exact ⟨⟨or_F hc2,V,V,U⟩,H.wk (by omega)⟩
 refine .mV V ?_;refine .md H 8 [(38,(vb ((((a.Period != b.Period) || (a.Count != b.Count)) || ((a.Core.length:Int) != (b.Core.length:Int))) || ((a.Odd.length:Int) != (b.Odd.length:Int))))),(2,(.ptr (b1 + 0) 4 0)),(3,(.ptr (b1 + 1) 4 0))] [.blk (b1 + 1) 25 (vF b),.blk (b1 + 0) 25 (vF a)] rfl ?_ fun e σ H => ?_
 ·refine .split V V ?_ ?_ <;> intro hc3
  ·refine .ps 7 V (.kT V (.nil ?_));exact ⟨⟨or_T hc3,V,V,U⟩,H.wk (by omega)⟩
  ·refine .fV H 1 V (.lV H 1 V (.nV V (.fV H 0 V (.lV H 0 V (.nV V (.iV V (.kF V (.nil ?_))))))));exact ⟨⟨or_F hc3,V,V,U⟩,H.wk (by omega)⟩
 refine .na H fun H => ?_;refine .wh h V ?_ ?_ <;> intro h
 ·refine .tR 1 V H fun b3 σ H => (.aV V (.na H fun H => (.ret ?_)));obtain rfl:=sj h;exact Ends.eR V
 refine .skip (.then (.tR 4 V H fun b4 σ H => (.fV H 1 V (.lV H 1 V (.nV V (.mV V (.na H fun H => (.inBlock ?_))))))));obtain ⟨y1,hj1,h⟩:=bs h;obtain ⟨n1,hj1⟩:=ZR.1 hj1;refine .mono (Runs.loopO hj1 (fun s1 e σ => ZE e [(2,(.ptr (b1 + 0) 4 0)),(3,(.ptr (b1 + 1) 4 0)),(40,(vl (cL Span.cs) a.Core)),(41,(vi (a.Core.length:Int))),(42,(vi s1))]∧Hs σ [.blk (b1 + 1) 25 (vF b),.blk (b1 + 0) 25 (vF a)]) (fun y1 x e σ => (∃ a1,y1 = (.go a1)∧x = .exit 0∧ZE e [(2,(.ptr (b1 + 0) 4 0)),(3,(.ptr (b1 + 1) 4 0))]∧Hs σ [.blk (b1 + 1) 25 (vF b),.blk (b1 + 0) 25 (vF a)])∨(∃ r',y1 = (.ret r')∧x = .ret∧Ends CX Try.f12.results.toList (vb r') x e σ)) ⟨EI V,H⟩ ?_) ?_
 ·intro s1 e σ hI z h;obtain ⟨he,H⟩:=hI;obtain ⟨e,rfl⟩:=he.ex;unfold Z3.s0 at h;refine .tR 1 V H fun b5 σ H => (.iV V (.na H fun H => (.then ?_)));refine .wh h V ?_ ?_ <;> intro h
  ·refine .skip (.then (.inBlock (.tR 5 V H fun b6 σ H => (.mV V ?_))));obtain ⟨x1,q1,h⟩:=bs h;refine .jV q1 V (.pV V (.aV V (.aV V (.na H fun H => (.tR 8 V H fun b7 σ H => (.mV V (.fV H 0 V (.lV H 0 V ?_))))))));refine .mV V ?_;obtain ⟨x2,q2,h⟩:=bs h;refine .jV q2 V (.pV V ?_);obtain ⟨x3,q3,h⟩:=bs h;refine .cV (Z3z q3) V (.tV V (.na H fun H => ?_));refine .wh h V ?_ ?_ <;> intro h
   ·refine .tR 1 V H fun b8 σ H => (.aV V (.na H fun H => (.ret ?_)));obtain rfl:=sj h;exact ⟨nofun,(.inr ⟨_,V,V,(Ends.H (xs:=[(vb false)]) (.inr V) H (.tmp (v:=(vb false)) V .nil) (.one (.c (.v _))))⟩)⟩
   refine .skip (.ZJ 2 V H fun b9 σ H => (.iV V (.mV V (.na H fun H => ?_))));obtain rfl:=sj h;exact ⟨V,EI V,H⟩
  refine .exit ?_;obtain rfl:=sj h;exact ⟨nofun,(.inl ⟨_,V,V,EI V,H⟩)⟩
 ·rintro x e σ (⟨a2,rfl,rfl,he,H⟩ | ⟨r',rfl,rfl,hE⟩)
  ·replace h:=jgo h;obtain ⟨e,rfl⟩:=he.ex;refine .then (.tR 4 V H fun b10 σ H => (.fV H 1 V (.lV H 1 V (.nV V (.mV V (.na H fun H => (.inBlock ?_)))))));obtain ⟨y2,hj2,h⟩:=bs h;obtain ⟨n2,hj2⟩:=ZR.1 hj2;refine .mono (Runs.loopO hj2 (fun s2 e σ => ZE e [(3,(.ptr (b1 + 1) 4 0)),(57,(vl Granule.cs a.Odd)),(58,(vi (a.Odd.length:Int))),(59,(vi s2))]∧Hs σ [.blk (b1 + 1) 25 (vF b)]) (fun y2 x e σ => (∃ a3,y2 = (.go a3)∧x = .exit 2∧ZE e []∧Hs σ [])∨(∃ r',y2 = (.ret r')∧x = .ret∧Ends CX Try.f12.results.toList (vb r') x e σ)) ⟨EI V,(H.erase 1)⟩ ?_) ?_
   ·intro s2 e σ hI z h;obtain ⟨he,H⟩:=hI;obtain ⟨e,rfl⟩:=he.ex;unfold Z3.s1 at h;refine .tR 1 V H fun b11 σ H => (.iV V (.na H fun H => (.then ?_)));refine .wh h V ?_ ?_ <;> intro h
    ·refine .skip (.then (.inBlock (.tR 6 V H fun b12 σ H => (.mV V ?_))));obtain ⟨x4,q4,h⟩:=bs h;refine .jV q4 V (.qV [(.int .i64 x4.Index),(.sl (x4.Ticks.map Span.cs))] V (.alc (cs:=[(vi 0),.nils]) H V V fun σ H => (.aV V (.sV [(vi x4.Index),(vl Span.cs x4.Ticks)] H 0 V fun σ H => (.na H fun H => (.then (.Z0P 21 V (by kernel_rfl) H fun b13 σ H B13 => (.ZN H 0 V V V V V (so (B13 0 _ V _ V)) V ?_))))))));refine .ld (vi x4.Index) H 0 V V V V V (so (B13 0 _ V _ V)) V (.ZN H 1 V V V V V (so (B13 1 _ V _ V)) V (.ld (vl Granule.cs b.Odd) H 1 V V V V V (so (B13 1 _ V _ V)) V (.mV V ?_)));obtain ⟨x5,q5,h⟩:=bs h;refine .jV q5 V (.Z0B V V V V (.pV V (.iV V (.mV V ?_))));obtain ⟨y3,hj3,h⟩:=bs h;refine .md H 11 [(84,(vb y3)),(3,(.ptr (b1 + 1) 4 0)),(57,(vl Granule.cs a.Odd)),(58,(vi (a.Odd.length:Int))),(59,(vi s2))] [.blk (b1 + 1) 25 (vF b)] V ?_ fun e σ H => ?_
     ·refine .sp hj3 V ?_ ?_ <;> intro h
      ·refine .ps 10 V (.kT V (.nil ?_));obtain rfl:=sj h;exact ⟨EI V,(H.erase 0).wk (by omega)⟩
      refine .wt V V (.ZN H 0 V V V V V (so (B13 0 _ V _ V)) V (.wt V V (.ld (vl Span.cs x4.Ticks) H 0 V V V V V (so (B13 0 _ V _ V)) V (.wt V V (.ZN H 1 V V V V V (so (B13 1 _ V _ V)) V (.wt V V (.ld (vl Granule.cs b.Odd) H 1 V V V V V (so (B13 1 _ V _ V)) V (.mV V ?_))))))));refine .wt V V ?_;obtain ⟨x6,q6,h⟩:=bs h;refine .jV q6 V (.wt V V (.Z0B V V V V (.pV V (.wt V V ?_))));obtain ⟨x7,q7,h⟩:=bs h;refine .cV (Z3z q7) V (.tV V (.kF V (.nil ?_)));obtain rfl:=sj h;exact ⟨EI V,(H.erase 0).wk (by omega)⟩
     refine .na H fun H => ?_;refine .wh h V ?_ ?_ <;> intro h
     ·refine .tR 1 V H fun b14 σ H => (.aV V (.na H fun H => (.ret ?_)));obtain rfl:=sj h;exact ⟨nofun,(.inr ⟨_,V,V,(Ends.H (xs:=[(vb false)]) (.inr V) H (.tmp (v:=(vb false)) V .nil) (.one (.c (.v _))))⟩)⟩
     refine .skip (.ZJ 2 V H fun b15 σ H => (.iV V (.mV V (.na H fun H => ?_))));obtain rfl:=sj h;exact ⟨V,EI V,H⟩
    refine .exit ?_;obtain rfl:=sj h;exact ⟨nofun,(.inl ⟨_,V,V,U,(H.erase 0)⟩)⟩
   ·rintro x e σ (⟨a4,rfl,rfl,he,H⟩ | ⟨r',rfl,rfl,hE⟩)
    ·replace h:=jgo h;obtain ⟨e,rfl⟩:=he.ex;refine .tR 1 V H fun b16 σ H => (.aV V (.na H fun H => (.ret ?_)));obtain rfl:=sj h;exact Ends.eR V
    ·replace h:=jret h;obtain rfl:=sj h;exact hE
  ·replace h:=jret h;obtain rfl:=sj h;exact hE
theorem Z6n {f:Form} {g:Int} {k:Int} {n:Int} {l:Int} {m:Int} {r:Bool} (h:Z1v f g k n l m = some r):Fn CX 6 [(.agg (vs (Form.cs f))),(.v (.int .u8 g)),(.v (.int .u8 k)),(.v (.int .u8 n)),(.v (.int .u8 l)),(.v (.int .u8 m))] (vb r):=by
 refine Fn.go Try.func6 V fun σ H => ?_;unfold Z1v at h;refine .tR 2 V H fun b1 σ H => (.bxc (cs:=(vF f)) H V V V fun σ H => (.aV V (.na H fun H => (.tR 12 V H fun b2 σ H => (.LV (vF f) H 0 V (.mV V ?_))))));obtain ⟨x1,q1,h⟩:=bs h;refine .cV (Z9d q1) V (.m1 (.tup [(.agg (vF x1.1)),(.agg (vF x1.2.1)),(vb x1.2.2)]) V V (.xV V (.xV V (.xV V (.alc (cs:=[(vi 0),(vi 0),.nils,.nils]) H V V fun σ H => (.alc (cs:=[(vi 0),(vi 0),.nils,.nils]) H V V fun σ H => (.sV (vF x1.1) H 1 V fun σ H => (.sV (vF x1.2.1) H 0 V fun σ H => ?_))))))));refine .aV V (.na H fun H => (.then (.tR 2 V H fun b3 σ H => (.mV V (.tV V (.na H fun H => ?_))))));refine .wh h V ?_ ?_ <;> intro h
 ·refine .tR 2 V H fun b4 σ H => (.cV (Z2G V) V (.aV V (.na H fun H => (.ret ?_))));obtain rfl:=sj h;exact Ends.eR V
 refine .skip (.tR 5 V H fun b5 σ H => (.mV V (.rem (m:=m) (m':=12) V V (by decide) V (.conv (m:=(m.tmod 12)) V V V V (.iV V (.aV V (.na H fun H => (.tR 13 V H fun b6 σ H => ?_))))))));refine .mV V (.conv (m:=l) V V V V (.mV V ?_));obtain ⟨u1,q2,h⟩:=bs h;refine .rem (m:=(w64 l)) (m':=(w64 (1 + (w64 (m.tmod 12))))) V V (Z6D q2) V (.mV V (.rem (m:=k) (m':=10) V V (by decide) V (.conv (m:=(k.tmod 10)) V V V V (.mV V (.rem (m:=n) (m':=10) V V (by decide) V (.conv (m:=(n.tmod 10)) V V V V (.aV V (.aV V ?_))))))));refine .aV V (.na H fun H => (.tR 11 V H fun b7 σ H => (.LV (vF x1.1) H 1 V (.LV (vF x1.2.1) H 0 V (.mV V (.mV V ?_))))));obtain ⟨x2,q3,h⟩:=bs h;refine .cV (Z1f q3) V (.m1 (.tup [(.agg (vF x2.1)),(vi x2.2)]) V V (.xV V (.xV V (.alc (cs:=[(vi 0),(vi 0),.nils,.nils]) H V V fun σ H => (.sV (vF x2.1) H 0 V fun σ H => (.aV V (.na H fun H => (.then ?_))))))));refine .tR 2 V H fun b8 σ H => (.mV V (.iV V (.na H fun H => ?_)));refine .wh h V ?_ ?_ <;> intro h
 ·refine .tR 10 V H fun b9 σ H => (.mV V (.iV V (.mV V ?_)));refine .md H 3 [(69,(vb ((x2.2 == 3) || (x2.2 == 20))))] [] rfl ?_ fun e σ H => ?_
  ·refine .split V V ?_ ?_ <;> intro hc3
   ·refine .ps 2 V (.kT V (.nil ?_));exact ⟨⟨or_T hc3,U⟩,((((H.erase 3).erase 2).erase 1).erase 0).wk (by omega)⟩
   ·refine .mV V (.iV V (.kF V (.nil ?_)));exact ⟨⟨or_F hc3,U⟩,((((H.erase 3).erase 2).erase 1).erase 0).wk (by omega)⟩
  refine .mV V ?_;refine .md H 2 [(72,(vb (((x2.2 == 3) || (x2.2 == 20)) && Zm)))] [] rfl ?_ fun e σ H => ?_
  ·refine .split V V ?_ ?_ <;> intro hc4
   ·refine .cV (Z2G V) V (.kT V (.nil ?_));exact ⟨⟨Z3C hc4,U⟩,H.wk (by omega)⟩
   ·refine .ps 1 V (.kF V (.nil ?_));exact ⟨⟨Z3B hc4,U⟩,H.wk (by omega)⟩
  refine .aV V (.na H fun H => (.ret ?_));obtain rfl:=sj h;exact Ends.eR V
 refine .skip (.then (.then (.Z0P 5 V (by kernel_rfl) H fun b10 σ H B10 => (.Z2N (cs:=(vF x2.1)) H 0 V V V V V V V (so (B10 0 _ V _ V)) V (.Z2N (cs:=(vF x1.2.1)) H 1 V V V V V V V (so (B10 1 _ V _ V)) V ?_)))));obtain ⟨x3,q4,h⟩:=bs h;refine .cV (Z94 q4) V ?_;obtain ⟨x4,q5,h⟩:=bs h;refine .cV (Z2Y q5) V (.tV V (.na H fun H => ?_));refine .wh h V ?_ ?_ <;> intro h
 ·refine .tR 1 V H fun b11 σ H => (.aV V (.na H fun H => (.ret ?_)));obtain rfl:=sj h;exact Ends.eR V
 refine .skip (.tR 12 V H fun b12 σ H => (.LV (vF x1.1) H 2 V (.LV (vF x1.2.1) H 1 V (.mV V (.mV V (.mV V ?_))))));obtain ⟨x5,q6,h⟩:=bs h;refine .cV (Z1f q6) V (.m1 (.tup [(.agg (vF x5.1)),(vi x5.2)]) V V (.xV V (.xV V (.alc (cs:=[(vi 0),(vi 0),.nils,.nils]) H V V fun σ H => (.sV (vF x5.1) H 0 V fun σ H => (.aV V (.na H fun H => (.then ?_))))))));refine .tR 2 V H fun b13 σ H => (.mV V (.iV V (.na H fun H => ?_)));refine .wh h V ?_ ?_ <;> intro h
 ·refine .tR 10 V H fun b14 σ H => (.mV V (.iV V (.mV V ?_)));refine .md H 3 [(94,(vb ((x5.2 == 3) || (x5.2 == 20))))] [] rfl ?_ fun e σ H => ?_
  ·refine .split V V ?_ ?_ <;> intro hc7
   ·refine .ps 2 V (.kT V (.nil ?_));exact ⟨⟨or_T hc7,U⟩,(((((H.erase 4).erase 3).erase 2).erase 1).erase 0).wk (by omega)⟩
   ·refine .mV V (.iV V (.kF V (.nil ?_)));exact ⟨⟨or_F hc7,U⟩,(((((H.erase 4).erase 3).erase 2).erase 1).erase 0).wk (by omega)⟩
  refine .mV V ?_;refine .md H 2 [(97,(vb (((x5.2 == 3) || (x5.2 == 20)) && Zm)))] [] rfl ?_ fun e σ H => ?_
  ·refine .split V V ?_ ?_ <;> intro hc8
   ·refine .cV (Z2G V) V (.kT V (.nil ?_));exact ⟨⟨Z3C hc8,U⟩,H.wk (by omega)⟩
   ·refine .ps 1 V (.kF V (.nil ?_));exact ⟨⟨Z3B hc8,U⟩,H.wk (by omega)⟩
  refine .aV V (.na H fun H => (.ret ?_));obtain rfl:=sj h;exact Ends.eR V
 refine .skip (.tR 13 V H fun b15 σ H => (.LV (vF x1.1) H 3 V (.LV (vF x5.1) H 0 V (.mV V (.neg (m:=(w64 (k.tmod 10))) V V (.mV V (.mV V ?_)))))));obtain ⟨x6,q7,h⟩:=bs h;refine .cV (Z1f q7) V (.m1 (.tup [(.agg (vF x6.1)),(vi x6.2)]) V V (.xV V (.xV V (.alc (cs:=[(vi 0),(vi 0),.nils,.nils]) H V V fun σ H => (.sV (vF x6.1) H 0 V fun σ H => (.aV V (.na H fun H => (.then ?_))))))));refine .tR 20 V H fun b16 σ H => (.mV V (.iV V (.mV V ?_)));obtain ⟨y1,hj1,h⟩:=bs h;refine .md H 5 [(115,(vb y1)),(13,(.ptr (b2 + 7) 4 0)),(14,(.ptr (b2 + 8) 4 0)),(16,(vi (w64 (1 + (w64 (m.tmod 12)))))),(17,(vi ((w64 l).tmod (w64 (1 + (w64 (m.tmod 12))))))),(18,(vi (w64 (k.tmod 10)))),(19,(vi (w64 (n.tmod 10)))),(22,(.ptr (b12 + 9) 4 0)),(25,(vi x6.2))] [.blk (b12 + 9) 25 (vF x5.1),.blk (b2 + 8) 25 (vF x1.2.1),.blk (b2 + 7) 25 (vF x1.1)] V ?_ fun e σ H => ?_
 ·refine .sp hj1 V ?_ ?_ <;> intro h
  ·refine .LV (vF x6.1) H 0 V (.LV (vF x2.1) H 2 V (.wt V V ?_));obtain ⟨x7,q8,h⟩:=bs h;refine .cV (Z2Y q8) V (.tV V (.kT V (.nil ?_)));obtain rfl:=sj h;exact ⟨EI V,(((H.erase 5).erase 2).erase 0).wk (by omega)⟩
  refine .ps 4 V (.kF V (.nil ?_));obtain rfl:=sj h;exact ⟨EI V,(((H.erase 5).erase 2).erase 0).wk (by omega)⟩
 refine .mV V ?_;refine .md H 11 [(127,(vb (y1 || (((x6.2 != 0) && (x6.2 != 3)) && (x6.2 != 20))))),(13,(.ptr (b2 + 7) 4 0)),(14,(.ptr (b2 + 8) 4 0)),(16,(vi (w64 (1 + (w64 (m.tmod 12)))))),(17,(vi ((w64 l).tmod (w64 (1 + (w64 (m.tmod 12))))))),(18,(vi (w64 (k.tmod 10)))),(19,(vi (w64 (n.tmod 10)))),(22,(.ptr (b12 + 9) 4 0))] [.blk (b12 + 9) 25 (vF x5.1),.blk (b2 + 8) 25 (vF x1.2.1),.blk (b2 + 7) 25 (vF x1.1)] rfl ?_ fun e σ H => ?_
 ·refine .split V V ?_ ?_ <;> intro hc10
  ·refine .ps 10 V (.kT V (.nil ?_));exact ⟨⟨or_T hc10,V,V,V,V,V,V,V,U⟩,H.wk (by omega)⟩
  ·refine .mV V (.iV V (.mV V ?_));refine .md H 3 [(122,(vb ((x6.2 != 0) && (x6.2 != 3)))),(13,(.ptr (b2 + 7) 4 0)),(14,(.ptr (b2 + 8) 4 0)),(16,(vi (w64 (1 + (w64 (m.tmod 12)))))),(17,(vi ((w64 l).tmod (w64 (1 + (w64 (m.tmod 12))))))),(18,(vi (w64 (k.tmod 10)))),(19,(vi (w64 (n.tmod 10)))),(22,(.ptr (b12 + 9) 4 0)),(25,(vi x6.2)),(116,(vb false))] [.blk (b12 + 9) 25 (vF x5.1),.blk (b2 + 8) 25 (vF x1.2.1),.blk (b2 + 7) 25 (vF x1.1)] V ?_ fun e σ H => ?_
   ·refine .split V V ?_ ?_ <;> intro hc11
    ·refine .mV V (.iV V (.kT V (.nil ?_)));exact ⟨⟨Z3C hc11,V,V,V,V,V,V,V,V,V,U⟩,H.wk (by omega)⟩
    ·refine .ps 2 V (.kF V (.nil ?_));exact ⟨⟨Z3B hc11,V,V,V,V,V,V,V,V,V,U⟩,H.wk (by omega)⟩
   refine .mV V ?_;refine .md H 3 [(126,(vb (((x6.2 != 0) && (x6.2 != 3)) && (x6.2 != 20)))),(13,(.ptr (b2 + 7) 4 0)),(14,(.ptr (b2 + 8) 4 0)),(16,(vi (w64 (1 + (w64 (m.tmod 12)))))),(17,(vi ((w64 l).tmod (w64 (1 + (w64 (m.tmod 12))))))),(18,(vi (w64 (k.tmod 10)))),(19,(vi (w64 (n.tmod 10)))),(22,(.ptr (b12 + 9) 4 0)),(116,(vb false))] [.blk (b12 + 9) 25 (vF x5.1),.blk (b2 + 8) 25 (vF x1.2.1),.blk (b2 + 7) 25 (vF x1.1)] V ?_ fun e σ H => ?_
   ·refine .split V V ?_ ?_ <;> intro hc12
    ·refine .mV V (.iV V (.kT V (.nil ?_)));exact ⟨⟨Z3C hc12,V,V,V,V,V,V,V,V,U⟩,H.wk (by omega)⟩
    ·refine .ps 2 V (.kF V (.nil ?_));exact ⟨⟨Z3B hc12,V,V,V,V,V,V,V,V,U⟩,H.wk (by omega)⟩
   refine .kF V (.nil ?_);exact ⟨⟨or_F hc10,V,V,V,V,V,V,V,U⟩,H.wk (by omega)⟩
 refine .na H fun H => ?_;refine .wh h V ?_ ?_ <;> intro h
 ·refine .tR 1 V H fun b17 σ H => (.aV V (.na H fun H => (.ret ?_)));obtain rfl:=sj h;exact Ends.eR V
 refine .skip (.tR 12 V H fun b18 σ H => (.LV (vF x1.1) H 2 V (.LV (vF x5.1) H 0 V (.mV V (.mV V (.mV V ?_))))));obtain ⟨x8,q9,h⟩:=bs h;refine .cV (Z1f q9) V (.m1 (.tup [(.agg (vF x8.1)),(vi x8.2)]) V V (.xV V (.xV V (.alc (cs:=[(vi 0),(vi 0),.nils,.nils]) H V V fun σ H => (.sV (vF x8.1) H 0 V fun σ H => (.aV V (.na H fun H => (.tR 14 V H fun b19 σ H => ?_))))))));refine .LV (vF x1.1) H 3 V (.LV (vF x1.2.1) H 2 V (.mV V (.mV V (.iV V (.mV V (.mV V ?_))))));obtain ⟨x9,q10,h⟩:=bs h;refine .cV (Z1f q10) V (.m1 (.tup [(.agg (vF x9.1)),(vi x9.2)]) V V (.xV V (.xV V (.alc (cs:=[(vi 0),(vi 0),.nils,.nils]) H V V fun σ H => (.sV (vF x9.1) H 0 V fun σ H => (.aV V (.na H fun H => (.tR 15 V H fun b20 σ H => ?_))))))));refine .mV V (.iV V (.mV V ?_));refine .md H 3 [(153,(vb ((x8.2 != 0) || (x9.2 != 0)))),(26,(.ptr (b18 + 9) 4 0)),(28,(.ptr (b19 + 11) 4 0))] [.blk (b19 + 11) 25 (vF x9.1),.blk (b18 + 9) 25 (vF x8.1)] rfl ?_ fun e σ H => ?_
 ·refine .split V V ?_ ?_ <;> intro hc14
  ·refine .ps 2 V (.kT V (.nil ?_));exact ⟨⟨or_T hc14,V,V,U⟩,(((H.erase 4).erase 3).erase 2).wk (by omega)⟩
  ·refine .mV V (.iV V (.kF V (.nil ?_)));exact ⟨⟨or_F hc14,V,V,U⟩,(((H.erase 4).erase 3).erase 2).wk (by omega)⟩
 refine .mV V ?_;obtain ⟨y2,hj2,h⟩:=bs h;refine .md H 4 [(158,(vb y2))] [] V ?_ fun e σ H => ?_
 ·refine .sp hj2 V ?_ ?_ <;> intro h
  ·refine .ps 3 V (.kT V (.nil ?_));obtain rfl:=sj h;exact ⟨EI V,((H.erase 1).erase 0).wk (by omega)⟩
  refine .LV (vF x8.1) H 1 V (.LV (vF x9.1) H 0 V (.wt V V ?_));obtain ⟨x10,q11,h⟩:=bs h;refine .cV (Z2Y q11) V (.kF V (.nil ?_));obtain rfl:=sj h;exact ⟨EI V,((H.erase 1).erase 0).wk (by omega)⟩
 refine .mV V ?_;refine .md H 2 [(161,(vb (y2 && Zm)))] [] V ?_ fun e σ H => ?_
 ·refine .split V V ?_ ?_ <;> intro hc16
  ·refine .cV (Z2G V) V (.kT V (.nil ?_));exact ⟨⟨Z3C hc16,U⟩,H.wk (by omega)⟩
  ·refine .ps 1 V (.kF V (.nil ?_));exact ⟨⟨Z3B hc16,U⟩,H.wk (by omega)⟩
 refine .aV V (.na H fun H => (.ret ?_));obtain rfl:=sj h;exact Ends.eR V
end Go.Dn

namespace Go.Dn
open Go
theorem Z14 {S R:Type} {step:S→Option (S ⊕ R)} (I:S→Prop) (m:S→Nat) (post:R→Prop)
  (h:∀ s,I s→(∃ s',step s = some (.inl s')∧I s'∧m s' < m s)∨(∃ r,step s = some (.inr r)∧post r)):∀ s,I s→∃ r,loopO step s = some r∧post r:=by
 have key:∀ n s,m s = n→I s→∃ r,loopO step s = some r∧post r:=by
  intro n
  induction n using Nat.strongRecOn with
  | _ n ih =>
   intro s hm hI
   rcases h s hI with ⟨s',h1,h2,h3⟩ | ⟨r,h1,h2⟩
   ·obtain ⟨r,q1,q2⟩:=ih (m s') (by omega) s' rfl h2
    exact ⟨r,by rw [Z71,h1];exact q1,q2⟩
   ·exact ⟨r,by rw [Z71,h1],h2⟩
 exact fun s hI => key _ s rfl hI
theorem Z1G {S R:Type} {step:S→Option (S ⊕ R)} (I:S→R→Prop) (m:S→Nat)
  (h:∀ s r,I s r→(∃ s',step s = some (.inl s')∧I s' r∧m s' < m s)∨step s = some (.inr r)) {s:S} {r:R} (hI:I s r):loopO step s = some r:=by
 obtain ⟨r',h1,h2⟩:=Z14 (I:=fun s => I s r) m (fun r' => r' = r) (fun s hs => by
  rcases h s r hs with ⟨s',h1,h2,h3⟩ | h1
  ·exact .inl ⟨s',h1,h2,h3⟩
  ·exact .inr ⟨r,h1,rfl⟩) s hI
 rw [h1,h2]
theorem Z6k (a:Int):IntKind.i64.wrap a = (a + 9223372036854775808) % 18446744073709551616 - 9223372036854775808:=by
 simp [IntKind.wrap,IntKind.bits,IntKind.signed]
 split <;> omega
theorem Z5y (a:Int):IntKind.u64.wrap a = a % 18446744073709551616:=by
 simp [IntKind.wrap,IntKind.bits,IntKind.signed]
theorem ZC {x:Int} (h : -9223372036854775808≤x∧x≤9223372036854775807):w64 x = x:=by
 unfold w64;rw [Z6k];omega
theorem ZAl:maxLen = 9223372036854775807:=rfl
theorem Z4m:room = 140737488355328:=rfl
theorem at?_lt {α:Type} {l:List α} {i:Int} (h0:0≤i) (h:i < l.length):at? l i = some (l[i.toNat]'(by omega)):=by
 unfold at?;rw [if_pos h0,Y2]
theorem at?_nat {α:Type} {l:List α} {k:Nat} (h:k < l.length):at? l (k:Int) = some l[k]:=by
 rw [at?_lt (by omega) (by omega)];rfl
theorem app?_ok {α:Type} {b:Nat} {l m:List α} (h:(l.length + m.length) * b≤room):app? b l m = some (l ++ m):=if_pos h
theorem nz?_ok {b:Int} (h:b ≠ 0):nz? b = some ():=if_neg h
theorem Z98 {a b:Int} (h:a = b):(a == b) = true:=by simp [h]
theorem Z4Q {a b:Int} (h:a ≠ b):(a == b) = false:=by simp [h]
theorem bne_t {a b:Int} (h:a ≠ b):(a != b) = true:=by simp [h]
theorem Z86 {a b:Int} (h:a = b):(a != b) = false:=by simp [h]
theorem ibeq (a b:Int):(a == b) = decide (a = b):=by by_cases h:a = b <;> simp [h]
theorem ZX {p:Prop} [Decidable p] (h:p):decide p = true:=by simp [h]
theorem ZW {p:Prop} [Decidable p] (h:¬ p):decide p = false:=by simp [h]
theorem pickB {α:Type} (c:Bool) (a b:α):(bif c then a else b) = if c = true then a else b:=by cases c <;> rfl
theorem ZAg {α:Type} {l:List α} {good:Nat→α→Prop} (h:¬ ∀ k x,l[k]? = some x→good k x):∃ (k:Nat) (x:α),l[k]? = some x∧¬ good k x∧∀ j y,j < k→l[j]? = some y→good j y:=by
 have hex:∃ k:Nat,∃ x,l[k]? = some x∧¬ good k x:=by
  apply Classical.byContradiction;intro hn;exact h fun k x hk => Classical.byContradiction fun hg => hn ⟨k,x,hk,hg⟩
 obtain ⟨k,hk⟩:=hex
 induction k using Nat.strongRecOn with
 | _ k ih =>
  by_cases h:∃ j,j < k∧∃ x,l[j]? = some x∧¬ good j x
  ·obtain ⟨j,hj,hx⟩:=h
   exact ih j hj hx
  ·obtain ⟨x,hx,hb⟩:=hk
   exact ⟨k,x,hx,hb,fun j y hj hy => Classical.byContradiction fun hg => h ⟨j,hj,y,hy,hg⟩⟩
theorem Z3a {α R:Type} {l:List α} {step:Int→Option (Int ⊕ R)} (good:Nat→α→Prop) {no yes:R}
  (hstep:∀ (k:Nat) (x:α),l[k]? = some x→(∀ j y,j < k→l[j]? = some y→good j y)→(step (k:Int) = some (.inl ((k:Int) + 1))∧good k x)∨(step (k:Int) = some (.inr no)∧¬ good k x))
  (hend:step (l.length:Int) = some (.inr yes)):(loopO step 0 = some yes∧∀ k x,l[k]? = some x→good k x)∨(loopO step 0 = some no∧¬ ∀ k x,l[k]? = some x→good k x):=by
 by_cases hall:∀ k x,l[k]? = some x→good k x
 ·refine .inl ⟨?_,hall⟩;refine Z1G (I:=fun (s:Int) r => r = yes∧∃ k:Nat,s = k∧k≤l.length) (fun s => (l.length - s.toNat)) ?_ ⟨rfl,0,rfl,YX _⟩
  rintro s r ⟨rfl,k,rfl,hk⟩
  by_cases hlt:k < l.length
  ·rcases hstep k l[k] (Y2 hlt) (fun j y _ hy => hall j y hy) with ⟨h1,_⟩ | ⟨_,h2⟩
   ·exact .inl ⟨_,h1,⟨rfl,k + 1,by push_cast;rfl,hlt⟩,by simp;omega⟩
   ·exact absurd (hall k _ (Y2 hlt)) h2
  ·have:k = l.length:=by omega
   subst this;exact .inr hend
 ·refine .inr ⟨?_,hall⟩;obtain ⟨k0,x0,hx0,hb0,hgood⟩:=ZAg hall
  have hlt0:=(List.getElem?_eq_some_iff.1 hx0).1
  refine Z1G (I:=fun (s:Int) r => r = no∧∃ k:Nat,s = k∧k≤k0) (fun s => (l.length - s.toNat)) ?_ ⟨rfl,0,rfl,YX _⟩
  rintro s r ⟨rfl,k,rfl,hk⟩
  by_cases hlt:k < k0
  ·have hkl:k < l.length:=by omega
   rcases hstep k l[k] (Y2 hkl) (fun j y hj hy => hgood j y (by omega) hy) with ⟨h1,_⟩ | ⟨_,h2⟩
   ·exact .inl ⟨_,h1,⟨rfl,k + 1,by push_cast;rfl,hlt⟩,by simp;omega⟩
   ·exact absurd (hgood k _ hlt (Y2 hkl)) h2
  ·have:k = k0:=by omega
   subst this
   rcases hstep k x0 hx0 hgood with ⟨_,h2⟩ | ⟨h1,_⟩
   ·exact absurd h2 hb0
   ·exact .inr h1
theorem fold_loop {α A R:Type} {l:List α} {step:A × Int→Option ((A × Int) ⊕ R)} (f:A→Nat→α→A) (fin:A→R) (I:Nat→A→Prop) {a0:A} (h0:I 0 a0)
  (hgo:∀ (k:Nat) (x:α) (a:A),l[k]? = some x→I k a→step (a,(k:Int)) = some (.inl (f a k x,(k:Int) + 1))∧I (k + 1) (f a k x))
  (hend:∀ a,I l.length a→step (a,(l.length:Int)) = some (.inr (fin a))):∃ a,loopO step (a0,0) = some (fin a)∧I l.length a:=by
 obtain ⟨r,h1,a,rfl,h2⟩:=Z14 (step:=step) (I:=fun s => ∃ (k:Nat) (a:A),s = (a,(k:Int))∧k≤l.length∧I k a) (fun s => l.length - s.2.toNat) (fun r => ∃ a,r = fin a∧I l.length a) (by
  rintro s ⟨k,a,rfl,hk,hI⟩
  by_cases hlt:k < l.length
  ·obtain ⟨q1,q2⟩:=hgo k l[k] a (Y2 hlt) hI
   exact .inl ⟨_,q1,⟨k + 1,_,by push_cast;rfl,hlt,q2⟩,by simp;omega⟩
  ·have:k = l.length:=by omega
   subst this;exact .inr ⟨_,hend a hI,a,rfl,hI⟩) (a0,0) ⟨0,a0,rfl,YX _,h0⟩
 exact ⟨a,h1,h2⟩
end Go.Dn

namespace Go.Dn
open Go
def In64 (a:Int):Prop:=-9223372036854775808≤a∧a≤9223372036854775807
def Z70 (a:Int):Prop:=0≤a∧a≤18446744073709551615
def fitS (a:Int):Int × Int:=if -9223372036854775808≤a∧a≤9223372036854775807 then (a,0) else (0,10)
theorem ZA0 {a:Int} (h:In64 a):fitS a = (a,0):=if_pos h
theorem fitS_not {a:Int} (h:¬ In64 a):fitS a = (0,10):=if_neg h
theorem Z7Q (x:Int):(In64 x∧fitS x = (x,0))∨(¬ In64 x∧fitS x = (0,10)):=by
 by_cases h:In64 x
 ·exact .inl ⟨h,ZA0 h⟩
 ·exact .inr ⟨h,fitS_not h⟩
theorem and32 (x:Int) (h:Z70 x):(((BitVec.ofInt 64 x &&& BitVec.ofInt 64 4294967295).toNat:Nat):Int) = x % 4294967296:=by
 obtain ⟨n,rfl⟩:=Int.eq_ofNat_of_zero_le h.1
 have hn:n < 2 ^ 64:=by have:=h.2;omega
 have h1:(BitVec.ofInt 64 (n:Int)).toNat = n:=by simp [BitVec.toNat_ofInt];omega
 have h2:(BitVec.ofInt 64 4294967295).toNat = 2 ^ 32 - 1:=by decide
 rw [BitVec.toNat_and,h1,h2,Nat.and_two_pow_sub_one_eq_mod]
 omega
theorem mul64_fact {x y:Int} (hx:Z70 x) (hy:Z70 y) :
  (x / 4294967296 * (y / 4294967296) + (x / 4294967296 * (y % 4294967296) + x % 4294967296 * (y % 4294967296) / 4294967296) / 4294967296 +
   ((x / 4294967296 * (y % 4294967296) + x % 4294967296 * (y % 4294967296) / 4294967296) % 4294967296 + x % 4294967296 * (y / 4294967296)) / 4294967296) = x * y / 18446744073709551616 ∧
  0≤x % 4294967296 * (y % 4294967296)∧x % 4294967296 * (y % 4294967296)≤18446744065119617025 ∧
  0≤x / 4294967296 * (y % 4294967296)∧x / 4294967296 * (y % 4294967296)≤18446744065119617025 ∧
  0≤x % 4294967296 * (y / 4294967296)∧x % 4294967296 * (y / 4294967296)≤18446744065119617025 ∧
  0≤x / 4294967296 * (y / 4294967296)∧x / 4294967296 * (y / 4294967296)≤18446744065119617025:=by
 have b:∀ {u v:Int},0≤u→u≤4294967295→0≤v→v≤4294967295→0≤u * v∧u * v≤18446744065119617025:=by
  intro u v h1 h2 h3 h4;exact ⟨Y0G h1 h3,Int.le_trans (Int.mul_le_mul h2 h4 h3 (by omega)) (by decide)⟩
 obtain ⟨hx1,hx2⟩:=hx
 obtain ⟨hy1,hy2⟩:=hy
 obtain ⟨a1,a2⟩:=b (u:=x % 4294967296) (v:=y % 4294967296) (by omega) (by omega) (by omega) (by omega)
 obtain ⟨b1,b2⟩:=b (u:=x / 4294967296) (v:=y % 4294967296) (by omega) (by omega) (by omega) (by omega)
 obtain ⟨c1,c2⟩:=b (u:=x % 4294967296) (v:=y / 4294967296) (by omega) (by omega) (by omega) (by omega)
 obtain ⟨d1,d2⟩:=b (u:=x / 4294967296) (v:=y / 4294967296) (by omega) (by omega) (by omega) (by omega)
 refine ⟨?_,a1,a2,b1,b2,c1,c2,d1,d2⟩
 have e:x * y = x / 4294967296 * (y / 4294967296) * 18446744073709551616 + (x / 4294967296 * (y % 4294967296) + x % 4294967296 * (y / 4294967296)) * 4294967296 + x % 4294967296 * (y % 4294967296):=by
  have ex:x = x / 4294967296 * 4294967296 + x % 4294967296:=by omega
  have ey:y = y / 4294967296 * 4294967296 + y % 4294967296:=by omega
  clear a1 a2 b1 b2 c1 c2 d1 d2 b hx1 hx2 hy1 hy2
  generalize x / 4294967296 = x1 at *
  generalize x % 4294967296 = x0 at *
  generalize y / 4294967296 = y1 at *
  generalize y % 4294967296 = y0 at *
  subst ex ey;simp only [Y0S,Int.mul_add];have h1:x1 * 4294967296 * (y1 * 4294967296) = x1 * y1 * 18446744073709551616:=by
   rw [Yc,Yp 4294967296,Yc y1,← Yc]
   rfl
  have h2:x1 * 4294967296 * y0 = x1 * y0 * 4294967296:=by rw [Yc,Yp 4294967296,← Yc]
  have h3:x0 * (y1 * 4294967296) = x0 * y1 * 4294967296:=by rw [← Yc]
  rw [h1,h2,h3];omega
 rw [e]
 generalize x / 4294967296 * (y / 4294967296) = d at *
 generalize x / 4294967296 * (y % 4294967296) = b' at *
 generalize x % 4294967296 * (y / 4294967296) = c at *
 generalize x % 4294967296 * (y % 4294967296) = a at *
 omega
theorem ZBh {a b:Int} (ha:In64 a) (hb:In64 b):Zc a b = fitS (a + b):=by
 unfold In64 at ha hb
 unfold Zc fitS w64
 rw [Z6k]
 cases h:((decide ((a + b + 9223372036854775808) % 18446744073709551616 - 9223372036854775808 > a) != decide (b > 0)) && b != 0)
 ·rw [cond_false];simp only [Y0t,bne_eq_false_iff_eq,decide_eq_decide] at h
  split <;> simp only [Y3,and_true] <;> omega
 ·rw [cond_true];simp only [Y9,bne_iff_ne,ne_eq,decide_eq_decide] at h
  split <;> simp only [Y3] <;> omega
theorem Z3R {a:Int} (h:In64 a):ZZ a = a.natAbs:=by
 unfold In64 at h
 unfold ZZ
 rw [pickB]
 simp only [decide_eq_true_eq,Z5y]
 split <;> omega
theorem inU_abs {a:Int} (h:In64 a):Z70 a.natAbs:=by unfold In64 at h;unfold Z70;omega
theorem natAbs_prod (a b:Int):(a.natAbs:Int) * b.natAbs = (a * b).natAbs:=by rw [Int.natAbs_mul];simp
theorem mul64_eq {x y:Int} (hx:Z70 x) (hy:Z70 y):Zu x y = (x * y / 18446744073709551616,x * y % 18446744073709551616):=by
 unfold Zu
 have hb:∀ z:Int,z.fdiv (2 ^ 32) = z / 4294967296:=fun z => Y0a z (by decide)
 have hm:(IntKind.u64.bits) = 64:=rfl
 obtain ⟨h1,h2,h3,h4,h5,h6,h7,h8,h9⟩:=mul64_fact hx hy
 have hw:∀ z:Int,0≤z→z≤18446744073709551615→IntKind.u64.wrap z = z:=fun z q1 q2 => by rw [Z5y];omega
 simp only [hb,iAnd]
 rw [hm,and32 x hx,and32 y hy]
 have x0:0≤x % 4294967296∧x % 4294967296 < 4294967296:=by omega
 have y0:0≤y % 4294967296∧y % 4294967296 < 4294967296:=by omega
 rw [hw (x % 4294967296) (by omega) (by omega),hw (y % 4294967296) (by omega) (by omega),hw _ h2 (by omega),hw _ h4 (by omega),hw _ h6 (by omega),hw _ h8 (by omega)]
 rw [hw (x / 4294967296 * (y % 4294967296) + x % 4294967296 * (y % 4294967296) / 4294967296) (by omega) (by omega)]
 rw [and32 _ ⟨by omega,by omega⟩]
 have t0:0≤(x / 4294967296 * (y % 4294967296) + x % 4294967296 * (y % 4294967296) / 4294967296) % 4294967296∧(x / 4294967296 * (y % 4294967296) + x % 4294967296 * (y % 4294967296) / 4294967296) % 4294967296 < 4294967296:=by omega
 rw [hw ((x / 4294967296 * (y % 4294967296) + x % 4294967296 * (y % 4294967296) / 4294967296) % 4294967296) (by omega) (by omega)]
 rw [hw ((x / 4294967296 * (y % 4294967296) + x % 4294967296 * (y % 4294967296) / 4294967296) % 4294967296 + x % 4294967296 * (y / 4294967296)) (by omega) (by omega)]
 rw [hw (x / 4294967296 * (y / 4294967296) + (x / 4294967296 * (y % 4294967296) + x % 4294967296 * (y % 4294967296) / 4294967296) / 4294967296) (by omega) (by omega)]
 rw [hw _ (by omega) (by omega),h1,Z5y]
theorem Z5t {n:Int} (m:Bool) (h:Z70 n):Z1d n m = fitS (if m then -n else n):=by
 unfold Z70 at h
 unfold Z1d fitS w64
 rw [pickB,pickB,Z5y,Z6k,Z6k]
 cases m <;> simp only [Bool.true_and,Y0m,Yg,Y0l,decide_eq_true_eq,YA,if_false,if_true]
 ·split
  ·rw [if_pos (by omega)];simp only [Y3,and_true];omega
  ·rw [if_neg (by omega)]
 ·split
  ·rw [if_pos (by omega)];simp only [Y3,and_true];omega
  ·rw [if_neg (by omega)]
theorem Z2V {a b:Int} (ha:In64 a) (hb:In64 b):Z7 a b = fitS (a * b):=by
 unfold Z7
 rw [Z3R ha,Z3R hb,mul64_eq (inU_abs ha) (inU_abs hb),pickB]
 simp only [natAbs_prod]
 rw [Z5t _ (by unfold Z70;omega)]
 by_cases h:((a * b).natAbs:Int) / 18446744073709551616 = 0
 ·rw [if_neg (by simp [h])]
  have e:((a * b).natAbs:Int) % 18446744073709551616 = (a * b).natAbs:=by omega
  rw [e]
  show fitS _ = _
  refine congrArg fitS ?_
  by_cases h1:a < 0 <;> by_cases h2:b < 0 <;> simp only [h1,h2,decide_true,decide_false]
  ·have:=Int.mul_nonneg_of_nonpos_of_nonpos (Y11 h1) (Y11 h2)
   simp;omega
  ·have:=Int.mul_nonpos_of_nonpos_of_nonneg (Y11 h1) (Int.not_lt.1 h2)
   simp;omega
  ·have:=Y08 (Int.not_lt.1 h1) (Y11 h2)
   simp;omega
  ·have:=Y0G (Int.not_lt.1 h1) (Int.not_lt.1 h2)
   simp;omega
 ·rw [if_pos (by simp [h])]
  unfold fitS;rw [if_neg];omega
def Z9P (a b:Int):Int × Int × Int:=if b = 0 then (0,0,11) else if b = -1∧a = -9223372036854775808 then (0,0,10) else (a.fdiv b,a.fmod b,0)
theorem floor_up {a b:Int} (hb:b ≠ 0) (h1:a.tmod b ≠ 0) (h2:¬(a.tmod b < 0 ↔ b < 0)):a.fdiv b = a.tdiv b - 1∧a.fmod b = a.tmod b + b:=by
 have q1:=Ya a hb
 have q2:=Int.emod_lt a hb
 have hd:b ∣ a ↔ a % b = 0:=Int.dvd_iff_emod_eq_zero
 rw [Int.fdiv_eq_ediv,Int.fmod_eq_emod,Int.tdiv_eq_ediv]
 rw [Int.tmod_eq_emod] at h1 h2 ⊢
 simp only [hd] at h1 h2 ⊢
 rcases Int.lt_or_gt_of_ne hb with h | h
 ·rw [Int.sign_eq_neg_one_of_neg h]
  split at h1 <;> split <;> simp_all <;> omega
 ·rw [Int.sign_eq_one_of_pos h]
  split at h1 <;> split <;> simp_all <;> omega
theorem floor_same {a b:Int} (hb:b ≠ 0) (h:a.tmod b = 0∨(a.tmod b < 0 ↔ b < 0)):a.fdiv b = a.tdiv b∧a.fmod b = a.tmod b:=by
 have q1:=Ya a hb
 have q2:=Int.emod_lt a hb
 have hd:b ∣ a ↔ a % b = 0:=Int.dvd_iff_emod_eq_zero
 rw [Int.fdiv_eq_ediv,Int.fmod_eq_emod,Int.tdiv_eq_ediv]
 rw [Int.tmod_eq_emod] at h ⊢
 simp only [hd] at h ⊢
 rcases Int.lt_or_gt_of_ne hb with hh | hh
 ·rw [Int.sign_eq_neg_one_of_neg hh]
  split at h <;> split <;> simp_all <;> omega
 ·rw [Int.sign_eq_one_of_pos hh]
  split at h <;> split <;> simp_all <;> omega
theorem tdiv_in {a b:Int} (ha:In64 a) (hb:b ≠ 0) (hn:¬(b = -1∧a = -9223372036854775808)):In64 (a.tdiv b):=by
 have h:(a.tdiv b).natAbs = a.natAbs / b.natAbs:=Int.natAbs_tdiv a b
 obtain ⟨h1,h2⟩:=ha
 by_cases hb1:b = 1
 ·subst hb1;rw [Int.tdiv_one];exact ⟨h1,h2⟩
 ·by_cases hb2:b = -1
  ·have ha':a ≠ -9223372036854775808:=fun e => hn ⟨hb2,e⟩
   have:a.natAbs / b.natAbs≤a.natAbs:=Nat.div_le_self _ _
   unfold In64;omega
  ·have h3:a.natAbs / b.natAbs≤a.natAbs / 2:=Nat.div_le_div_left (by omega) (by omega)
   unfold In64;omega
theorem tdiv_in1 {a b:Int} (ha:In64 a) (hb:b ≠ 0) (h1:a.tmod b ≠ 0):In64 (a.tdiv b - 1):=by
 have h:(a.tdiv b).natAbs = a.natAbs / b.natAbs:=Int.natAbs_tdiv a b
 obtain ⟨h2,h3⟩:=ha
 by_cases hb1:b = 1
 ·subst hb1;simp at h1
 ·by_cases hb2:b = -1
  ·subst hb2;simp at h1
  ·have h3:a.natAbs / b.natAbs≤a.natAbs / 2:=Nat.div_le_div_left (by omega) (by omega)
   unfold In64;omega
theorem wrap_in {a:Int} (h:In64 a):IntKind.i64.wrap a = a:=by rw [Z6k];unfold In64 at h;omega
theorem fmod_in {a b:Int} (hb:In64 b) (hb0:b ≠ 0):In64 (a.fmod b):=by
 have q1:=Ya a hb0
 have q2:=Int.emod_lt a hb0
 rw [Int.fmod_eq_emod]
 unfold In64 at *
 split <;> omega
theorem floor_leaf1 {a b:Int} (ha:In64 a) (hb:In64 b) (h0:b ≠ 0) (hn:¬(b = -1∧a = -9223372036854775808)) (h1:a.tmod b ≠ 0) (h2:¬(a.tmod b < 0 ↔ b < 0)) :
  (IntKind.i64.wrap (IntKind.i64.wrap (a.tdiv b) - 1),IntKind.i64.wrap (a.tmod b + b),(0:Int)) = Z9P a b:=by
 obtain ⟨e1,e2⟩:=floor_up h0 h1 h2
 rw [Z9P,if_neg h0,if_neg hn,e1,e2,wrap_in (tdiv_in ha h0 hn),wrap_in (tdiv_in1 ha h0 h1),wrap_in (by rw [← e2];exact fmod_in hb h0)]
theorem floor_leaf2 {a b:Int} (ha:In64 a) (hb:In64 b) (h0:b ≠ 0) (hn:¬(b = -1∧a = -9223372036854775808)) (h:a.tmod b = 0∨(a.tmod b < 0 ↔ b < 0)) :
  (IntKind.i64.wrap (a.tdiv b),a.tmod b,(0:Int)) = Z9P a b:=by
 obtain ⟨e1,e2⟩:=floor_same h0 h
 rw [Z9P,if_neg h0,if_neg hn,e1,e2,wrap_in (tdiv_in ha h0 hn)]
theorem Z1Z {a b:Int} (ha:In64 a) (hb:In64 b):Z0A a b = some (Z9P a b):=by
 unfold Z0A
 by_cases h0:b = 0
 ·subst h0;rfl
 rw [Z4Q h0,cond_false]
 by_cases hn:b = -1∧a = -9223372036854775808
 ·obtain ⟨rfl,rfl⟩:=hn
  rfl
 have:(b == -1 && a == -9223372036854775808) = false:=by
  simp only [Y0t,beq_eq_false_iff_ne]
  by_cases h:b = -1
  ·exact .inr fun e => hn ⟨h,e⟩
  ·exact .inl h
 rw [this,cond_false,nz?_ok h0]
 simp only [Y0,pickB,Y9,bne_iff_ne,ne_eq,decide_eq_decide]
 split
 ·rename_i h;simp only [Y0];exact congrArg some (floor_leaf1 ha hb h0 hn h.1 h.2)
 ·rename_i h;simp only [Y0];refine congrArg some (floor_leaf2 ha hb h0 hn ?_)
  by_cases h1:a.tmod b = 0
  ·exact .inl h1
  ·exact .inr (Classical.byContradiction fun h2 => h ⟨h1,h2⟩)
theorem Z8H {a b:Int} (hb:0 < b):a.fdiv b = a / b∧a.fmod b = a % b:=⟨Y0a a (Y11 hb),Int.fmod_eq_emod_of_nonneg a (Y11 hb)⟩
theorem Z3I {a b:Int} (hb:0 < b):Z9P a b = (a / b,a % b,0):=by
 unfold Z9P
 rw [if_neg (by omega),if_neg (by omega),(Z8H hb).1,(Z8H hb).2]
end Go.Dn
